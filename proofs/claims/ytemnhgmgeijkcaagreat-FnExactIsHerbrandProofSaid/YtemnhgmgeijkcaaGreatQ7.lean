/-
  The walk over plain data, and contracts of functions of the program and of its laws.
  Conditions: those that each theorem names.
-/
import Derived.Test.YtemnhgmgeijkcaaGreatQ6
import Derived.MapKept
import Derived.Lib.Walk
import Derived.Lib.SliceRun
import Derived.Lib.AppendZeros
import Derived.Test.YtemnhgmgeijkcaaGreatQ5
namespace Go.Proofs.YtemnhgmgeijkcaaGreat
set_option linter.unusedSimpArgs false
set_option linter.unusedVariables false
set_option linter.unusedSectionVars false
set_option maxRecDepth 4000
open Go.RowKit
variable {P : Program} {N : Nat}
def zdi (P : Program) (N : Nat) (c : Code) (σ : St) (Q : Exit -> St -> Prop) : Prop := ∀ n0 w0 A0 g a w, Rel n0 N σ g a w -> LtK n0 w -> Bk n0 w0 w -> (g.A0, g.R0) = A0 -> c.wp P (qav n0 N w0 A0 Q) a w
theorem qav.mono {n0 : Nat -> Prop} {w0 : World} {A0 : (Nat -> Prop) × RP} {Q Q' : Exit -> St -> Prop} (h : ∀ e σ, Q e σ -> Q' e σ) {e : Exit} {a : Act} {w : World} : qav n0 N w0 A0 Q e a w -> qav n0 N w0 A0 Q' e a w
 | ⟨σ, g, h1, h2⟩ => ⟨σ, g, h _ _ h1, h2⟩
theorem zdi.mono {c : Code} {σ : St} {Q Q' : Exit -> St -> Prop} (h : ∀ e σ, Q e σ -> Q' e σ) (k : zdi P N c σ Q) : zdi P N c σ Q' := fun n0 w0 A0 g a w h1 h2 h3 h4 => wp_mono (k n0 w0 A0 g a w h1 h2 h3 h4) fun _ _ _ => qav.mono h
theorem zdi.ofEx {c : Code} {σ : St} {Q : Exit -> St -> Prop} (hd : zbb N c = true) (h : ex P c [] Q σ) : zdi P N c σ Q := fun _ _ _ g a w h1 h2 h3 h4 => za8 c σ Q hd h g a w h1 h2 h3 h4
def zzo (P : Program) (N : Nat) (c : Code) (Q : Exit -> St -> Prop) (e : Exit) (σ : St) : Prop := match e with | .normal => zdi P N c σ Q | e => Q e σ
theorem zn8 (c : Code) (Q : Exit -> St -> Prop) (σ : St) : zzo P N c Q .normal σ = zdi P N c σ Q := rfl
theorem zw7 (c : Code) (Q : Exit -> St -> Prop) (σ : St) : zzo P N c Q .ret σ = Q .ret σ := rfl
theorem ztf (c : Code) (Q : Exit -> St -> Prop) (σ : St) (i : Nat) : zzo P N c Q (.exit i) σ = Q (.exit i) σ := rfl
theorem zdi.seq {x y : Code} {σ : St} {Q : Exit -> St -> Prop} (h : zdi P N x σ (zzo P N y Q)) : zdi P N (.seq x y) σ Q := fun n0 w0 A0 g a w h1 h2 h3 h4 => by
 refine wp_seq (wp_mono (h n0 w0 A0 g a w h1 h2 h3 h4) fun e a' w' hq => ?_)
 obtain ⟨σ', g', k1, k2, k3, k4, k5⟩ := hq
 cases e with
 | normal => exact k1 n0 w0 A0 g' a' w' k2 k3 k4 k5
 | exit i => exact ⟨σ', g', k1, k2, k3, k4, k5⟩
 | goto l => exact ⟨σ', g', k1, k2, k3, k4, k5⟩
 | ret => exact ⟨σ', g', k1, k2, k3, k4, k5⟩
 | panic ch => exact ⟨σ', g', k1, k2, k3, k4, k5⟩
 | outgrown => exact ⟨σ', g', k1, k2, k3, k4, k5⟩
def qcp : Nat -> Code -> Code
 | 0, .seq x _ => x
 | n + 1, .seq x y => .seq x (qcp n y)
 | _, c => c
def sufC : Nat -> Code -> Code
 | 0, .seq _ y => y
 | n + 1, .seq _ y => sufC n y
 | _, _ => .skip
def okC : Nat -> Code -> Bool
 | 0, .seq _ _ => true
 | n + 1, .seq _ y => okC n y
 | _, _ => false
theorem zdi.cut : ∀ (n : Nat) {c : Code} {σ : St} {Q : Exit -> St -> Prop}, okC n c = true -> zbb N (qcp n c) = true -> ex P (qcp n c) [] (zzo P N (sufC n c) Q) σ -> zdi P N c σ Q
 | 0, .seq x y, σ, Q, _, hd, h => zdi.seq (zdi.ofEx hd h)
 | n + 1, .seq x y, σ, Q, ho, hd, h => by
  simp only [qcp, zbb, Bool.and_eq_true] at hd
  refine zdi.seq (zdi.mono (fun e σ' k => ?_) (zdi.ofEx (Q := _) hd.1 h))
  cases e with
  | normal => exact zdi.cut n ho hd.2 k
  | exit i => exact k
  | goto l => exact k
  | ret => exact k
  | panic ch => exact k
  | outgrown => exact k
def blkQ (i : Nat) (Q : Exit -> St -> Prop) (e : Exit) (σ : St) : Prop := match e with | .exit j => if j = i then Q .normal σ else Q (.exit j) σ | e => Q e σ
theorem zoy (i : Nat) (Q : Exit -> St -> Prop) (σ : St) : blkQ i Q .normal σ = Q .normal σ := rfl
theorem qc7 (i : Nat) (Q : Exit -> St -> Prop) (σ : St) : blkQ i Q .ret σ = Q .ret σ := rfl
theorem zmj (i j : Nat) (Q : Exit -> St -> Prop) (σ : St) : blkQ i Q (.exit j) σ = if j = i then Q .normal σ else Q (.exit j) σ := rfl
theorem zdi.block {i : Nat} {c : Code} {σ : St} {Q : Exit -> St -> Prop} (h : zdi P N c σ (blkQ i Q)) : zdi P N (.block i c) σ Q := fun n0 w0 A0 g a w h1 h2 h3 h4 => by
 refine wp_block (wp_mono (h n0 w0 A0 g a w h1 h2 h3 h4) fun e a' w' hq => ?_)
 obtain ⟨σ', g', k1, k2, k3, k4, k5⟩ := hq
 cases e with
 | exit j =>
  simp only [Exit.inBlock]
  simp only [zmj] at k1
  split at k1
  ·rw [if_pos ‹_›]; exact ⟨σ', g', k1, k2, k3, k4, k5⟩
  ·rw [if_neg ‹_›]; exact ⟨σ', g', k1, k2, k3, k4, k5⟩
 | normal => exact ⟨σ', g', k1, k2, k3, k4, k5⟩
 | goto l => exact ⟨σ', g', k1, k2, k3, k4, k5⟩
 | ret => exact ⟨σ', g', k1, k2, k3, k4, k5⟩
 | panic ch => exact ⟨σ', g', k1, k2, k3, k4, k5⟩
 | outgrown => exact ⟨σ', g', k1, k2, k3, k4, k5⟩
def lpQ {X : Type} (I : X -> St) (Pr : X -> Prop) (μ : X -> Nat) (x : X) (Q : Exit -> St -> Prop) (e : Exit) (σ : St) : Prop := match e with | .normal => ∃ x', Pr x' /\ μ x' < μ x /\ Wk σ (I x') | e => Q e σ
section
variable {X : Type} (I : X -> St) (Pr : X -> Prop) (μ : X -> Nat) (x : X)
theorem zul (Q : Exit -> St -> Prop) (σ : St) : lpQ I Pr μ x Q .normal σ = ∃ x', Pr x' /\ μ x' < μ x /\ Wk σ (I x') := rfl
theorem qin (Q : Exit -> St -> Prop) (σ : St) : lpQ I Pr μ x Q .ret σ = Q .ret σ := rfl
theorem qc8 (Q : Exit -> St -> Prop) (σ : St) (i : Nat) : lpQ I Pr μ x Q (.exit i) σ = Q (.exit i) σ := rfl
end
theorem zdi.loop {b : Code} {σ : St} {Q : Exit -> St -> Prop} {X : Type} (I : X -> St) (Pr : X -> Prop) (μ : X -> Nat) (x0 : X) (h0 : Wk σ (I x0)) (p0 : Pr x0) (hr : ∀ x, Pr x -> zdi P N b (I x) (lpQ I Pr μ x Q)) : zdi P N (.loop b) σ Q := fun n0 w0 A0 g a w h1 h2 h3 h4 => by
 refine zlg (fun n a w => ∃ x g1, Pr x /\ μ x = n /\ Rel n0 N (I x) g1 a w /\ LtK n0 w /\ Bk n0 w0 w /\ (g1.A0, g1.R0) = A0) ?_ (n := μ x0) (by obtain ⟨g0, r1, r2, r3⟩ := h0 _ _ _ _ _ h1; exact ⟨x0, g0, p0, rfl, r1, h2, h3, by rw [r2, r3]; exact h4⟩)
 rintro n a w ⟨x, g1, px, rfl, k2, k3, k4, k5⟩
 refine wp_mono (hr x px n0 w0 A0 g1 a w k2 k3 k4 k5) fun e a' w' hq => ?_
 obtain ⟨σ', g', h1, h2, h3, h4, h5⟩ := hq
 cases e with
 | normal =>
  obtain ⟨x', p', hlt, hwk⟩ := h1
  obtain ⟨g2, r1, r2, r3⟩ := hwk _ _ _ _ _ h2
  exact ⟨μ x', hlt, x', g2, p', rfl, r1, h3, h4, by rw [r2, r3]; exact h5⟩
 | exit i => exact ⟨σ', g', h1, h2, h3, h4, h5⟩
 | goto l => exact ⟨σ', g', h1, h2, h3, h4, h5⟩
 | ret => exact ⟨σ', g', h1, h2, h3, h4, h5⟩
 | panic ch => exact ⟨σ', g', h1, h2, h3, h4, h5⟩
 | outgrown => exact ⟨σ', g', h1, h2, h3, h4, h5⟩
theorem qiu {f : FuncId} {fn : Func} {c : Code} {args : List (Bool × D)} {res : List D} (hc : za3 P f) (hf : P.funcs[f]? = some fn) (hb : fn.body = some c) (hN : args.length <= fn.ntmps) (hs : zb6 args)
  (h : ∀ (w : World) (vs : List Value) (fp tp : List Nat), za0 w (fun b => b < w.heap.size /\ b ∉ fp) args vs fp tp -> ∀ (g : Gh) (a : Act), Rel (fun b => b < w.heap.size /\ b ∉ fp) fn.ntmps (zds args) g a w -> (a.tmps = (⟨vs⟩ : Array Value) ++ Array.replicate (fn.ntmps - vs.length) undef /\ (g.A0, g.R0) = ((fun _ => True), RP.of fun b => b ∈ fp \/ w.heap.size <= b)) →
   ∃ σ0, zdi P fn.ntmps c σ0 (PS P fn.results.toList res) /\ Rel (fun b => b < w.heap.size /\ b ∉ fp) fn.ntmps σ0 g a w) : GC P f args res := by
 refine ⟨hc, fun w vs fp tp hv hn => ?_⟩
 refine calls_of_wp hf hb ?_
 have hv' : za0 w (fun b => b < w.heap.size /\ True /\ b ∉ fp) args vs fp tp := za0.keepA (fun b hb => ⟨hb.1, trivial, hb.2⟩) hv
 obtain ⟨g, hg, hR⟩ := Rel.start (A0 := fun _ => True) (R0 := RP.of fun b => b ∈ fp \/ w.heap.size <= b) (N := fn.ntmps) hv' hn hs hN (fun _ _ => trivial) (fun b hb => ⟨trivial, Or.inl hb⟩) (fun b hb => ⟨trivial, by
  by_cases hlt : b < w.heap.size
  ·exact Or.inl (Classical.byContradiction fun h => hb ⟨hlt, h⟩)
  ·exact Or.inr (by omega)⟩)
 obtain ⟨σ0, hex, hR0⟩ := h w vs fp tp hv g _ hR ⟨rfl, hg⟩
 refine wp_mono (hex _ w _ g _ w hR0 (fun k hk => hk.1) (Bk.refl _ _) hg) fun e a' w' hq => ?_
 obtain ⟨σ', g', h1, h2, h3, h4, h5⟩ := hq
 have fin : ∀ {us : List Value} {v : Value}, (results fn a'.tmps).run P w' = .ok v w' -> v = zbs us -> (∃ fp' tp', GDs w' res us fp' tp' /\ fp'.Nodup /\ ∀ b ∈ fp', ∃ e, σ'.On e /\ b ∈ g'.φ e) -> ∃ v, (results fn a'.tmps).run P w' = .ok v w' /\ ∃ us fp' tp', Ending.returned v = .returned (zbs us) /\ GDs w' res us fp' tp' /\ fp'.Nodup /\ (∀ b ∈ fp', b ∈ fp \/ w.heap.size <= b) /\ Bk (fun k => k < w.heap.size /\ k ∉ fp) w w' := fun {us v} r1 rv ⟨fp', tp', o1, o2, o3⟩ => by
  refine ⟨_, r1, us, fp', tp', by rw [rv], o1, o2, fun b hb => ?_, h4⟩
  obtain ⟨e, l, m⟩ := o3 b hb
  have := (h2.ebase e l b m).2
  rw [(Prod.mk.inj h5).2] at this
  exact this
 have key : (zaq (zbr P σ' fn.results.toList) (fun vs => qak σ' [] vs res) \/ PX P fn.results.toList res σ') -> ∃ v, (results fn a'.tmps).run P w' = .ok v w' /\ ∃ us fp' tp', Ending.returned v = .returned (zbs us) /\ GDs w' res us fp' tp' /\ fp'.Nodup /\ (∀ b ∈ fp', b ∈ fp \/ w.heap.size <= b) /\ Bk (fun k => k < w.heap.size /\ k ∉ fp) w w' := fun hk => by
  rcases hk with hk | ⟨pl, hk⟩
  ·obtain ⟨vs, hvs, hk⟩ := zap hk
   obtain ⟨us, r1, r2⟩ := zbj h2 fn hvs
   obtain ⟨used, fp', tp', o1, o2⟩ := zda h2 hk r2
   exact fin r1 rfl ⟨fp', tp', o1, o2.1, fun b hb => by obtain ⟨e, _, _, l, m⟩ := o2.2.1 b hb; exact ⟨e, l, m⟩⟩
  ·obtain ⟨vs, hvs, hk⟩ := zap hk
   obtain ⟨us, r1, r2⟩ := zbj h2 fn hvs
   exact fin r1 rfl (zw9 h2 hk r2)
 cases e with
 | normal => exact ⟨h2.defers, key h1⟩
 | ret => exact ⟨h2.defers, key h1⟩
 | exit _ => exact h1.elim
 | goto _ => exact h1.elim
 | panic _ => exact h1.elim
 | outgrown => exact h1.elim
theorem qij {f : FuncId} {fn : Func} {c : Code} {args res : List D} (hc : za3 P f) (hf : P.funcs[f]? = some fn) (hb : fn.body = some c) (hN : (rd args).length <= fn.ntmps)
  (h : zdi P fn.ntmps c (zfx args) (PS P fn.results.toList res)) : FC P f args res := by
 refine qiu hc hf hb hN (zcx args) fun w vs fp tp hv g a hR hg => ?_
 obtain ⟨hr, rfl, rfl⟩ := zcc hv
 exact ⟨zfx args, h, zhr hr hR hg⟩
structure RelM (n0 : Nat -> Prop) (N : Nat) (σ : St) (ag : Bool) (rows : List (List T)) (b : Nat) (A0 : (Nat -> Prop) × RP) (g : Gh) (a : Act) (w : World) : Prop where
 rel : ∃ (n1 : Nat -> Prop) (es : Array MapEntry) (clk : Nat), (∀ x, n0 x -> n1 x) /\ n1 b /\ ¬ g.A0 b /\ Rel n1 N σ g a w /\ LtK n1 w /\ w.heap[b]? = some (.map es clk) /\ zay w (fun x => n1 x /\ g.A0 x) ag rows es.toList
 nb : ¬ n0 b
 sub : ∀ x, g.A0 x -> A0.1 x
 r0 : g.R0 = A0.2
 new : ∀ x, ¬ n0 x -> A0.1 x /\ A0.2 x
def zna (n0 : Nat -> Prop) (N : Nat) (w0 : World) (A0 : (Nat -> Prop) × RP) (ag : Bool) (b : Nat) (Q : Exit -> St -> List (List T) -> Prop) (e : Exit) (a : Act) (w : World) : Prop := ∃ σ rows g, Q e σ rows /\ RelM n0 N σ ag rows b A0 g a w /\ LtK n0 w /\ Bk n0 w0 w
def zel (P : Program) (N : Nat) (ag : Bool) (b : Nat) (c : Code) (σ : St) (rows : List (List T)) (Q : Exit -> St -> List (List T) -> Prop) : Prop := ∀ n0 w0 A0 g a w, RelM n0 N σ ag rows b A0 g a w -> LtK n0 w -> Bk n0 w0 w -> c.wp P (zna n0 N w0 A0 ag b Q) a w
section
variable {ag : Bool} {b : Nat}
theorem zna.mono {n0 : Nat -> Prop} {w0 : World} {A0 : (Nat -> Prop) × RP} {Q Q' : Exit -> St -> List (List T) -> Prop} (h : ∀ e σ r, Q e σ r -> Q' e σ r) {e : Exit} {a : Act} {w : World} : zna n0 N w0 A0 ag b Q e a w -> zna n0 N w0 A0 ag b Q' e a w
 | ⟨σ, r, g, h1, h2⟩ => ⟨σ, r, g, h _ _ _ h1, h2⟩
theorem zel.mono {c : Code} {σ : St} {rows : List (List T)} {Q Q' : Exit -> St -> List (List T) -> Prop} (h : ∀ e σ r, Q e σ r -> Q' e σ r) (k : zel P N ag b c σ rows Q) : zel P N ag b c σ rows Q' := fun n0 w0 A0 g a w h1 h2 h3 => wp_mono (k n0 w0 A0 g a w h1 h2 h3) fun _ _ _ => zna.mono h
theorem RelM.keep {n0 n1 : Nat -> Prop} {σ σ' : St} {rows : List (List T)} {A0 : (Nat -> Prop) × RP} {g g' : Gh} {a a' : Act} {w w' : World} {es : Array MapEntry} {clk : Nat} (h : RelM n0 N σ ag rows b A0 g a w) (hn : ∀ x, n0 x -> n1 x) (hb : n1 b) (hA : ¬ g.A0 b) (he : w.heap[b]? = some (.map es clk)) (hr : zay w (fun x => n1 x /\ g.A0 x) ag rows es.toList)
  (h2 : Rel n1 N σ' g' a' w') (h3 : LtK n1 w') (h4 : Bk n1 w w') (h5 : (g'.A0, g'.R0) = (g.A0, g.R0)) : RelM n0 N σ' ag rows b A0 g' a' w' := by
 have e1 : g'.A0 = g.A0 := (Prod.mk.inj h5).1
 have e2 : g'.R0 = g.R0 := (Prod.mk.inj h5).2
 exact ⟨⟨n1, es, clk, hn, hb, by rw [e1]; exact hA, h2, h3, (h4.block b hb).trans he, zay.keep (fun x hx => h4.block x hx.1) (fun x hx => ⟨hx.1, by rw [e1]; exact hx.2⟩) ag rows _ hr⟩, h.nb, by rw [e1]; exact h.sub, by rw [e2]; exact h.r0, h.new⟩
theorem qe3 {n0 n1 : Nat -> Prop} {w w' : World} (hn : ∀ x, n0 x -> n1 x) (h : Bk n1 w w') : Bk n0 w w' := ⟨h.os, h.tape, h.output, h.size, fun k hk => h.block k (hn k hk)⟩
theorem zel.ofEx {c : Code} {σ : St} {rows : List (List T)} {Q : Exit -> St -> List (List T) -> Prop} (hd : zbb N c = true) (h : ex P c [] (fun e σ' => Q e σ' rows) σ) : zel P N ag b c σ rows Q := fun n0 w0 A0 g a w hM h2 h3 => by
 obtain ⟨n1, es, clk, k1, k2, k3, k4, k5, k6, k7⟩ := hM.rel
 refine wp_mono (za8 (w0 := w) (A0 := (g.A0, g.R0)) c σ _ hd h g a w k4 k5 (Bk.refl _ _) rfl) fun e a' w' hq => ?_
 obtain ⟨σ', g', h1, m2, m3, m4, m5⟩ := hq
 exact ⟨σ', rows, g', h1, hM.keep k1 k2 k3 k6 k7 m2 m3 m4 m5, h2.mono m4.size, h3.trans (qe3 k1 m4)⟩
def qaa (P : Program) (N : Nat) (ag : Bool) (b : Nat) (c : Code) (Q : Exit -> St -> List (List T) -> Prop) (e : Exit) (σ : St) (rows : List (List T)) : Prop := match e with | .normal => zel P N ag b c σ rows Q | e => Q e σ rows
theorem zmy (c : Code) (Q : Exit -> St -> List (List T) -> Prop) (σ : St) (rows : List (List T)) : qaa P N ag b c Q .normal σ rows = zel P N ag b c σ rows Q := rfl
theorem zt2 (c : Code) (Q : Exit -> St -> List (List T) -> Prop) (σ : St) (rows : List (List T)) (i : Nat) : qaa P N ag b c Q (.exit i) σ rows = Q (.exit i) σ rows := rfl
theorem zel.seq {x y : Code} {σ : St} {rows : List (List T)} {Q : Exit -> St -> List (List T) -> Prop} (h : zel P N ag b x σ rows (qaa P N ag b y Q)) : zel P N ag b (.seq x y) σ rows Q := fun n0 w0 A0 g a w h1 h2 h3 => by
 refine wp_seq (wp_mono (h n0 w0 A0 g a w h1 h2 h3) fun e a' w' hq => ?_)
 obtain ⟨σ', r', g', k1, k2, k3, k4⟩ := hq
 cases e with
 | normal => exact k1 n0 w0 A0 g' a' w' k2 k3 k4
 | exit i => exact ⟨σ', r', g', k1, k2, k3, k4⟩
 | goto l => exact ⟨σ', r', g', k1, k2, k3, k4⟩
 | ret => exact ⟨σ', r', g', k1, k2, k3, k4⟩
 | panic ch => exact ⟨σ', r', g', k1, k2, k3, k4⟩
 | outgrown => exact ⟨σ', r', g', k1, k2, k3, k4⟩
theorem zel.cut : ∀ (n : Nat) {c : Code} {σ : St} {rows : List (List T)} {Q : Exit -> St -> List (List T) -> Prop}, okC n c = true -> zbb N (qcp n c) = true -> ex P (qcp n c) [] (fun e σ' => qaa P N ag b (sufC n c) Q e σ' rows) σ -> zel P N ag b c σ rows Q
 | 0, .seq x y, σ, rows, Q, _, hd, h => zel.seq (zel.ofEx hd h)
 | n + 1, .seq x y, σ, rows, Q, ho, hd, h => by
  simp only [qcp, zbb, Bool.and_eq_true] at hd
  refine zel.seq (zel.mono (Q := fun e σ' r => r = rows /\ zva P [.seq (qcp n y)] (fun e σ' => qaa P N ag b (sufC n y) Q e σ' rows) e σ') (fun e σ' r k => ?_) (zel.ofEx hd.1 (zb3 (fun e σ' k => ⟨rfl, k⟩) h)))
  obtain ⟨rfl, k⟩ := k
  cases e with
  | normal => exact zel.cut n ho hd.2 k
  | exit i => exact k
  | goto l => exact k
  | ret => exact k
  | panic ch => exact k
  | outgrown => exact k
def blkM (i : Nat) (Q : Exit -> St -> List (List T) -> Prop) (e : Exit) (σ : St) (rows : List (List T)) : Prop := match e with | .exit j => if j = i then Q .normal σ rows else Q (.exit j) σ rows | e => Q e σ rows
theorem zpv (i : Nat) (Q : Exit -> St -> List (List T) -> Prop) (σ : St) (rows : List (List T)) : blkM i Q .normal σ rows = Q .normal σ rows := rfl
theorem zmp (i j : Nat) (Q : Exit -> St -> List (List T) -> Prop) (σ : St) (rows : List (List T)) : blkM i Q (.exit j) σ rows = if j = i then Q .normal σ rows else Q (.exit j) σ rows := rfl
theorem zel.block {i : Nat} {c : Code} {σ : St} {rows : List (List T)} {Q : Exit -> St -> List (List T) -> Prop} (h : zel P N ag b c σ rows (blkM i Q)) : zel P N ag b (.block i c) σ rows Q := fun n0 w0 A0 g a w h1 h2 h3 => by
 refine wp_block (wp_mono (h n0 w0 A0 g a w h1 h2 h3) fun e a' w' hq => ?_)
 obtain ⟨σ', r', g', k1, k2, k3, k4⟩ := hq
 cases e with
 | exit j =>
  simp only [Exit.inBlock]
  simp only [zmp] at k1
  split at k1
  ·rw [if_pos ‹_›]; exact ⟨σ', r', g', k1, k2, k3, k4⟩
  ·rw [if_neg ‹_›]; exact ⟨σ', r', g', k1, k2, k3, k4⟩
 | normal => exact ⟨σ', r', g', k1, k2, k3, k4⟩
 | goto l => exact ⟨σ', r', g', k1, k2, k3, k4⟩
 | ret => exact ⟨σ', r', g', k1, k2, k3, k4⟩
 | panic ch => exact ⟨σ', r', g', k1, k2, k3, k4⟩
 | outgrown => exact ⟨σ', r', g', k1, k2, k3, k4⟩
theorem RelM.wk {n0 : Nat -> Prop} {σ σ' : St} {rows : List (List T)} {A0 : (Nat -> Prop) × RP} {g : Gh} {a : Act} {w : World} (h : RelM n0 N σ ag rows b A0 g a w) (k : Wk σ σ') : ∃ g', RelM n0 N σ' ag rows b A0 g' a w := by
 obtain ⟨n1, es, clk, k1, k2, k3, k4, k5, k6, k7⟩ := h.rel
 obtain ⟨g', r1, r2, r3⟩ := k _ _ _ _ _ k4
 exact ⟨g', h.keep k1 k2 k3 k6 k7 r1 k5 (Bk.refl _ _) (by rw [r2, r3])⟩
def lpM {X : Type} (I : X -> St) (J : X -> List (List T)) (Pr : X -> Prop) (μ : X -> Nat) (x : X) (Q : Exit -> St -> List (List T) -> Prop) (e : Exit) (σ : St) (rows : List (List T)) : Prop := match e with | .normal => ∃ x', Pr x' /\ μ x' < μ x /\ J x' = rows /\ Wk σ (I x') | e => Q e σ rows
section
variable {X : Type} (I : X -> St) (J : X -> List (List T)) (Pr : X -> Prop) (μ : X -> Nat) (x : X)
theorem zuc (Q : Exit -> St -> List (List T) -> Prop) (σ : St) (rows : List (List T)) : lpM I J Pr μ x Q .normal σ rows = ∃ x', Pr x' /\ μ x' < μ x /\ J x' = rows /\ Wk σ (I x') := rfl
theorem qcc (Q : Exit -> St -> List (List T) -> Prop) (σ : St) (rows : List (List T)) (i : Nat) : lpM I J Pr μ x Q (.exit i) σ rows = Q (.exit i) σ rows := rfl
theorem zel.loop {c : Code} {σ : St} {rows : List (List T)} {Q : Exit -> St -> List (List T) -> Prop} (x0 : X) (h0 : Wk σ (I x0)) (j0 : J x0 = rows) (p0 : Pr x0) (hr : ∀ x, Pr x -> zel P N ag b c (I x) (J x) (lpM I J Pr μ x Q)) : zel P N ag b (.loop c) σ rows Q := fun n0 w0 A0 g a w h1 h2 h3 => by
 subst j0
 refine zlg (fun n a w => ∃ x g1, Pr x /\ μ x = n /\ RelM n0 N (I x) ag (J x) b A0 g1 a w /\ LtK n0 w /\ Bk n0 w0 w) ?_ (n := μ x0) (by obtain ⟨g0, r1⟩ := h1.wk h0; exact ⟨x0, g0, p0, rfl, r1, h2, h3⟩)
 rintro n a w ⟨x, g1, px, rfl, k2, k3, k4⟩
 refine wp_mono (hr x px n0 w0 A0 g1 a w k2 k3 k4) fun e a' w' hq => ?_
 obtain ⟨σ', r', g', h1, h2, h3, h4⟩ := hq
 cases e with
 | normal =>
  obtain ⟨x', p', hlt, rfl, hwk⟩ := h1
  obtain ⟨g2, r1⟩ := h2.wk hwk
  exact ⟨μ x', hlt, x', g2, p', rfl, r1, h3, h4⟩
 | exit i => exact ⟨σ', r', g', h1, h2, h3, h4⟩
 | goto l => exact ⟨σ', r', g', h1, h2, h3, h4⟩
 | ret => exact ⟨σ', r', g', h1, h2, h3, h4⟩
 | panic ch => exact ⟨σ', r', g', h1, h2, h3, h4⟩
 | outgrown => exact ⟨σ', r', g', h1, h2, h3, h4⟩
end
end
attribute [go_sem] zn8 zw7 ztf zoy qc7 zmj zul qin qc8 qcp sufC zmy zt2 zpv zmp zuc qcc
end Go.Proofs.YtemnhgmgeijkcaaGreat
namespace Go.Proofs.YtemnhgmgeijkcaaGreat
set_option linter.unusedSimpArgs false
set_option linter.unusedVariables false
set_option linter.unusedSectionVars false
set_option maxRecDepth 4000
open Go.RowKit
variable {P : Program} {N : Nat}
theorem znk {mt kt et : TypeId} {d : TypeDesc} (hm : P.underlying mt = some (.map kt et)) (hd : P.underlying kt = some d) {w : World} {r : Nat} {es : Array MapEntry} {clk : Nat} {key val : Value} (hb : w.heap[r]? = some (.map es clk)) (hk : Go.MapKept.IsKey d key) (hf : Instr.findNow d key es.toList 0 = some none) :
  (Instr.mapUpdate mt (.map (some r)) key val).run P w = .ok () { w with heap := w.heap.setIfInBounds r (.map (es.push { key, val, born := clk }) (clk + 1)) } := by
 simp [Instr.mapUpdate, run_underlying hm, Go.MapKept.run_getObj_map hb, Go.MapKept.run_checkKey hd hk, Go.MapKept.run_findKey hd hf, Go.MapKept.run_setObj_map _ hb, Result.andThen]
theorem zl6 {mt : TypeId} {w : World} : (Instr.makeMap mt none).run P w = .ok (.map (some w.heap.size)) (w.alloc (.map #[] 0)) := by
 simp [Instr.makeMap, Result.andThen]
theorem qai {ops : Array Oper} {K : St -> Prop} {n0 : Nat -> Prop} {w0 : World} {A0 : (Nat -> Prop) × RP} {R : Exit -> Act -> World -> Prop} {rest : List Nat} (hg : ∀ o ∈ ops.toList, o.guard = none) (hR : ∀ a w σ g, K σ -> Rel n0 N σ g a w -> LtK n0 w -> Bk n0 w0 w -> (g.A0, g.R0) = A0 -> wpOps P ops R rest a w) :
  ∀ (k i : Nat), i + k <= ops.size -> (∀ o ∈ ops.toList, ∀ d, o.dst = some d -> d < N) -> ∀ (σ : St) (g : Gh) (a : Act) (w : World), zbc P ops ((ops.toList.drop i).take k) σ K -> Rel n0 N σ g a w -> LtK n0 w -> Bk n0 w0 w -> (g.A0, g.R0) = A0 -> wpOps P ops R (List.range' i k ++ rest) a w
 | 0, i, hi, hd, σ, g, a, w, h, hr, hn, hb, hA => by
  rw [List.take_zero] at h
  exact hR a w σ g h hr hn hb hA
 | k + 1, i, hi, hd, σ, g, a, w, h, hr, hn, hb, hA => by
  have hlt : i < ops.size := by omega
  have hcons : ops.toList.drop i = ops[i] :: ops.toList.drop (i + 1) := by
   rw [List.drop_eq_getElem_cons (by simpa using hlt)]; rfl
  rw [hcons, List.take_succ_cons] at h
  rw [show List.range' i (k + 1) ++ rest = i :: (List.range' (i + 1) k ++ rest) from rfl, wpOps_cons]
  have ho : ops[i]? = some ops[i] := by simp [hlt]
  have hdi : ∀ d, ops[i].dst = some d -> d < N := hd _ (by simp)
  have hgi : ops[i].guard = none := hg _ (by simp)
  unfold wpOp
  simp only [ho]
  unfold zbc exG at h
  rw [hgi] at h
  have : Region.wanted ops[i] (yielded ops a.tmps) = true := by simp [Region.wanted, hgi]
  rw [if_pos this]
  exact Or.inl (zdy (fun a' w' ⟨σ', g', h0, k1, k2, k3, k4⟩ => qai hg hR k (i + 1) (by omega) hd σ' g' a' w' h0 k1 (hn.mono k2.size) (hb.trans k2) (by rw [k3, k4]; exact hA)) (zd6 h n0 N g a w hr hn hdi))
def mvC : C -> Option T
 | .rn t => some t
 | .t t => if t.flat = true then some t else none
 | _ => none
def mvCs : List C -> Option (List T)
 | [] => some []
 | c :: cs => (mvC c).bind fun t => (mvCs cs).map fun ts => t :: ts
def mvV (ag : Bool) : V -> Option (List T)
 | .agg cs => if ag = true then mvCs cs else none
 | .one c => if ag = true then none else (mvC c).map fun t => [t]
 | _ => none
theorem zyu {σ : St} {g : Gh} {w : World} {A : Nat -> Prop} (hA : ∀ b, zcg σ g w b -> A b) {c : C} {t : T} {v : Value} (h : mvC c = some t) (hv : CR σ g w c v) : zal w A t v := by
 cases c <;> simp only [mvC, Option.some.injEq, reduceCtorEq] at h
 ·split at h
  ·rename_i hf
   obtain rfl := Option.some.inj h
   exact zdm hf hv
  ·cases h
 ·subst h
  exact zal.keep (fun _ _ => rfl) hA _ _ hv
theorem zrv {σ : St} {g : Gh} {w : World} {A : Nat -> Prop} (hA : ∀ b, zcg σ g w b -> A b) : ∀ {cs : List C} {ts : List T} {vs : List Value}, mvCs cs = some ts -> CRs σ g w cs vs -> zad w A ts vs
 | [], ts, vs, h, hv => by
  obtain rfl := Option.some.inj h
  unfold zad
  exact hv
 | c :: cs, ts, vs, h, hv => by
  obtain ⟨t, h1, h⟩ := Option.bind_eq_some_iff.1 h
  obtain ⟨ts', h2, rfl⟩ := Option.map_eq_some_iff.1 h
  obtain ⟨v, vs', rfl, k1, k2⟩ := hv
  unfold zad
  exact ⟨v, vs', rfl, zyu hA h1 k1, zrv hA h2 k2⟩
theorem qhv {σ : St} {g : Gh} {w : World} {A : Nat -> Prop} (hA : ∀ b, zcg σ g w b -> A b) {ag : Bool} {x : V} {ts : List T} {v : Value} (h : mvV ag x = some ts) (hv : VR σ g w x v) : ∃ us, (if ag = true then v = .agg ⟨us⟩ else us = [v]) /\ zad w A ts us := by
 cases x with
 | agg cs =>
  simp only [mvV] at h
  split at h
  ·rename_i hag
   obtain ⟨us, rfl, hc⟩ := hv
   exact ⟨us, by rw [if_pos hag], zrv hA h hc⟩
  ·cases h
 | one c =>
  simp only [mvV] at h
  split at h
  ·cases h
  ·rename_i hag
   obtain ⟨t, h1, rfl⟩ := Option.map_eq_some_iff.1 h
   refine ⟨[v], by rw [if_neg hag], ?_⟩
   unfold zad
   refine ⟨v, [], rfl, zyu hA h1 hv, ?_⟩
   unfold zad; rfl
 | tup _ => cases h
theorem zay.push {w : World} {A : Nat -> Prop} {ag : Bool} {r : List T} {e : MapEntry} (he : ∃ us, (if ag = true then e.val = .agg ⟨us⟩ else us = [e.val]) /\ zad w A r (e.key :: us)) : ∀ {rows : List (List T)} {es : List MapEntry}, zay w A ag rows es -> zay w A ag (rows ++ [r]) (es ++ [e])
 | [], es, h => by
  unfold zay at h
  subst h
  obtain ⟨us, h1, h2⟩ := he
  show zay w A ag [r] [e]
  unfold zay
  refine ⟨e, [], us, rfl, h1, h2, ?_⟩
  unfold zay; rfl
 | _ :: rows, es, h => by
  unfold zay at h
  obtain ⟨e', es', us, rfl, h1, h2, h3⟩ := h
  show zay w A ag (_ :: (rows ++ [r])) (e' :: (es' ++ [e]))
  unfold zay
  exact ⟨e', _, us, rfl, h1, h2, zay.push he h3⟩
def updM (P : Program) (ag : Bool) (b : Nat) (mt : TypeId) (x k v : Operand) (σ : St) (rows : List (List T)) (K : St -> List (List T) -> Prop) : Prop := match σ.get P 0 x, σ.get P 0 k, mapT P mt, mvV ag (σ.get P 0 v) with
 | .one (.cv (.map (some b'))), .one (.t kT), some (d, _), some vts => b' = b /\ zxw d kT = true /\ zde kT rows = some none /\ K σ (rows ++ [kT :: vts])
 | _, _, _, _ => False
theorem qf8 {ag : Bool} {b : Nat} {mt : TypeId} {x k v : Operand} {σ : St} {rows : List (List T)} {K : St -> List (List T) -> Prop} (h : updM P ag b mt x k v σ rows K) : ∃ kT d et vts, σ.get P 0 x = .one (.cv (.map (some b))) /\ σ.get P 0 k = .one (.t kT) /\ mapT P mt = some (d, et) /\ mvV ag (σ.get P 0 v) = some vts /\ zxw d kT = true /\ zde kT rows = some none /\ K σ (rows ++ [kT :: vts]) := by
 unfold updM at h
 split at h
 ·rename_i b' kT d et vts h1 h2 h3 h4
  obtain ⟨rfl, h5, h6, h7⟩ := h
  exact ⟨kT, d, et, vts, h1, h2, h3, h4, h5, h6, h7⟩
 ·exact h.elim
theorem zoh {d : TypeDesc} {k : T} (h : zxw d k = true) : k.flat = true := by
 cases d <;> cases k <;> simp [zxw] at h <;> rfl
section
variable {ag : Bool} {b : Nat}
theorem zel.upd {i : Nat} {ops : Array Oper} {mt : TypeId} {x k v : Operand} {ty : TypeId} {ps : String} {af : Array Edge} {σ : St} {rows : List (List T)} {Q : Exit -> St -> List (List T) -> Prop} (m : Nat) (hz : ops.size = m + 1) (hl : ops[m]? = some ⟨none, .mapUpdate mt x k v, ty, ps, af, none⟩) (hg : (ops.toList.all fun o => o.guard.isNone) = true) (hd : zbb N (.region i ops false) = true)
  (h : exo P ops (ops.toList.take m) [] (fun _ σ' => updM P ag b mt x k v σ' rows (Q .normal)) σ) : zel P N ag b (.region i ops false) σ rows Q := fun n0 w0 A0 g a w hM h2 h3 => by
 obtain ⟨n1, es, clk, k1, k2, k3, k4, k5, k6, k7⟩ := hM.rel
 refine wp_region ?_
 have hd' : ∀ o ∈ ops.toList, ∀ d, o.dst = some d -> d < N := fun o ho d hdd => by
  simp only [zbb, Array.all_eq_true_iff_forall_mem] at hd
  have := hd o (by simpa using ho)
  rw [hdd] at this
  simpa using this
 have hg' : ∀ o ∈ ops.toList, o.guard = none := fun o ho => by
  have := List.all_eq_true.1 hg o ho
  simpa using this
 rw [hz, List.range_eq_range', show List.range' 0 (m + 1) = List.range' 0 m ++ [m] by rw [List.range'_1_concat, Nat.zero_add]]
 refine qai (w0 := w) (A0 := (g.A0, g.R0)) hg' ?_ m 0 (by omega) hd' σ g a w (by simpa [exo, zva] using h) k4 k5 (Bk.refl _ _) rfl
 intro a' w' σ' g' hK m2 m3 m4 m5
 obtain ⟨kT, d, et, vts, c1, c2, c3, c4, c5, c6, c7⟩ := qf8 hK
 obtain ⟨kt, t1, t2⟩ := zv9 c3
 have hM' := hM.keep k1 k2 k3 k6 k7 m2 m3 m4 m5
 have e1 : g'.A0 = g.A0 := (Prod.mk.inj m5).1
 have hA' : ¬ g'.A0 b := by rw [e1]; exact k3
 have he : w'.heap[b]? = some (.map es clk) := (m4.block b k2).trans k6
 have hr : zay w' (fun x => n1 x /\ g'.A0 x) ag rows es.toList := zay.keep (fun x hx => m4.block x hx.1) (fun x hx => ⟨hx.1, by rw [e1]; exact hx.2⟩) ag rows _ k7
 have v1 := m2.get P 0 x
 have v2 := m2.get P 0 k
 have v3 := m2.get P 0 v
 rw [c1] at v1
 rw [c2] at v2
 have v1 : a'.eval x = .map (some b) := v1
 have v2 : zal w' (Fix σ' g' w') kT (a'.eval k) := v2
 have hfn := zd4 c5 (zdm (A' := fun x => n1 x /\ g'.A0 x) (w' := w') (zoh c5) v2) ag rows es.toList 0 none hr c6
 have hkey := zlh c5 v2
 have hrun := znk t1 t2 (val := a'.eval v) he hkey hfn
 rw [wpOps_cons]
 unfold wpOp
 simp only [hl]
 rw [if_pos (by simp [Region.wanted])]
 refine Or.inl ?_
 unfold Oper.wp
 have hex : (execOp a'.eval ⟨none, .mapUpdate mt x k v, ty, ps, af, none⟩).run P w' = .ok .skip { w' with heap := w'.heap.setIfInBounds b (.map (es.push { key := a'.eval k, val := a'.eval v, born := clk }) (clk + 1)) } := by
  unfold execOp
  simp only [v1, Sem.run_bind, hrun, Result.andThen_ok, Sem.run_pure]
 rw [hex]
 have hh := (Go.MapKept.heap_set (o' := .map (es.push { key := a'.eval k, val := a'.eval v, born := clk }) (clk + 1)) he)
 have hother : ∀ x, x ≠ b -> ({ w' with heap := w'.heap.setIfInBounds b (.map (es.push { key := a'.eval k, val := a'.eval v, born := clk }) (clk + 1)) } : World).heap[x]? = w'.heap[x]? := hh.2
 have hsize : ({ w' with heap := w'.heap.setIfInBounds b (.map (es.push { key := a'.eval k, val := a'.eval v, born := clk }) (clk + 1)) } : World).heap.size = w'.heap.size := by simp
 have hself : ({ w' with heap := w'.heap.setIfInBounds b (.map (es.push { key := a'.eval k, val := a'.eval v, born := clk }) (clk + 1)) } : World).heap[b]? = _ := hh.1
 have hbk : Bk n0 w' { w' with heap := w'.heap.setIfInBounds b (.map (es.push { key := a'.eval k, val := a'.eval v, born := clk }) (clk + 1)) } := ⟨rfl, rfl, rfl, by rw [hsize]; exact Nat.le_refl _, fun j hj => hother j fun e => hM.nb (e ▸ hj)⟩
 have hfree : ∀ y, zcg σ' g' w' y -> y < w'.heap.size /\ g'.A0 y := fun y hy => ⟨hy.1.2.2.1, hy.1.2.2.2⟩
 generalize hw : ({ w' with heap := w'.heap.setIfInBounds b (.map (es.push { key := a'.eval k, val := a'.eval v, born := clk }) (clk + 1)) } : World) = w2 at hother hsize hself hbk ⊢
 have hR2 : Rel (fun y => n1 y \/ zcg σ' g' w' y) N σ' g' a' w2 := by
  refine m2.turn (n1 := fun y => n1 y \/ zcg σ' g' w' y) (A1 := g'.A0) (w' := w2) (fun y hf => ⟨hf.2.2.2, hother y fun e => hA' (e ▸ hf.2.2.2)⟩) (by rw [hsize]; exact Nat.le_refl _) (fun y hy => m2.anew y fun q => hy (Or.inl q)) (fun j hj => ⟨?_, hother _ fun e => m2.base j hj (e ▸ k2)⟩) fun e ho y hy => ⟨?_, (m2.ebase e ho y hy).1, hother _ fun q => m2.etop e ho y hy (q ▸ k2)⟩
  ·rintro (q | q)
   ·exact m2.base j hj q
   ·exact q.1.1 j hj rfl
  ·rintro (q | q)
   ·exact m2.etop e ho y hy q
   ·exact q.2 e ho hy
 obtain ⟨us, u1, u2⟩ := qhv (A := fun y => (n1 y \/ zcg σ' g' w' y) /\ g'.A0 y) (fun y hy => ⟨Or.inr hy, hy.1.2.2.2⟩) c4 v3
 refine ⟨σ', rows ++ [kT :: vts], g', c7, ⟨⟨fun y => n1 y \/ zcg σ' g' w' y, es.push { key := a'.eval k, val := a'.eval v, born := clk }, clk + 1, fun y hy => Or.inl (k1 y hy), Or.inl k2, hA', hR2, fun y hy => ?_, hself, ?_⟩, hM'.nb, hM'.sub, hM'.r0, hM'.new⟩, (h2.mono m4.size).mono hbk.size, (h3.trans (qe3 k1 m4)).trans hbk⟩
 ·rw [hsize]
  rcases hy with q | q
  ·exact m3 y q
  ·exact (hfree y q).1
 ·rw [Array.toList_push]
  refine zay.keep (A := fun y => (n1 y \/ zcg σ' g' w' y) /\ g'.A0 y) (fun y hy => hother y fun e => hA' (e ▸ hy.2)) (fun y hy => hy) ag _ _ (zay.push ⟨us, u1, ?_⟩ (zay.keep (fun _ _ => rfl) (fun y hy => ⟨Or.inl hy.1, hy.2⟩) ag rows _ hr))
  unfold zad
  exact ⟨_, _, rfl, zdm (zoh c5) v2, u2⟩
end
theorem Rel.enter1 {n0 : Nat -> Prop} {σ : St} {g : Gh} {a : Act} {w : World} (h : Rel n0 N σ g a w) (o1 : Obj) :
  Rel (fun b => n0 b \/ b = w.heap.size) N σ { g with A0 := fun b => g.A0 b /\ b ≠ w.heap.size } a (w.alloc o1) := by
 have hs : ∀ b, b < w.heap.size -> (w.alloc o1).heap[b]? = w.heap[b]? := fun b hb => Below.heap_alloc _ _ _ hb
 refine h.turn (fun b hf => ⟨⟨hf.2.2.2, ?_⟩, hs b hf.2.2.1⟩) (by simp) (fun b hb => ?_) (fun k hk => ⟨?_, hs _ (h.lt hk)⟩) (fun e ho b hm => ?_)
 ·have := hf.2.2.1; omega
 ·have h1 : ¬ n0 b := fun k => hb (Or.inl k)
  exact ⟨⟨(h.anew b h1).1, fun e => hb (Or.inr e)⟩, (h.anew b h1).2⟩
 ·have := h.lt hk
  rintro (k1 | k1)
  ·exact h.base k hk k1
  ·omega
 ·have := h.elt ho hm
  refine ⟨?_, ⟨(h.ebase e ho b hm).1, by omega⟩, hs b this⟩
  rintro (k1 | k1)
  ·exact h.etop e ho b hm k1
  ·omega
def onM (ag : Bool) (b d : Nat) (σ : St) (rows : List (List T)) (K : St -> Prop) : Prop := σ.sl d = .one (.cv (.map (some b))) /\ K (σ.put (some d) (.one (.rn (.mp ag rows))))
theorem RelM.leave {n0 : Nat -> Prop} {σ : St} {ag : Bool} {rows : List (List T)} {b d : Nat} {A0 : (Nat -> Prop) × RP} {g : Gh} {a : Act} {w : World} (h : RelM n0 N σ ag rows b A0 g a w) (hd : σ.sl d = .one (.cv (.map (some b)))) :
  ∃ g', Rel n0 N (σ.put (some d) (.one (.rn (.mp ag rows)))) g' a w /\ (g'.A0, g'.R0) = A0 := by
 obtain ⟨n1, es, clk, k1, k2, k3, k4, k5, k6, k7⟩ := h.rel
 have hL : Rel n0 N σ { g with A0 := A0.1 } a w := k4.leave k1 h.sub fun x hx => ⟨(h.new x hx).1, by rw [h.r0]; exact (h.new x hx).2⟩
 have hF : ∀ x, n1 x -> A0.1 x -> zcg σ { g with A0 := A0.1 } w x := fun x h1 h2 => ⟨⟨fun k hk e => k4.base k hk (e ▸ h1), fun e y he ho hh => k4.etop e ⟨y, he, ho⟩ x (List.mem_of_mem_head? hh) h1, k5 x h1, h2⟩, fun e ho hm => k4.etop e ho x hm h1⟩
 refine ⟨{ g with A0 := A0.1 }, hL.slots_of rfl rfl hL.defers hL.size fun i => ?_, by show (A0.1, g.R0) = A0; rw [h.r0]⟩
 show VR σ _ w (upd σ.sl d _ i) _
 by_cases hi : i = d
 ·subst hi
  rw [zai]
  have hv := k4.slots i
  rw [hd] at hv
  have hv : a.tmps.getD i (g.R0.ξ i) = .map (some b) := hv
  show CR σ _ w (.rn (.mp ag rows)) (a.tmps.getD i (g.R0.ξ i))
  rw [hv]
  show zal w _ (.mp ag rows) (.map (some b))
  unfold zal
  exact ⟨b, es, clk, rfl, hF b k2 (h.new b h.nb).1, k6, zay.keep (fun _ _ => rfl) (fun x hx => hF x hx.1 (h.sub x hx.2)) ag rows _ k7⟩
 ·rw [zan _ _ hi]
  exact hL.slots i
theorem zdi.scope {i d0 d1 : Nat} {mt t0 t1 : TypeId} {p0 p1 : String} {f0 f1 : Array Edge} {X Y : Code} {σ : St} {Q : Exit -> St -> Prop} {ops : Array Oper} (ag : Bool) (hz : ops.size = 2) (c0 : ops[0]? = some ⟨some d0, .makeMap mt none, t0, p0, f0, none⟩) (c1 : ops[1]? = some ⟨some d1, .assign (.tmp d0), t1, p1, f1, none⟩) (hd : d0 < N /\ d1 < N)
  (h : ∀ b, zel P N ag b X ((σ.put (some d0) (.one (.cv (.map (some b))))).put (some d1) (.one (.cv (.map (some b))))) [] (fun e σ' rows => e = .normal /\ onM ag b d1 σ' rows fun σ'' => zdi P N Y σ'' Q)) :
  zdi P N (.seq (.region i ops false) (.seq X Y)) σ Q := fun n0 w0 A0 g a w hR h2 h3 h4 => by
 refine wp_seq (wp_region ?_)
 have e0 : (execOp a.eval ⟨some d0, .makeMap mt none, t0, p0, f0, none⟩).run P w = .ok (.value (.map (some w.heap.size))) (w.alloc (.map #[] 0)) := by
  unfold execOp
  simp only [Option.map_none, Sem.run_bind, zl6, Result.andThen_ok, Sem.run_pure]
 have hR1 := (hR.enter1 (.map #[] 0)).put (some d0) (x := .one (.cv (.map (some w.heap.size)))) (v := .map (some w.heap.size)) rfl (fun j hj => by cases hj; exact hd.1)
 have ev : (a.put (some d0) (.map (some w.heap.size))).eval (.tmp d0) = .map (some w.heap.size) := by
  show (a.tmps.setIfInBounds d0 _).getD d0 undef = _
  exact zf0 hR.size hd.1 _ _
 have hR2 := hR1.put (some d1) (x := .one (.cv (.map (some w.heap.size)))) (v := .map (some w.heap.size)) rfl (fun j hj => by cases hj; exact hd.2)
 rw [hz]
 show wpOps P _ _ [0, 1] a w
 rw [wpOps_cons]
 unfold wpOp
 simp only [c0]
 rw [if_pos (by simp [Region.wanted])]
 refine Or.inl ?_
 unfold Oper.wp
 rw [e0]
 show wpOps P _ _ [1] _ _
 rw [wpOps_cons]
 unfold wpOp
 simp only [c1]
 rw [if_pos (by simp [Region.wanted])]
 refine Or.inl ?_
 unfold Oper.wp
 have e1 : ∀ (a : Act) (w : World), (execOp a.eval ⟨some d1, .assign (.tmp d0), t1, p1, f1, none⟩).run P w = .ok (.value (a.eval (.tmp d0))) w := fun a w => rfl
 rw [e1, ev]
 have hbk : Bk n0 w (w.alloc (.map #[] 0)) := ⟨rfl, rfl, rfl, by simp, fun k hk => Below.heap_alloc w _ k (h2 k hk)⟩
 have hM : RelM n0 N ((σ.put (some d0) (.one (.cv (.map (some w.heap.size))))).put (some d1) (.one (.cv (.map (some w.heap.size))))) ag [] w.heap.size A0 { g with A0 := fun b => g.A0 b /\ b ≠ w.heap.size } ((a.put (some d0) (.map (some w.heap.size))).put (some d1) (.map (some w.heap.size))) (w.alloc (.map #[] 0)) := by
  refine ⟨⟨fun b => n0 b \/ b = w.heap.size, #[], 0, fun x hx => Or.inl hx, Or.inr rfl, fun q => q.2 rfl, hR2, fun x hx => ?_, (Go.MapKept.heap_alloc w _).1, ?_⟩, h2.new (Nat.le_refl _), fun x hx => ?_, ?_, fun x hx => ?_⟩
  ·rcases hx with q | q
   ·have := h2 x q; simp; omega
   ·simp; omega
  ·unfold zay; rfl
  ·rw [<- h4]; exact hx.1
  ·rw [<- h4]
  ·rw [<- h4]; exact hR.anew x hx
 refine wp_seq (wp_mono (h w.heap.size n0 w0 A0 _ _ _ hM (h2.mono hbk.size) (h3.trans hbk)) fun e a' w' hq => ?_)
 obtain ⟨σ', rows, g', ⟨rfl, q1, q2⟩, q3, q4, q5⟩ := hq
 obtain ⟨g'', r1, r2⟩ := q3.leave q1
 exact q2 n0 w0 A0 g'' a' w' r1 q4 q5 r2
end Go.Proofs.YtemnhgmgeijkcaaGreat
namespace Go.Proofs.YtemnhgmgeijkcaaGreat
set_option linter.unusedSimpArgs false
set_option linter.unusedVariables false
set_option linter.unusedSectionVars false
set_option maxRecDepth 4000
open Go.RowKit
variable {P : Program} {N : Nat}
def mpOf : V -> Option (Bool × List (List T))
 | .one (.t (.mp ag rows)) => some (ag, rows)
 | .one (.rn (.mp ag rows)) => some (ag, rows)
 | _ => none
def tupX : V -> Option (Bool × List C)
 | .agg cs => some (true, cs)
 | .one c => some (false, [c])
 | _ => none
theorem zy8 {σ : St} {g : Gh} {w : World} {x : V} {y : Bool × List C} {v : Value} (h : tupX x = some y) (hv : VR σ g w x v) : CRx σ g w y v := by
 cases x with
 | agg cs => obtain rfl := Option.some.inj h; obtain ⟨a, h1, h2⟩ := hv; exact ⟨a, h1, h2⟩
 | one c => obtain rfl := Option.some.inj h; exact ⟨c, rfl, hv⟩
 | tup _ => cases h
theorem qcv {σ : St} {g : Gh} {w : World} {x : V} {ag : Bool} {rows : List (List T)} {v : Value} (h : mpOf x = some (ag, rows)) (hv : VR σ g w x v) : zal w (Fix σ g w) (.mp ag rows) v := by
 unfold mpOf at h
 split at h
 ·cases h; exact hv
 ·cases h; exact zal.keep (fun _ _ => rfl) (fun b hb => hb.1) _ _ hv
 ·cases h
def lk2Z (P : Program) (et : TypeId) : Option V := ((P.info? et).bind (·.zero)).bind fun z => (tupX (ofV P et z)).map fun y => .tup [y, (false, [.t (.bool false)])]
def lk2 (P : Program) (σ : St) (mt : TypeId) (x ix : Operand) : Option V := match mpOf (σ.get P 0 x), σ.get P 0 ix, mapT P mt with
 | some (ag, rows), .one (.t k), some (d, et) => if zxw d k = true then (zde k rows).bind fun r => match r with
  | some vs => (rowV ag vs).bind fun v => (tupX v).map fun y => .tup [y, (false, [.t (.bool true)])]
  | none => lk2Z P et
  else none
 | _, _, _ => none
theorem zo5 {o : Oper} {σ : St} {mt : TypeId} {x ix : Operand} {v : V} (ho : o.op = .lookup mt x ix true) (h : lk2 P σ mt x ix = some v) : zaf P o σ (σ.put o.dst v) :=
 zaf.value fun n0 N g a w hR => by
  unfold lk2 at h
  split at h
  ·rename_i ag rows k d et hm hi ht
   split at h
   ·rename_i hk
    obtain ⟨r, hf, h⟩ := Option.bind_eq_some_iff.1 h
    obtain ⟨kt, t1, t2⟩ := zv9 ht
    have h1 := qcv hm (hR.get P 0 x)
    have h2 := hR.get P 0 ix
    rw [hi] at h2
    have h2 : zal w (Fix σ g w) k (a.eval ix) := h2
    unfold zal at h1
    obtain ⟨b, es, clk, e1, hA, hb, he⟩ := h1
    cases r with
    | some vs =>
     obtain ⟨y, hv, h⟩ := Option.bind_eq_some_iff.1 h
     obtain ⟨z, hz, rfl⟩ := Option.map_eq_some_iff.1 h
     obtain ⟨j, u, us, f1, f2, f3⟩ := zd4 hk h2 ag rows es.toList 0 (some vs) he hf
     have hvr : VR σ g w y u := by
      unfold rowV at hv
      by_cases hag : ag = true
      ·rw [if_pos hag] at hv f2
       cases hv
       exact ⟨us, f2, qeu f3⟩
      ·rw [if_neg hag] at hv f2
       subst f2
       rcases vs with _ | ⟨t, _ | ⟨t', vs⟩⟩
       ·cases hv
       ·cases hv
        unfold zad at f3
        obtain ⟨v', vs', e, h3, _⟩ := f3
        cases e
        exact h3
       ·cases hv
     refine ⟨.tuple #[u, .bool true], ?_, [u, .bool true], rfl, u, [.bool true], rfl, zy8 hz hvr, .bool true, [], rfl, ⟨.t (.bool true), rfl, rfl⟩, rfl⟩
     unfold execOp
     simp only [ho]
     simp [Instr.lookup, run_underlying t1, e1, Go.MapKept.run_getObj_map hb, Go.MapKept.run_checkKey t2 (zlh hk h2), Go.MapKept.run_findKey t2 f1, Result.andThen]
    | none =>
     obtain ⟨zv, hz0, h⟩ := Option.bind_eq_some_iff.1 h
     obtain ⟨y, hy, rfl⟩ := Option.map_eq_some_iff.1 h
     obtain ⟨i, hi1, hi2⟩ := Option.bind_eq_some_iff.1 hz0
     have f1 := zd4 hk h2 ag rows es.toList 0 none he hf
     have hvr : VR σ g w (ofV P et zv) zv := qft P σ g w et zv
     refine ⟨.tuple #[zv, .bool false], ?_, [zv, .bool false], rfl, zv, [.bool false], rfl, zy8 hy hvr, .bool false, [], rfl, ⟨.t (.bool false), rfl, rfl⟩, rfl⟩
     unfold execOp
     simp only [ho]
     simp [Instr.lookup, run_underlying t1, e1, Go.MapKept.run_getObj_map hb, Go.MapKept.run_checkKey t2 (zlh hk h2), Go.MapKept.run_findKey t2 f1, Result.andThen, zeroValue, typeInfo, hi1, hi2]
   ·cases h
  ·cases h
section
variable {ks : List Fr} {Q : Exit -> St -> Prop} {σ : St} {ops : Array Oper} {os : List Oper} {L : List (List Ky × List Ky)} {ty : TypeId} {ps : String} {af : Array Edge} {dst : Option Nat} {mt : TypeId} {x ix : Operand} {v : V}
theorem zx5 (h : lk2 P σ mt x ix = some v) (k : exo P ops os ks Q (σ.put dst v)) : exo P ops (⟨dst, .lookup mt x ix true, ty, ps, af, none⟩ :: os) ks Q σ := zct rfl rfl (zo5 rfl h) k
end
attribute [go_sem] mpOf tupX lk2 onM updM mvC mvCs mvV Option.bind_some Option.map_some
end Go.Proofs.YtemnhgmgeijkcaaGreat
namespace Go.Proofs.YtemnhgmgeijkcaaGreat
set_option linter.unusedSimpArgs false
set_option linter.unusedVariables false
set_option linter.unusedSectionVars false
set_option maxRecDepth 4000
open Go.RowKit
def mpS (ps : List (Str × Tm)) : T := .mp true (ps.map bnC)
theorem zgp (s : Str) : ∀ ps : List (Str × Tm), zde (.str s) (ps.map bnC) = some ((ps.find? fun p => p.1 == s).map fun p => tmC p.2)
 | [] => rfl
 | p :: ps => by
  have ih := zgp s ps
  show zde (.str s) ((.str p.1 :: tmC p.2) :: ps.map bnC) = _
  unfold zde
  rw [show qae (.str s) (.str p.1) = some (decide (s = p.1)) from rfl, List.find?_cons]
  by_cases h : s = p.1
  ·subst h; simp
  ·have h2 : (p.1 == s) = false := by simpa using fun e => h e.symm
   rw [decide_eq_false h, h2]
   exact ih
def rvT (ps : List (Str × Tm)) : Tm -> Tm := Tm.fold fun m _ rs => if rs.length = 0 then (match ps.find? fun p => p.1 == m with | some p => p.2 | none => .mk m []) else .mk m rs
theorem zsk (ps : List (Str × Tm)) (a : Tm) : rvT ps a = if a.args.length = 0 then (match ps.find? fun p => p.1 == a.name with | some p => p.2 | none => .mk a.name []) else .mk a.name (a.args.map (rvT ps)) := by
 unfold rvT
 rw [Tm.fold_eq]
 simp only [List.length_map]
theorem qgp : lk2Z Tryz.prog 33 = some (.tup [(true, [.t (.str []), .nl 2]), (false, [.t (.bool false)])]) := by kernel_rfl
theorem zi7 (ps : List (Str × Tm)) (hp : ∀ p ∈ ps, p.2.wt <= 1048576) (a : Tm) (ha : a.args.length <= 1048576) (H : ∀ x ∈ a.args, FC Tryz.prog 126 [tmD x, .one (mpS ps)] [tmD (rvT ps x)]) : FC Tryz.prog 126 [tmD a, .one (mpS ps)] [tmD (rvT ps a)] := by
 have hv := zsk ps a
 have hf := zgp a.name ps
 have hpw : ∀ p, (ps.find? fun p => p.1 == a.name) = some p -> p.2.wt <= 1048576 := fun p h => hp p (List.mem_of_find?_eq_some h)
 have hz := qgp
 unfold mpS at H ⊢
 generalize ps.map bnC = R at H hf ⊢
 generalize (ps.find? fun p => p.1 == a.name) = r at hf hv hpw
 have e1 : tmD (.mk a.name (a.args.map (rvT ps))) = .agg [.str a.name, .sl 2 (a.args.map fun x => tmC (rvT ps x))] := by unfold tmD; rw [zaa]; simp only [Tm.name, Tm.args, List.map_map, Function.comp_def]
 cases r with
 | none =>
  rw [show (none : Option (Str × Tm)).map (fun p => tmC p.2) = none from rfl] at hf
  have hv : rvT ps a = .mk a.name (a.args.map (rvT ps)) := by
   rw [hv]
   split
   ·rename_i h0
    rw [List.length_eq_zero_iff.1 h0]; rfl
   ·rfl
  rw [hv, e1]
  simp only [tmD, zaa a] at H ⊢
  refine zah Tryz.call126 Tryz.func126 rfl (by kernel_rfl) (zat (by kernel_rfl)) ?_
  simp -implicitDefEqProofs only [go_sem, Tryz.results126]
  refine zx5 (by simp -implicitDefEqProofs only [go_sem, hf, hz, Tryz.underlying105, Tryz.underlying9]; rfl) ?_
  simp -implicitDefEqProofs only [go_sem]
  refine zae (fun k : Nat => hd [(1, vT (.mp true R)), (4, .one (.bx 4 0)), (7, .one (.bx 7 0)), (30, vT (tmS a.args)), (31, vI a.args.length), (32, vI k)] [(4, [.t (.str []), .nl 2]), (7, [.t (.str a.name), .ow 3000 0])] [(3000, ⟨true, 2, (a.args.take k).map fun x => tmC (rvT ps x), 0, true⟩)]) (fun k => k <= a.args.length) (fun k => a.args.length - k) 0 (zac ?_) (Nat.zero_le _) ?_
  ·simp -implicitDefEqProofs only [go_sem]
  ·intro k hk
   by_cases hlt : k < a.args.length
   ·have hmin : min k a.args.length <= 4294967295 := by omega
    have HC := H a.args[k] (List.getElem_mem hlt)
    simp only [tmD, zaa a.args[k], zaa (rvT ps a.args[k])] at HC
    simp -implicitDefEqProofs only [go_sem, zag, hlt, zaa a.args[k]]
    refine drawn (by kernel_rfl) ?_
    simp -implicitDefEqProofs only [go_sem]
    refine zaz (HC) (by simp -implicitDefEqProofs only [go_sem]) ?_
    simp -implicitDefEqProofs only [go_sem]
    refine zbl (by simp -implicitDefEqProofs only [go_sem]) ?_
    simp -implicitDefEqProofs only [go_sem]
    refine zh3 true (by simp -implicitDefEqProofs only [go_sem, ne_eq, List.length_map, List.length_take, hmin]) ?_
    simp -implicitDefEqProofs only [go_sem, ne_eq, List.length_map, List.length_take, hmin]
    refine ⟨by kernel_rfl, k + 1, hlt, by omega, zac ?_⟩
    simp -implicitDefEqProofs only [go_sem]
    rw [zao (by omega), List.take_succ_eq_append_getElem hlt, List.map_append, List.map_singleton, zaa (rvT ps a.args[k])]
    trivial
   ·have ht : a.args.take k = a.args := List.take_of_length_le (by omega)
    simp -implicitDefEqProofs only [go_sem, hlt, ht]
 | some p =>
  have HC := zgn p.2 (hpw p rfl)
  rw [show (some p).map (fun p => tmC p.2) = some (tmC p.2) from rfl] at hf
  simp only [tmD, zaa p.2] at HC hf
  by_cases h0 : a.args.length = 0
  ·rw [if_pos h0] at hv
   rw [hv]
   have e0 : ((a.args.length : Int) == 0) = true := by simp [h0]
   simp only [tmD, zaa a, zaa p.2]
   refine zah Tryz.call126 Tryz.func126 rfl (by kernel_rfl) (zat (by kernel_rfl)) ?_
   simp -implicitDefEqProofs only [go_sem, Tryz.results126]
   refine zx5 (by simp -implicitDefEqProofs only [go_sem, hf, hz, Tryz.underlying105, Tryz.underlying9]; rfl) ?_
   simp -implicitDefEqProofs only [go_sem, e0]
   refine callF (HC) (by simp -implicitDefEqProofs only [go_sem]) ?_
   simp -implicitDefEqProofs only [go_sem]
  ·rw [if_neg h0] at hv
   have e0 : ((a.args.length : Int) == 0) = false := by simp [h0]
   rw [hv, e1]
   simp only [tmD, zaa a] at H ⊢
   refine zah Tryz.call126 Tryz.func126 rfl (by kernel_rfl) (zat (by kernel_rfl)) ?_
   simp -implicitDefEqProofs only [go_sem, Tryz.results126]
   refine zx5 (by simp -implicitDefEqProofs only [go_sem, hf, hz, Tryz.underlying105, Tryz.underlying9]; rfl) ?_
   simp -implicitDefEqProofs only [go_sem, e0]
   refine zae (fun k : Nat => hd [(1, vT (.mp true R)), (4, .one (.bx 4 0)), (7, .one (.bx 7 0)), (30, vT (tmS a.args)), (31, vI a.args.length), (32, vI k)] [(4, [.t (.str []), .nl 2]), (7, [.t (.str a.name), .ow 3000 0])] [(3000, ⟨true, 2, (a.args.take k).map fun x => tmC (rvT ps x), 0, true⟩)]) (fun k => k <= a.args.length) (fun k => a.args.length - k) 0 (zac ?_) (Nat.zero_le _) ?_
   ·simp -implicitDefEqProofs only [go_sem]
   ·intro k hk
    by_cases hlt : k < a.args.length
    ·have hmin : min k a.args.length <= 4294967295 := by omega
     have HC := H a.args[k] (List.getElem_mem hlt)
     simp only [tmD, zaa a.args[k], zaa (rvT ps a.args[k])] at HC
     simp -implicitDefEqProofs only [go_sem, zag, hlt, zaa a.args[k]]
     refine drawn (by kernel_rfl) ?_
     simp -implicitDefEqProofs only [go_sem]
     refine zaz (HC) (by simp -implicitDefEqProofs only [go_sem]) ?_
     simp -implicitDefEqProofs only [go_sem]
     refine zbl (by simp -implicitDefEqProofs only [go_sem]) ?_
     simp -implicitDefEqProofs only [go_sem]
     refine zh3 true (by simp -implicitDefEqProofs only [go_sem, ne_eq, List.length_map, List.length_take, hmin]) ?_
     simp -implicitDefEqProofs only [go_sem, ne_eq, List.length_map, List.length_take, hmin]
     refine ⟨by kernel_rfl, k + 1, hlt, by omega, zac ?_⟩
     simp -implicitDefEqProofs only [go_sem]
     rw [zao (by omega), List.take_succ_eq_append_getElem hlt, List.map_append, List.map_singleton, zaa (rvT ps a.args[k])]
     trivial
    ·have ht : a.args.take k = a.args := List.take_of_length_le (by omega)
     simp -implicitDefEqProofs only [go_sem, hlt, ht]
theorem zkw (ps : List (Str × Tm)) (hp : ∀ p ∈ ps, p.2.wt <= 1048576) : ∀ a : Tm, a.wt <= 1048576 -> FC Tryz.prog 126 [tmD a, .one (mpS ps)] [tmD (rvT ps a)] :=
 za7 fun m xs ih hs => by
  obtain ⟨h1, h2⟩ := Tm.wt_args hs
  exact zi7 ps hp (.mk m xs) h1 fun x hx => ih x hx (h2 x hx)
def inF (ps : List (Str × Tm)) : Fm -> Fm := Fm.fold fun o a v _ rs => if (o == 3) = true then .mk 3 (rvT ps a) [] [] else .mk o a v rs
theorem qey (ps : List (Str × Tm)) (f : Fm) : inF ps f = if (f.op == 3) = true then .mk 3 (rvT ps f.atom) [] [] else .mk f.op f.atom f.var (f.parts.map (inF ps)) := Fm.fold_eq _ f
theorem qb5 (a : Tm) : GC Tryz.prog 125 [(true, tmD a)] [fmD (.mk 3 a [] [])] := by
 simp only [tmD, zaa a, fmD, zcq]
 refine zjq Tryz.call125 Tryz.func125 rfl (by kernel_rfl) (by simp only [List.length_cons, List.length_nil, Tryz.ntmps125]; omega) (by simp [zb6, T.isPin]) ?_
 simp -implicitDefEqProofs only [go_sem, Tryz.results125]
theorem zoj (a : Fm) (g : FuncId) (R : List (List T)) (φ : Fm -> Fm) (H : ∀ x ∈ a.parts, FC Tryz.prog g [fmD x, .one (.ptr [.mp true R])] [fmD (φ x)]) (h0 : a.atom.wt <= 1048576) (hs : a.parts.length <= 1048576) : FC Tryz.prog 127 [fmD a, .one (.fn g [.ptr [.mp true R]])] [fmD (.mk a.op a.atom a.var (a.parts.map φ))] := by
 simp only [fmD, zab a, zcq]
 refine zah Tryz.call127 Tryz.func127 rfl (by kernel_rfl) (zat (by kernel_rfl)) ?_
 simp -implicitDefEqProofs only [go_sem, Tryz.results127]
 refine drawn (by kernel_rfl) ?_
 simp -implicitDefEqProofs only [go_sem]
 refine zaz (zgn a.atom h0) (by simp -implicitDefEqProofs only [go_sem, zaa]) ?_
 simp -implicitDefEqProofs only [go_sem, zaa]
 refine ⟨by kernel_rfl, ?_⟩
 refine zae (fun k : Nat => hd [(1, .one (.t (.fn g [.ptr [.mp true R]]))), (4, .one (.bx 4 0)), (5, .one (.bx 5 0)), (17, vT (fmS a.parts)), (18, vI a.parts.length), (19, vI k)] [(4, [.t (.int .i64 0), .t (.str []), .nl 2, .t (.str []), .nl 5]), (5, [.t (.int .i64 a.op), .t (.str a.atom.name), .ow 385 0, .t (.str a.var), .ow 3000 0])]
  [(385, ⟨true, 2, a.atom.args.map tmC, 0, true⟩), (3000, ⟨true, 5, (a.parts.take k).map fun x => fmC (φ x), 0, true⟩)]) (fun k => k <= a.parts.length) (fun k => a.parts.length - k) 0 (zac ?_) ?_ ?_
 ·simp -implicitDefEqProofs only [go_sem]
 ·simp
 ·intro k hk
  by_cases hlt : k < a.parts.length
  ·have hmin : min k a.parts.length <= 4294967295 := by omega
   simp -implicitDefEqProofs only [go_sem, zag, hlt, zab a.parts[k]]
   refine drawn (by kernel_rfl) ?_
   simp -implicitDefEqProofs only [go_sem]
   refine zaz (H a.parts[k] (List.getElem_mem hlt)) (by simp -implicitDefEqProofs only [go_sem, zab]) ?_
   simp -implicitDefEqProofs only [go_sem, zab]
   refine zbl (by simp -implicitDefEqProofs only [go_sem]) ?_
   simp -implicitDefEqProofs only [go_sem]
   refine zh3 true (by simp -implicitDefEqProofs only [go_sem, ne_eq, List.length_map, List.length_take, hmin]) ?_
   simp -implicitDefEqProofs only [go_sem, ne_eq, List.length_map, List.length_take, hmin]
   refine ⟨by kernel_rfl, k + 1, hlt, by omega, zac ?_⟩
   simp -implicitDefEqProofs only [go_sem]
   rw [zao (by omega), List.take_succ_eq_append_getElem hlt, List.map_append, List.map_singleton]
   simp only [zab]
   trivial
  ·have ht : a.parts.take k = a.parts := List.take_of_length_le (by omega)
   simp -implicitDefEqProofs only [go_sem, hlt, ht]
   rfl
theorem zmw (ps : List (Str × Tm)) (f : Fm) (H : FC Tryz.prog 69 [fmD f, .one (mpS ps)] [fmD (inF ps f)]) : FC Tryz.prog 128 [fmD f, .one (.ptr [mpS ps])] [fmD (inF ps f)] := by
 unfold mpS at H ⊢
 generalize ps.map bnC = R at H ⊢
 generalize inF ps f = r at H ⊢
 simp only [fmD, zab f, zab r] at H ⊢
 refine zah Tryz.call128 Tryz.func128 rfl (by kernel_rfl) (zat (by kernel_rfl)) ?_
 simp -implicitDefEqProofs only [go_sem, Tryz.results128]
 refine callF (H) (by simp -implicitDefEqProofs only [go_sem]) ?_
 simp -implicitDefEqProofs only [go_sem]
theorem zqe (ps : List (Str × Tm)) (hp : ∀ p ∈ ps, p.2.wt <= 1048576) (f : Fm) (hw : f.wt <= 1048576) (H : ∀ x ∈ f.parts, FC Tryz.prog 69 [fmD x, .one (mpS ps)] [fmD (inF ps x)]) : FC Tryz.prog 69 [fmD f, .one (mpS ps)] [fmD (inF ps f)] := by
 obtain ⟨w1, w2, w3⟩ := Fm.wt_parts hw
 have hv := qey ps f
 have HM := zoj f 128 (ps.map bnC) (inF ps) (fun x hx => zmw ps x (H x hx)) w1 w2
 have HR := zkw ps hp f.atom w1
 have HA := qb5 (rvT ps f.atom)
 rw [hv]
 unfold mpS at HR ⊢
 generalize ps.map bnC = R at HM HR ⊢
 cases h3 : f.op == 3
 ·rw [if_neg (by simp)]
  simp only [fmD, zab f, zcq] at HM ⊢
  refine zah Tryz.call69 Tryz.func69 rfl (by kernel_rfl) (zat (by kernel_rfl)) ?_
  simp -implicitDefEqProofs only [go_sem, Tryz.results69, h3]
  refine callF (HM) (by simp -implicitDefEqProofs only [go_sem]) ?_
  simp -implicitDefEqProofs only [go_sem]
 ·rw [if_pos rfl]
  generalize rvT ps f.atom = r at HR HA ⊢
  simp only [fmD, zab f, zcq, tmD, zaa f.atom, zaa r] at HR HA ⊢
  refine zcp Tryz.call69 Tryz.func69 rfl (by kernel_rfl) (zat (by kernel_rfl)) ?_
  simp -implicitDefEqProofs only [go_sem, Tryz.results69, h3]
  refine callF (HR) (by simp -implicitDefEqProofs only [go_sem]) ?_
  simp -implicitDefEqProofs only [go_sem]
  refine zcb [4] [11] [] (HA) (by simp -implicitDefEqProofs only [go_sem]) (by simp -implicitDefEqProofs only [go_sem]) (by simp -implicitDefEqProofs only [go_sem]) (by simp -implicitDefEqProofs only [go_sem]) ?_
  simp -implicitDefEqProofs only [go_sem]
theorem zuh (ps : List (Str × Tm)) (hp : ∀ p ∈ ps, p.2.wt <= 1048576) : ∀ f : Fm, f.wt <= 1048576 -> FC Tryz.prog 69 [fmD f, .one (mpS ps)] [fmD (inF ps f)] :=
 za6 fun o a v xs ih hs => zqe ps hp (.mk o a v xs) hs fun x hx => ih x hx (Nat.le_trans (zbm (a := .mk o a v xs) hx) hs)
end Go.Proofs.YtemnhgmgeijkcaaGreat
namespace Go.Proofs.YtemnhgmgeijkcaaGreat
set_option linter.unusedSimpArgs false
set_option linter.unusedVariables false
set_option linter.unusedSectionVars false
set_option maxRecDepth 4000
open Go.RowKit
def lkP (ps : List (Str × Tm)) (m : Str) : Tm := match ps.find? fun p => p.1 == m with | some p => p.2 | none => .mk m []
theorem zq7 (n : Str) (t : Tm) (ps : List (Str × Tm)) (m : Str) : lkP ((n, t) :: ps) m = if (n == m) = true then t else lkP ps m := by
 unfold lkP
 rw [List.find?_cons]
 cases hn : n == m
 ·simp only [hn, Bool.false_eq_true, if_false]
 ·simp only [hn, if_true]
theorem qic (ps : List (Str × Tm)) (m : Str) : (∃ p ∈ ps, lkP ps m = p.2) \/ lkP ps m = .mk m [] := by
 unfold lkP
 split
 ·rename_i p h
  exact Or.inl ⟨p, List.mem_of_find?_eq_some h, rfl⟩
 ·exact Or.inr rfl
theorem ziz (l : List (Str × Tm)) {m : Str} (h : zav m = true) (xs : List Tm) : zb8 l (.mk m xs) = lkP l m := by rw [zfk]; exact if_pos h
theorem zf9 (l : List (Str × Tm)) {m : Str} (h : ¬ zav m = true) (xs : List Tm) : zb8 l (.mk m xs) = .mk m (xs.map (zb8 l)) := by rw [zfk]; exact if_neg h
theorem rvT_v (l : List (Str × Tm)) (m : Str) : rvT l (.mk m []) = lkP l m := by rw [zsk]; exact if_pos rfl
theorem rvT_n (l : List (Str × Tm)) (m : Str) {xs : List Tm} (h : xs ≠ []) : rvT l (.mk m xs) = .mk m (xs.map (rvT l)) := by rw [zsk]; exact if_neg fun e => h (List.length_eq_zero_iff.1 e)
theorem zig {m : Str} (h : zav m = true) (xs : List Tm) : (Tm.mk m xs).names = decide (xs.length = 0) := by rw [Tm.names_eq]; exact if_pos h
theorem zgo {m : Str} (h : ¬ zav m = true) (xs : List Tm) : (Tm.mk m xs).names = (zch m && decide (xs.length <= 4) && xs.all Tm.names) := by rw [Tm.names_eq]; exact if_neg h
theorem zp3 (l : List (Str × Tm)) : ∀ t : Tm, voS t = [] -> zb8 l t = t := za7 fun m xs ih h => by
 have hv : voS (.mk m xs) = if zav m = true then [m] else (xs.map voS).flatten := zh9 _
 rw [hv] at h
 by_cases hm : zav m = true
 ·rw [if_pos hm] at h; cases h
 ·rw [if_neg hm] at h
  rw [zf9 l hm]
  congr 1
  conv => rhs; rw [<- List.map_id xs]
  refine List.map_congr_left fun x hx => ih x hx ?_
  exact List.flatten_eq_nil_iff.1 h _ (List.mem_map_of_mem hx)
theorem zn1 (n : Str) (t : Tm) (ht : voS t = []) (ps : List (Str × Tm)) : ∀ a : Tm, zb8 ps (zb8 [(n, t)] a) = zb8 ((n, t) :: ps) a := za7 fun m xs ih => by
 by_cases hm : zav m = true
 ·rw [ziz _ hm, ziz _ hm, zq7, zq7]
  cases hn : n == m
  ·show zb8 ps (.mk m []) = lkP ps m
   exact ziz _ hm []
  ·exact zp3 ps t ht
 ·rw [zf9 _ hm, zf9 _ hm, zf9 _ hm, List.map_map]
  congr 1
  exact List.map_congr_left fun x hx => ih x hx
theorem zxj (ps : List (Str × Tm)) (hp : ∀ p ∈ ps, zav p.1 = true) : ∀ a : Tm, a.names = true -> rvT ps a = zb8 ps a := za7 fun m xs ih h => by
 by_cases hm : zav m = true
 ·rw [zig hm] at h
  have hx : xs = [] := List.length_eq_zero_iff.1 (of_decide_eq_true h)
  subst hx
  rw [rvT_v, ziz _ hm]
 ·rw [zgo hm] at h
  simp only [Bool.and_eq_true] at h
  rw [zf9 _ hm]
  by_cases hx : xs = []
  ·subst hx
   rw [rvT_v]
   unfold lkP
   have hf : (ps.find? fun p => p.1 == m) = none := by
    rw [List.find?_eq_none]
    intro p hpm e
    have := hp p hpm
    rw [beq_iff_eq.1 e] at this
    exact hm this
   rw [hf]; rfl
  ·rw [rvT_n _ _ hx]
   congr 1
   exact List.map_congr_left fun x hx => ih x hx (List.all_eq_true.1 h.2 x hx)
def nmA (a : Tm) : Bool := if (a.name == [61]) = true then decide (a.args.length = 2) && a.args.all Tm.names else zch a.name && a.names
theorem zeu (a : Tm) : a.atomOk = (nmA a && zcj a) := by
 unfold Tm.atomOk nmA Tm.good
 split
 ·rw [Bool.and_assoc, Bool.and_comm (zcj a), Bool.and_assoc]
 ·rw [Bool.and_comm (zcj a), Bool.and_assoc]
theorem zm1 {a : Tm} (h : nmA a = true) : zav a.name = false /\ a.args.all Tm.names = true := by
 unfold nmA at h
 split at h
 ·rename_i he
  have he : a.name = [61] := by simpa using he
  rw [Bool.and_eq_true] at h
  rw [he]
  exact ⟨by decide, h.2⟩
 ·rw [Bool.and_eq_true] at h
  have hv := ztk h.1
  have h2 := h.2
  rw [Tm.names_eq, hv, if_neg (by simp)] at h2
  simp only [Bool.and_eq_true] at h2
  exact ⟨hv, h2.2⟩
theorem zw6 (ps : List (Str × Tm)) (hp : ∀ p ∈ ps, zav p.1 = true) {a : Tm} (h : nmA a = true) : rvT ps a = zb8 ps a := by
 by_cases he : (a.name == [61]) = true
 ·have h2 := h
  unfold nmA at h2
  rw [if_pos he] at h2
  simp only [Bool.and_eq_true, decide_eq_true_eq] at h2
  obtain ⟨h3, h4⟩ := zm1 h
  rw [zsk, zfk, if_neg (by omega), h3, if_neg (by simp)]
  congr 1
  exact List.map_congr_left fun x hx => zxj ps hp x (List.all_eq_true.1 h4 x hx)
 ·unfold nmA at h
  rw [if_neg he, Bool.and_eq_true] at h
  exact zxj ps hp a h.2
theorem zjg (ps : List (Str × Tm)) (hp : ∀ p ∈ ps, p.2.names = true) : ∀ a : Tm, a.names = true -> (zb8 ps a).names = true := za7 fun m xs ih h => by
 by_cases hm : zav m = true
 ·rw [ziz _ hm]
  rcases qic ps m with ⟨p, h1, h2⟩ | h2
  ·rw [h2]; exact hp p h1
  ·rw [h2, zig hm]; rfl
 ·rw [zgo hm] at h
  simp only [Bool.and_eq_true] at h
  rw [zf9 _ hm, zgo hm, List.length_map, List.all_map]
  simp only [Bool.and_eq_true]
  exact ⟨h.1, List.all_eq_true.2 fun x hx => ih x hx (List.all_eq_true.1 h.2 x hx)⟩
theorem qdz (ps : List (Str × Tm)) (hp : ∀ p ∈ ps, p.2.names = true) {a : Tm} (h : nmA a = true) : nmA (zb8 ps a) = true := by
 obtain ⟨h3, h4⟩ := zm1 h
 have e : zb8 ps a = .mk a.name (a.args.map (zb8 ps)) := by rw [zfk, h3, if_neg (by simp)]
 have hall : (a.args.map (zb8 ps)).all Tm.names = true := by
  rw [List.all_map]
  exact List.all_eq_true.2 fun x hx => zjg ps hp x (List.all_eq_true.1 h4 x hx)
 rw [e]
 unfold nmA at h ⊢
 show (if (a.name == [61]) = true then decide ((a.args.map (zb8 ps)).length = 2) && (a.args.map (zb8 ps)).all Tm.names else zch a.name && (Tm.mk a.name (a.args.map (zb8 ps))).names) = true
 by_cases he : (a.name == [61]) = true
 ·rw [if_pos he] at h ⊢
  rw [Bool.and_eq_true] at h ⊢
  rw [List.length_map]
  exact ⟨h.1, hall⟩
 ·rw [if_neg he] at h ⊢
  rw [Bool.and_eq_true] at h ⊢
  have := zjg ps hp a h.2
  rw [e] at this
  exact ⟨h.1, this⟩
theorem zeb {α : Type} (f g : α -> Nat) : ∀ (xs : List α) (i j : Nat), i <= j -> (∀ x ∈ xs, f x <= g x) -> (xs.map f).foldl max i <= (xs.map g).foldl max j
 | [], _, _, h, _ => h
 | x :: xs, i, j, h, H => by
  rw [List.map_cons, List.map_cons, List.foldl_cons, List.foldl_cons]
  have := H x (by simp)
  exact zeb f g xs _ _ (by omega) fun y hy => H y (by simp [hy])
theorem zj7 {α : Type} (f g : α -> Nat) : ∀ (xs : List α), (∀ x ∈ xs, f x <= g x) -> (xs.map f).sum <= (xs.map g).sum
 | [], _ => Nat.le_refl _
 | x :: xs, H => by
  have := H x (by simp)
  have := zj7 f g xs fun y hy => H y (by simp [hy])
  rw [List.map_cons, List.map_cons, List.sum_cons, List.sum_cons]; omega
theorem zsa (ps : List (Str × Tm)) : ∀ a : Tm, a.names = true -> a.nodes <= (zb8 ps a).nodes /\ a.depth <= (zb8 ps a).depth := za7 fun m xs ih h => by
 have hn : (Tm.mk m xs).nodes = 1 + (xs.map Tm.nodes).sum := Tm.nodes_eq _
 have hd : (Tm.mk m xs).depth = (xs.map Tm.depth).foldl max 0 + 1 := Tm.depth_eq _
 by_cases hm : zav m = true
 ·rw [zig hm] at h
  have hx : xs = [] := List.length_eq_zero_iff.1 (of_decide_eq_true h)
  subst hx
  rw [ziz _ hm, hn, hd]
  have h1 := (lkP ps m).nodes_eq
  have h2 := (lkP ps m).depth_eq
  simp only [List.map_nil, List.sum_nil, List.foldl_nil]
  omega
 ·rw [zgo hm] at h
  simp only [Bool.and_eq_true] at h
  rw [zf9 _ hm, hn, hd]
  have hn2 : (Tm.mk m (xs.map (zb8 ps))).nodes = 1 + ((xs.map (zb8 ps)).map Tm.nodes).sum := Tm.nodes_eq _
  have hd2 : (Tm.mk m (xs.map (zb8 ps))).depth = ((xs.map (zb8 ps)).map Tm.depth).foldl max 0 + 1 := Tm.depth_eq _
  rw [hn2, hd2, List.map_map, List.map_map]
  have h1 := zj7 Tm.nodes (Tm.nodes ∘ zb8 ps) xs fun x hx => (ih x hx (List.all_eq_true.1 h.2 x hx)).1
  have h2 := zeb Tm.depth (Tm.depth ∘ zb8 ps) xs 0 0 (Nat.le_refl _) fun x hx => (ih x hx (List.all_eq_true.1 h.2 x hx)).2
  omega
theorem ztg (ps : List (Str × Tm)) {a : Tm} (h : nmA a = true) (hs : zcj (zb8 ps a) = true) : zcj a = true := by
 obtain ⟨h3, h4⟩ := zm1 h
 have e : zb8 ps a = .mk a.name (a.args.map (zb8 ps)) := by rw [zfk, h3, if_neg (by simp)]
 rw [e] at hs
 unfold zcj at hs ⊢
 simp only [Bool.and_eq_true, decide_eq_true_eq] at hs ⊢
 rw [Tm.nodes_eq, Tm.depth_eq] at hs
 rw [Tm.nodes_eq, Tm.depth_eq]
 have hs : 1 + ((a.args.map (zb8 ps)).map Tm.nodes).sum <= 30 /\ ((a.args.map (zb8 ps)).map Tm.depth).foldl max 0 + 1 <= 8 := hs
 rw [List.map_map, List.map_map] at hs
 have h1 := zj7 Tm.nodes (Tm.nodes ∘ zb8 ps) a.args fun x hx => (zsa ps x (List.all_eq_true.1 h4 x hx)).1
 have h2 := zeb Tm.depth (Tm.depth ∘ zb8 ps) a.args 0 0 (Nat.le_refl _) fun x hx => (zsa ps x (List.all_eq_true.1 h4 x hx)).2
 omega
theorem zrx {α : Type} (f : α -> Nat) : ∀ xs : List α, (xs.map fun x => 8 * f x).sum = 8 * (xs.map f).sum
 | [] => rfl
 | x :: xs => by rw [List.map_cons, List.sum_cons, zrx f xs, List.map_cons, List.sum_cons]; omega
theorem zqa {α : Type} (w : α -> Nat) : ∀ xs : List α, (xs.map fun x => 1 + w x).sum = xs.length + (xs.map w).sum
 | [] => rfl
 | a :: l => by rw [List.map_cons, List.sum_cons, zqa w l, List.length_cons, List.map_cons, List.sum_cons]; omega
theorem zmd {xs : List Tm} (H : ∀ x ∈ xs, 1 + x.wt <= 8 * x.nodes) : xs.length + (xs.map Tm.wt).sum <= 8 * (xs.map Tm.nodes).sum := by
 rw [<- zqa, <- zrx]
 exact zj7 _ _ xs H
theorem zra : ∀ a : Tm, a.names = true -> 1 + a.wt <= 8 * a.nodes := za7 fun m xs ih h => by
 have hw : (Tm.mk m xs).wt = m.length + xs.length + (xs.map Tm.wt).sum := Tm.wt_eq _
 have hn : (Tm.mk m xs).nodes = 1 + (xs.map Tm.nodes).sum := Tm.nodes_eq _
 rw [hw, hn]
 by_cases hm : zav m = true
 ·rw [zig hm] at h
  have hx : xs = [] := List.length_eq_zero_iff.1 (of_decide_eq_true h)
  subst hx
  unfold zav inB at hm
  simp only [Bool.and_eq_true, decide_eq_true_eq] at hm
  simp only [List.map_nil, List.sum_nil, List.length_nil]
  omega
 ·rw [zgo hm] at h
  simp only [Bool.and_eq_true] at h
  have h1 : zch m = true := h.1.1
  unfold zch inB at h1
  simp only [Bool.and_eq_true, decide_eq_true_eq] at h1
  have h2 := zmd fun x hx => ih x hx (List.all_eq_true.1 h.2 x hx)
  omega
theorem zmf {a : Tm} (h : a.atomOk = true) : a.wt <= 512 := by
 rw [zeu, Bool.and_eq_true] at h
 obtain ⟨h1, h2⟩ := h
 have h4 := (zm1 h1).2
 have hl : a.name.length <= 6 := by
  unfold nmA at h1
  split at h1
  ·rename_i he
   rw [beq_iff_eq.1 he]; simp
  ·rw [Bool.and_eq_true] at h1
   have h1 := h1.1
   unfold zch inB at h1
   simp only [Bool.and_eq_true, decide_eq_true_eq] at h1
   omega
 unfold zcj at h2
 simp only [Bool.and_eq_true, decide_eq_true_eq] at h2
 have hn := a.nodes_eq
 have hw := a.wt_eq
 have h5 := zmd fun x hx => zra x (List.all_eq_true.1 h4 x hx)
 omega
end Go.Proofs.YtemnhgmgeijkcaaGreat
namespace Go.Proofs.YtemnhgmgeijkcaaGreat
set_option linter.unusedSimpArgs false
set_option linter.unusedVariables false
set_option linter.unusedSectionVars false
set_option maxRecDepth 4000
open Go.RowKit
def orE (x y : Int) : Int := if x = 0 then y else x
structure GCmp {α : Type} (c : α -> α -> Int) : Prop where
 neg : ∀ a b, c b a = - c a b
 tr : ∀ a b d, c a b <= 0 -> c b d <= 0 -> c a d <= 0
section
variable {α β : Type} {c c1 c2 : α -> α -> Int}
theorem GCmp.self (h : GCmp c) (a : α) : c a a = 0 := by have := h.neg a a; omega
theorem GCmp.comp (h : GCmp c) (f : β -> α) : GCmp fun x y => c (f x) (f y) := ⟨fun a b => h.neg _ _, fun a b d => h.tr _ _ _⟩
theorem GCmp.lex (h1 : GCmp c1) (h2 : GCmp c2) : GCmp fun a b => orE (c1 a b) (c2 a b) := by
 refine ⟨fun a b => ?_, fun a b d => ?_⟩
 ·have n1 := h1.neg a b
  have n2 := h2.neg a b
  unfold orE
  split <;> split <;> omega
 ·have t1 := h1.tr a b d
  have t2 := h2.tr a b d
  have n1 := h1.neg a b
  have n2 := h1.neg b d
  have n3 := h1.neg a d
  have t3 := h1.tr d a b
  have t4 := h1.tr b d a
  unfold orE
  split <;> split <;> split <;> omega
end
def zux {α : Type} (c : α -> α -> Int) : List α -> List α -> Int
 | [], [] => 0
 | [], _ :: _ => -1
 | _ :: _, [] => 1
 | x :: xs, y :: ys => orE (c x y) (zux c xs ys)
theorem zw8 {α : Type} {c : α -> α -> Int} (h : GCmp c) : GCmp (zux c) := by
 have hn : ∀ a b, zux c b a = - zux c a b := by
  intro a
  induction a with
  | nil => intro b; cases b <;> rfl
  | cons x xs ih =>
   intro b
   cases b with
   | nil => rfl
   | cons y ys =>
    have n1 := h.neg x y
    have n2 := ih ys
    unfold zux orE
    split <;> split <;> omega
 refine ⟨hn, ?_⟩
 intro a
 induction a with
 | nil => intro b d h1 h2; cases d with
  | nil => exact Int.le_refl _
  | cons => unfold zux; omega
 | cons x xs ih =>
  intro b d h1 h2
  cases b with
  | nil => unfold zux at h1; omega
  | cons y ys =>
   cases d with
   | nil => unfold zux at h2; omega
   | cons z zs =>
    have t1 := h.tr x y z
    have t2 := ih ys zs
    have n1 := h.neg x y
    have n2 := h.neg y z
    have n3 := h.neg x z
    have t3 := h.tr z x y
    have t4 := h.tr y z x
    unfold zux orE at h1 h2 ⊢
    split at h1 <;> split at h2 <;> split <;> omega
def qgf (x y : Bool) : Int := if (x && !y) = true then -1 else if (y && !x) = true then 1 else 0
def cmpN (x y : Nat) : Int := if x < y then -1 else if y < x then 1 else 0
theorem zjk : GCmp qgf := ⟨by decide, by decide⟩
theorem zoe : GCmp cmpN := by
 refine ⟨fun a b => ?_, fun a b d => ?_⟩ <;> unfold cmpN <;> repeat' split
 all_goals omega
theorem zm8 : GCmp zu2 := by
 have hc : ∀ s t : Str, zu2 s t = if s < t then -1 else if s = t then 0 else 1 := fun s t => by
  unfold zu2
  rw [zki]
  simp only [decide_eq_true_eq, beq_iff_eq]
 have tot : ∀ s t : Str, ¬ s < t -> s ≠ t -> t < s := fun s t h1 h2 => by
  rcases List.le_iff_lt_or_eq.1 (List.not_lt.1 h1) with h | h
  ·exact h
  ·exact absurd h.symm h2
 refine ⟨fun a b => ?_, fun a b d => ?_⟩
 ·rw [hc, hc]
  by_cases h1 : a < b
  ·have h2 : ¬ b < a := fun h => zij a (List.lt_trans h1 h)
   have h3 : b ≠ a := fun e => zij a (e ▸ h1)
   rw [if_pos h1, if_neg h2, if_neg h3]; rfl
  ·by_cases h2 : a = b
   ·subst h2
    rw [if_neg h1, if_pos rfl]; rfl
   ·rw [if_neg h1, if_neg h2, if_pos (tot _ _ h1 h2)]
 ·rw [hc, hc, hc]
  intro h1 h2
  by_cases h3 : a < b
  ·by_cases h4 : b < d
   ·rw [if_pos (List.lt_trans h3 h4)]; omega
   ·rw [if_neg h4] at h2
    by_cases h5 : b = d
    ·subst h5; rw [if_pos h3]; omega
    ·rw [if_neg h5] at h2; omega
  ·rw [if_neg h3] at h1
   by_cases h4 : a = b
   ·subst h4; exact h2
   ·rw [if_neg h4] at h1; omega
theorem zhq {s t : Str} : zu2 s t = 0 ↔ s = t := by
 unfold zu2
 rw [zki]
 by_cases h : s < t
 ·have : s ≠ t := fun e => zij t (e ▸ h)
  simp [h, this]
 ·by_cases h2 : s = t
  ·simp [h2]
  ·simp [h, h2]
def hdT (a b : Tm) : Int := orE (qgf (zav a.name) (zav b.name)) (orE (zu2 a.name b.name) (cmpN a.args.length b.args.length))
mutual
def zfm : Tm -> Tm -> Int
 | .mk n xs, b => orE (hdT (.mk n xs) b) (zgu xs b.args)
def zgu : List Tm -> List Tm -> Int
 | [], _ => 0
 | _ :: _, [] => 0
 | x :: xs, y :: ys => orE (zfm x y) (zgu xs ys)
end
theorem zps (a b : Tm) : zfm a b = orE (hdT a b) (zgu a.args b.args) := by cases a; rw [zfm]; rfl
def cmpK : Nat -> Tm -> Tm -> Int
 | 0, _, _ => 0
 | k + 1, a, b => orE (hdT a b) (zux (cmpK k) a.args b.args)
theorem qd5 : GCmp hdT := GCmp.lex (zjk.comp fun a : Tm => zav a.name) (GCmp.lex (zm8.comp Tm.name) (zoe.comp fun a : Tm => a.args.length))
theorem zie : ∀ k, GCmp (cmpK k)
 | 0 => ⟨fun _ _ => rfl, fun _ _ _ _ _ => Int.le_refl _⟩
 | k + 1 => GCmp.lex qd5 ((zw8 (zie k)).comp Tm.args)
theorem zk5 {a b : Tm} : hdT a b = 0 ↔ a.name = b.name /\ a.args.length = b.args.length := by
 unfold hdT
 constructor
 ·intro h
  unfold orE at h
  split at h
  ·split at h
   ·rename_i h2
    refine ⟨zhq.1 h2, ?_⟩
    unfold cmpN at h
    split at h
    ·omega
    ·split at h <;> omega
   ·exact absurd h ‹_›
  ·exact absurd h ‹_›
 ·rintro ⟨h1, h2⟩
  rw [h1, h2, zjk.self, zm8.self, zoe.self]; rfl
def Tm.dp : Tm -> Nat := Tm.fold fun _ _ rs => 1 + rs.sum
theorem Tm.dp_eq (a : Tm) : a.dp = 1 + (a.args.map Tm.dp).sum := Tm.fold_eq _ a
theorem zsd (c : Tm -> Tm -> Int) : ∀ (xs ys : List Tm), xs.length = ys.length -> (∀ x ∈ xs, ∀ y, zfm x y = c x y) -> zgu xs ys = zux c xs ys
 | [], [], _, _ => by rw [zgu]; rfl
 | [], _ :: _, h, _ => by simp at h
 | _ :: _, [], h, _ => by simp at h
 | x :: xs, y :: ys, h, H => by
  rw [zgu, zux, H x (by simp) y, zsd c xs ys (by simpa using h) fun x hx => H x (by simp [hx])]
theorem zqn : ∀ (a : Tm) (k : Nat), a.dp <= k -> ∀ b, zfm a b = cmpK k a b := za7 fun n xs ih k hk b => by
 have hd : (Tm.mk n xs).dp = 1 + (xs.map Tm.dp).sum := Tm.dp_eq _
 cases k with
 | zero => omega
 | succ k =>
  rw [zps, cmpK]
  by_cases h : hdT (.mk n xs) b = 0
  ·rw [show (Tm.mk n xs).args = xs from rfl, zsd (cmpK k) xs b.args (zk5.1 h).2 fun x hx y => ih x hx k (by have := zbe Tm.dp xs x hx; omega) y]
  ·unfold orE
   rw [if_neg h, if_neg h]
theorem zga (a b : Tm) : zfm b a = - zfm a b := by
 rw [zqn a (a.dp + b.dp) (by omega), zqn b (a.dp + b.dp) (by omega)]
 exact (zie _).neg a b
theorem zpo (a b d : Tm) (h1 : zfm a b <= 0) (h2 : zfm b d <= 0) : zfm a d <= 0 := by
 rw [zqn a (a.dp + b.dp) (by omega)] at h1 ⊢
 rw [zqn b (a.dp + b.dp) (by omega)] at h2
 exact (zie _).tr a b d h1 h2
theorem zxh : GCmp zfm := ⟨zga, zpo⟩
theorem zww : ∀ a b : Tm, zfm a b = 0 ↔ a = b := za7 fun n xs ih b => by
 rw [zps]
 have hts : ∀ (xs : List Tm), (∀ x ∈ xs, ∀ b, zfm x b = 0 ↔ x = b) -> ∀ ys, xs.length = ys.length -> (zgu xs ys = 0 ↔ xs = ys) := fun xs => by
  induction xs with
  | nil => intro _ ys h; cases ys with
   | nil => simp [zgu]
   | cons => simp at h
  | cons x xs ih2 =>
   intro H ys h
   cases ys with
   | nil => simp at h
   | cons y ys =>
    have h1 := H x (by simp) y
    have h2 := ih2 (fun x hx => H x (by simp [hx])) ys (by simpa using h)
    rw [zgu, List.cons.injEq, <- h1, <- h2]
    unfold orE
    split
    ·rename_i e; simp [e]
    ·rename_i e; simp [e]
 constructor
 ·intro h
  unfold orE at h
  split at h
  ·rename_i h0
   obtain ⟨e1, e2⟩ := zk5.1 h0
   have := (hts xs ih b.args e2).1 h
   cases b with
   | mk m ys =>
    obtain rfl : n = m := e1
    obtain rfl : xs = ys := this
    rfl
  ·exact absurd h ‹_›
 ·rintro rfl
  rw [zk5.2 ⟨rfl, rfl⟩]
  exact (hts xs ih xs rfl).2 rfl
def ltT (a b : Tm) : Bool := decide (zfm a b < 0)
noncomputable def zht (l : List Tm) (t : Tm) : List Tm := if dec ((l.dropWhile fun x => ltT x t).head? = some t) = true then l else l.takeWhile (fun x => ltT x t) ++ [t] ++ l.dropWhile fun x => ltT x t
abbrev SrtT (l : List Tm) : Prop := l.Pairwise fun a b => zfm a b < 0
theorem zln {a b d : Tm} (h1 : zfm a b < 0) (h2 : zfm b d <= 0) : zfm a d < 0 := by
 have n1 := zga a b
 have n2 := zga b d
 have n3 := zga a d
 have t1 := zpo a b d
 have t2 := zpo b d a
 omega
theorem qa4 {l : List Tm} {t x : Tm} : x ∈ zht l t ↔ x ∈ l \/ x = t := by
 unfold zht
 split
 ·rename_i h
  have : t ∈ l := (List.dropWhile_suffix _).subset (List.mem_of_mem_head? (zd5.1 h))
  constructor
  ·exact Or.inl
  ·rintro (h | rfl)
   ·exact h
   ·exact this
 ·conv => rhs; rw [<- List.takeWhile_append_dropWhile (p := fun x => ltT x t) (l := l)]
  simp only [List.mem_append, List.mem_singleton]
  constructor
  ·rintro ((h | h) | h)
   ·exact Or.inl (Or.inl h)
   ·exact Or.inr h
   ·exact Or.inl (Or.inr h)
  ·rintro ((h | h) | h)
   ·exact Or.inl (Or.inl h)
   ·exact Or.inr h
   ·exact Or.inl (Or.inr h)
theorem qbb {l : List Tm} (hs : SrtT l) (t : Tm) : SrtT (zht l t) := by
 unfold zht
 split
 ·exact hs
 ·rename_i h
  have hl := List.takeWhile_append_dropWhile (p := fun x => ltT x t) (l := l)
  have hs' := hs
  rw [<- hl] at hs'
  unfold SrtT at hs' ⊢
  rw [List.pairwise_append] at hs'
  obtain ⟨s1, s2, s3⟩ := hs'
  have h1 : ∀ x ∈ l.takeWhile (fun x => ltT x t), zfm x t < 0 := fun x hx => by
   exact of_decide_eq_true (List.all_eq_true.1 (List.all_takeWhile (p := fun x => ltT x t) (l := l)) x hx)
  have h2 : ∀ x ∈ l.dropWhile (fun x => ltT x t), zfm t x < 0 := fun x hx => by
   cases hd : l.dropWhile fun x => ltT x t with
   | nil => rw [hd] at hx; cases hx
   | cons y ys =>
    have hy : ltT y t = false := by
     have := List.head?_dropWhile_not (fun x => ltT x t) l
     rw [hd] at this
     simpa using this
    rw [hd] at h s2 hx
    have hy1 : ¬ zfm y t < 0 := of_decide_eq_false hy
    have hy2 : zfm y t ≠ 0 := fun e => h (zd5.2 (by rw [List.head?_cons, (zww y t).1 e]))
    have hty : zfm t y < 0 := by have := zga y t; omega
    rcases List.mem_cons.1 hx with rfl | hx
    ·exact hty
    ·exact zln hty (Int.le_of_lt ((List.pairwise_cons.1 s2).1 x hx))
  rw [List.pairwise_append, List.pairwise_append]
  refine ⟨⟨s1, List.pairwise_singleton _ _, fun a ha b hb => ?_⟩, s2, fun a ha b hb => ?_⟩
  ·rw [List.mem_singleton] at hb; subst hb; exact h1 a ha
  ·rcases List.mem_append.1 ha with ha | ha
   ·exact s3 a ha b hb
   ·rw [List.mem_singleton] at ha; subst ha; exact h2 b hb
theorem zua {l : List Tm} (h : SrtT l) : l.Nodup := List.Pairwise.imp (fun {a b} h e => by subst e; rw [zxh.self] at h; omega) h
end Go.Proofs.YtemnhgmgeijkcaaGreat
namespace Go.Proofs.YtemnhgmgeijkcaaGreat
set_option linter.unusedSimpArgs false
set_option linter.unusedVariables false
set_option linter.unusedSectionVars false
set_option maxRecDepth 4000
open Go.RowKit
def atF : Fm -> List Tm := Fm.fold fun o a _ _ rs => if (o == 3) = true then [a] else rs.flatten
theorem zfe (f : Fm) : atF f = if (f.op == 3) = true then [f.atom] else (f.parts.map atF).flatten := Fm.fold_eq _ f
def evF : Fm -> (Tm -> Bool) -> Bool := Fm.fold fun o a _ _ rs v =>
 if (o == 1) = true then true else if (o == 3) = true then v a else if (o == 4) = true then !((rs.map fun r => r v).getD 0 false)
 else if (o == 5) = true then (rs.map fun r => r v).getD 0 false && (rs.map fun r => r v).getD 1 false
 else if (o == 6) = true then (rs.map fun r => r v).getD 0 false || (rs.map fun r => r v).getD 1 false
 else if (o == 7) = true then !((rs.map fun r => r v).getD 0 false) || (rs.map fun r => r v).getD 1 false else false
def evs (f : Fm) (v : Tm -> Bool) : List Bool := f.parts.map fun p => evF p v
theorem zei (f : Fm) (v : Tm -> Bool) : evF f v = if (f.op == 1) = true then true else if (f.op == 3) = true then v f.atom else if (f.op == 4) = true then !((evs f v).getD 0 false)
 else if (f.op == 5) = true then (evs f v).getD 0 false && (evs f v).getD 1 false
 else if (f.op == 6) = true then (evs f v).getD 0 false || (evs f v).getD 1 false
 else if (f.op == 7) = true then !((evs f v).getD 0 false) || (evs f v).getD 1 false else false := by
 cases f with
 | mk o a w ps =>
  conv => lhs; unfold evF; rw [Fm.fold_eq]
  simp only [List.map_map]
  rfl
theorem zx8 : ∀ (f : Fm) (v w : Tm -> Bool), (∀ t ∈ atF f, v t = w t) -> evF f v = evF f w := za6 fun o a x ps ih v w h => by
 rw [zei, zei]
 rw [zfe] at h
 have eO : (Fm.mk o a x ps).op = o := rfl
 have eA : (Fm.mk o a x ps).atom = a := rfl
 have eP : (Fm.mk o a x ps).parts = ps := rfl
 simp only [eO, eA, eP] at h ⊢
 cases h3 : o == 3
 ·rw [h3, if_neg (by simp)] at h
  have he : evs (.mk o a x ps) v = evs (.mk o a x ps) w := by
   unfold evs
   exact List.map_congr_left fun p hp => ih p hp v w fun t ht => h t (List.mem_flatten.2 ⟨atF p, List.mem_map_of_mem hp, ht⟩)
  rw [he]; rfl
 ·rw [h3, if_pos rfl] at h
  have := h a (by simp)
  have e1 : o = 3 := by simpa using h3
  subst e1
  simpa using this
def zmg (f : Fm) : Prop := ∀ v, evF f v = true
theorem zze : ∀ l : List Bool, ∃ m, m < 2 ^ l.length /\ ∀ i (h : i < l.length), m.testBit i = l[i]
 | [] => ⟨0, by simp, fun i h => by simp at h⟩
 | b :: l => by
  obtain ⟨m, h1, h2⟩ := zze l
  refine ⟨2 * m + b.toNat, ?_, fun i h => ?_⟩
  ·rw [List.length_cons, Nat.pow_succ]
   have : b.toNat <= 1 := by cases b <;> simp
   omega
  ·cases i with
   | zero => cases b <;> simp [Nat.testBit_zero] <;> omega
   | succ i =>
    have : (2 * m + b.toNat) / 2 = m := by cases b <;> simp <;> omega
    rw [Nat.testBit_succ, this, h2 i (by simpa using h)]
    simp
noncomputable def ixT (l : List Tm) (t : Tm) : Nat := (zt1 l fun a => same a t).toNat
theorem zys {l : List Tm} {t : Tm} (h : t ∈ l) : ∃ hi : ixT l t < l.length, l[ixT l t] = t /\ (zt1 l fun a => same a t) = (ixT l t : Nat) := by
 obtain ⟨k, hk, h1, h2⟩ : ∃ k, ∃ hk : k < l.length, l[k] = t /\ ∀ x ∈ l.take k, x ≠ t := by
  induction l with
  | nil => cases h
  | cons a l ih =>
   by_cases e : a = t
   ·exact ⟨0, by simp, by simpa using e, by simp⟩
   ·have hm : t ∈ l := by
     rcases List.mem_cons.1 h with h | h
     ·exact absurd h.symm e
     ·exact h
    obtain ⟨k, hk, h1, h2⟩ := ih hm
    refine ⟨k + 1, by simpa using hk, by simpa using h1, fun x hx => ?_⟩
    rw [List.take_succ_cons] at hx
    rcases List.mem_cons.1 hx with rfl | hx
    ·exact e
    ·exact h2 x hx
 have hI : (zt1 l fun a => same a t) = (k : Nat) := ze6 hk (fun x hx => zcr.2 (h2 x hx)) (by rw [h1]; exact zbw _)
 have hx : ixT l t = k := by unfold ixT; rw [hI]; rfl
 rw [hx]
 exact ⟨hk, h1, hI⟩
theorem zns {f : Fm} {l : List Tm} (hl : ∀ t ∈ atF f, t ∈ l) : (∀ m, m < 2 ^ l.length -> evF f (fun t => m.testBit (ixT l t)) = true) ↔ zmg f := by
 constructor
 ·intro h v
  obtain ⟨m, h1, h2⟩ := zze (l.map v)
  rw [List.length_map] at h1
  rw [<- h m h1]
  refine zx8 f _ _ fun t ht => ?_
  obtain ⟨hi, h3, _⟩ := zys (hl t ht)
  have := h2 (ixT l t) (by simpa using hi)
  rw [this, List.getElem_map, h3]
 ·intro h m _
  exact h _
noncomputable def zkj (l : List Tm) (t : Tm) : List Tm := if (l.any fun a => same a t) = true then l else l ++ [t]
theorem qbp {l : List Tm} {t x : Tm} : x ∈ zkj l t ↔ x ∈ l \/ x = t := by
 unfold zkj
 split
 ·rename_i h
  obtain ⟨y, hy, h⟩ := List.any_eq_true.1 h
  have := zcf.1 h
  subst this
  constructor
  ·exact Or.inl
  ·rintro (h | rfl)
   ·exact h
   ·exact hy
 ·rw [List.mem_append, List.mem_singleton]
theorem qib {l : List Tm} (h : l.Nodup) (t : Tm) : (zkj l t).Nodup := by
 unfold zkj
 split
 ·exact h
 ·rename_i h2
  rw [List.nodup_append]
  refine ⟨h, by simp, fun a ha b hb e => h2 (List.any_eq_true.2 ⟨a, ha, ?_⟩)⟩
  rw [List.mem_singleton] at hb
  rw [zcf, e, hb]
theorem zh2 : ∀ (ts l : List Tm) (x : Tm), x ∈ ts.foldl zkj l ↔ x ∈ l \/ x ∈ ts
 | [], l, x => by simp
 | t :: ts, l, x => by rw [List.foldl_cons, zh2 ts, qbp, List.mem_cons, or_assoc]
theorem zre : ∀ (ts : List Tm) {l : List Tm}, l.Nodup -> (ts.foldl zkj l).Nodup
 | [], _, h => h
 | t :: ts, _, h => zre ts (qib h t)
theorem zic : ∀ (ts l : List Tm) (x : Tm), x ∈ ts.foldl zht l ↔ x ∈ l \/ x ∈ ts
 | [], l, x => by simp
 | t :: ts, l, x => by rw [List.foldl_cons, zic ts, qa4, List.mem_cons, or_assoc]
theorem zm4 : ∀ (ts : List Tm) {l : List Tm}, SrtT l -> SrtT (ts.foldl zht l)
 | [], _, h => h
 | t :: ts, _, h => zm4 ts (qbb h t)
noncomputable def qdv (f : Fm) : List Tm := (atF f).foldl zkj []
noncomputable def qgo (f : Fm) : List Tm := (atF f).foldl zht []
theorem qgu (f : Fm) : (qdv f).length = (qgo f).length := by
 have h1 : (qdv f).Nodup := zre _ List.nodup_nil
 have h2 : (qgo f).Nodup := zua (zm4 _ List.Pairwise.nil)
 refine List.Perm.length_eq ((List.perm_ext_iff_of_nodup h1 h2).2 fun t => ?_)
 unfold qdv qgo
 rw [zh2, zic]
theorem qdl {f : Fm} {t : Tm} (h : t ∈ atF f) : t ∈ qdv f := (zh2 _ _ _).2 (Or.inr h)
theorem qdm {f : Fm} {t : Tm} (h : t ∈ atF f) : t ∈ qgo f := (zic _ _ _).2 (Or.inr h)
noncomputable def zuy (f : Fm) : Bool × Bool := if (qdv f).length <= 12 then (dec (zmg f), true) else (false, false)
end Go.Proofs.YtemnhgmgeijkcaaGreat
namespace Go.Proofs.YtemnhgmgeijkcaaGreat
set_option linter.unusedSimpArgs false
set_option linter.unusedVariables false
set_option linter.unusedSectionVars false
set_option maxRecDepth 4000
open Go.RowKit
section
variable {P : Program}
theorem ct0_A {n0 : Nat -> Prop} {N : Nat} {σ : St} {g : Gh} {a : Act} {w : World} (hR : Rel n0 N σ g a w) {c : C} {t : T} (h : CT0 σ c t) {v : Value} (hv : CR σ g w c v) : zal w (fun b => b < w.heap.size /\ g.A0 b) t v := by
 have hF : ∀ b, Fix σ g w b -> b < w.heap.size /\ g.A0 b := fun b hb => ⟨hb.2.2.1, hb.2.2.2⟩
 have hFr : ∀ b, zcg σ g w b -> b < w.heap.size /\ g.A0 b := fun b hb => hF b hb.1
 cases c with
 | t x =>
  have h : x = t := h
  subst h
  exact zal.keep (fun _ _ => rfl) hF x v hv
 | rn x =>
  have h : x = t := h
  subst h
  exact zal.keep (fun _ _ => rfl) hFr x v hv
 | nl s =>
  cases t with
  | sl sz rows =>
   have h : rows = [] := h
   subst h
   have hv : v = .slice none 0 0 := hv
   subst hv
   unfold zal
   exact ⟨none, 0, rfl, Nat.le_refl _, by simp, Or.inl rfl⟩
  | _ => exact h.elim
 | ow e n =>
  cases t with
  | sl sz rows =>
   obtain ⟨d, o, he⟩ := h
   obtain ⟨rfl, -⟩ := hv
   cases o
   ·exact zal.keep (fun _ _ => rfl) hF _ _ (hR.offs e _ he rfl).1
   ·have hOn : σ.On e := ⟨_, he, rfl⟩
    have hlt : ∀ b ∈ g.φ e, b < w.heap.size := (hR.evs e _ he rfl).lt
    obtain ⟨ao, cap, e1, e2, e3, e4⟩ := hR.evs e _ he rfl
    unfold zal
    refine ⟨ao, cap, e1, e2, e3, ?_⟩
    rcases e4 with ⟨_, _, e4, _⟩ | ⟨b, cells, ty, fps, k1, k2, k3, k4, k5⟩
    ·exact Or.inl e4
    ·have hA : ∀ b' ∈ g.φ e, b' < w.heap.size /\ g.A0 b' := fun b' hb' => ⟨hlt b' hb', (hR.ebase e hOn b' hb').1⟩
     refine Or.inr ⟨b, 0, k1, hA b (by rw [k2]; simp), ?_⟩
     split at k5
     ·exact zak.rep b cells ty k3 0 sz rows fps k5 fun b' hb' => hA b' (by rw [k2]; simp [hb'])
     ·exact zam.keep (fun _ _ => rfl) hF b rfl 0 sz rows k5.2
  | _ => exact h.elim
 | el cs o =>
  cases t with
  | ptr cs' =>
   obtain ⟨rfl, rfl⟩ := h
   obtain ⟨b, q, h1, h2, h3⟩ := hv
   unfold zal
   exact ⟨b, q, h1, hF b h2, za5.keep (fun _ _ => rfl) hF b rfl q cs h3⟩
  | _ => exact h.elim
 | er cs o =>
  cases t with
  | ptr cs' =>
   obtain ⟨rfl, rfl⟩ := h
   obtain ⟨b, q, h1, h2, h3⟩ := hv
   unfold zal
   exact ⟨b, q, h1, hFr b h2, za5.keep (fun _ _ => rfl) hFr b rfl q cs h3⟩
  | _ => exact h.elim
 | _ => cases t <;> exact h.elim
theorem qfg {n0 : Nat -> Prop} {N : Nat} {σ : St} {g : Gh} {a : Act} {w : World} (hR : Rel n0 N σ g a w) : ∀ {cs : List C} {ts : List T}, zng σ cs ts -> ∀ {vs : List Value}, CRs σ g w cs vs -> zad w (fun b => b < w.heap.size /\ g.A0 b) ts vs
 | [], ts, h, vs, hv => by rw [show ts = [] from h]; unfold zad; exact hv
 | c :: cs, ts, h, vs, hv => by
  obtain ⟨t, ts', rfl, h1, h2⟩ := h
  obtain ⟨v, vs', rfl, k1, k2⟩ := hv
  unfold zad
  exact ⟨v, vs', rfl, ct0_A hR h1 k1, qfg hR h2 k2⟩
def RVe (σ : St) : List V -> List D -> Prop
 | [], [] => True
 | .one c :: vs, .one t :: ds => CT0 σ c t /\ RVe σ vs ds
 | .agg cs :: vs, .agg ts :: ds => zng σ cs ts /\ RVe σ vs ds
 | _, _ => False
theorem RVe.rep {n0 : Nat -> Prop} {N : Nat} {σ : St} {g : Gh} {a : Act} {w : World} (hR : Rel n0 N σ g a w) : ∀ {vs : List V} {ds : List D}, RVe σ vs ds -> ∀ {us : List Value}, VRl σ g w vs us -> zba w (fun b => b < w.heap.size /\ g.A0 b) ds us
 | [], [], _, us, hv => hv
 | .one c :: vs, .one t :: ds, h, us, hv => by
  obtain ⟨u, us', rfl, k1, k2⟩ := hv
  exact ⟨u, us', rfl, ct0_A hR h.1 k1, RVe.rep hR h.2 k2⟩
 | .agg cs :: vs, .agg ts :: ds, h, us, hv => by
  obtain ⟨u, us', rfl, ⟨q, rfl, k1⟩, k2⟩ := hv
  exact ⟨_, us', rfl, ⟨q, rfl, qfg hR h.1 k1⟩, RVe.rep hR h.2 k2⟩
 | [], _ :: _, h, _, _ => h.elim
 | .one _ :: _, [], h, _, _ => h.elim
 | .one _ :: _, .agg _ :: _, h, _, _ => h.elim
 | .agg _ :: _, [], h, _, _ => h.elim
 | .agg _ :: _, .one _ :: _, h, _, _ => h.elim
 | .tup _ :: _, [], h, _, _ => h.elim
 | .tup _ :: _, _ :: _, h, _, _ => h.elim
def PRe (P : Program) (rs : List ResultVar) (res : List D) (e : Exit) (σ : St) : Prop := match e with
 | .normal => zaq (zbr P σ rs) fun vs => RVe σ vs res
 | .ret => zaq (zbr P σ rs) fun vs => RVe σ vs res
 | _ => False
theorem znu {f : FuncId} {fn : Func} {c : Code} {args res : List D} (hc : za3 P f) (hf : P.funcs[f]? = some fn) (hb : fn.body = some c) (hd : zbb fn.ntmps c = true) (hN : (rd args).length <= fn.ntmps)
  (h : ex P c [] (PRe P fn.results.toList res) (zds (rd args))) : RC P f args res := by
 refine ⟨hc, fun w vs A hv => ?_⟩
 refine calls_of_wp hf hb ?_
 have hg : ∀ (ds : List D) (vs : List Value), zba w (fun b => b < w.heap.size /\ A b) ds vs -> za0 w (fun b => b < w.heap.size /\ A b /\ b ∉ ([] : List Nat)) (rd ds) vs [] [] := by
  intro ds
  induction ds with
  | nil => intro vs h; exact ⟨h, rfl, rfl⟩
  | cons d ds ih =>
   rintro vs ⟨v, vs', rfl, h1, h2⟩
   refine ⟨v, vs', rfl, ?_, ih _ h2⟩
   cases d with
   | one t => exact zal.keep (fun _ _ => rfl) (fun b hb => ⟨hb.1, hb.2, by simp⟩) t _ h1
   | agg ts => obtain ⟨a, h0, h1⟩ := h1; exact ⟨a, h0, zad.keep (fun _ _ => rfl) (fun b hb => ⟨hb.1, hb.2, by simp⟩) ts a h1⟩
 obtain ⟨g, hg, hR⟩ := Rel.start (A := A) (A0 := fun b => A b \/ w.heap.size <= b) (R0 := RP.of fun _ => True) (N := fn.ntmps) (hg _ _ hv) List.nodup_nil (zcx args) hN (fun _ hb => Or.inl hb) (fun b hb => by simp at hb) (fun b hb => ⟨Or.inr (by
  refine Nat.le_of_not_lt fun hlt => hb ⟨hlt, by simp⟩), trivial⟩)
 refine wp_mono (za8 (w0 := w) c (zds (rd args)) _ hd h g _ w hR (fun k hk => hk.1) (Bk.refl _ _) hg) fun e a' w' hq => ?_
 obtain ⟨σ', g', h1, h2, h3, h4, h5⟩ := hq
 have key : zaq (zbr P σ' fn.results.toList) (fun vs => RVe σ' vs res) -> ∃ v, (results fn a'.tmps).run P w' = .ok v w' /\ ∃ us, Ending.returned v = .returned (zbs us) /\ zba w' (fun b => b < w'.heap.size /\ (A b \/ w.heap.size <= b)) res us /\ Below w.heap.size w w' := fun hk => by
  unfold zaq at hk
  split at hk
  ·rename_i vs hvs
   obtain ⟨us, r1, r2⟩ := zbj h2 fn hvs
   refine ⟨_, r1, us, rfl, (RVe.rep h2 hk r2).keep (fun _ _ => rfl) fun b hb => ⟨hb.1, ?_⟩, h4.os, h4.tape, h4.output, h4.size, fun k hk => h4.block k ⟨hk, by simp⟩⟩
   have := hb.2
   simp only [Prod.mk.injEq] at h5
   rw [h5.1] at this
   exact this
  ·exact hk.elim
 cases e with
 | normal => exact ⟨h2.defers, key h1⟩
 | ret => exact ⟨h2.defers, key h1⟩
 | exit _ => exact h1.elim
 | goto _ => exact h1.elim
 | panic _ => exact h1.elim
 | outgrown => exact h1.elim
attribute [go_sem] PRe RVe
end
end Go.Proofs.YtemnhgmgeijkcaaGreat
namespace Go.Proofs.YtemnhgmgeijkcaaGreat
set_option linter.unusedSimpArgs false
set_option linter.unusedVariables false
set_option linter.unusedSectionVars false
set_option maxRecDepth 4000
open Go.RowKit
theorem znx {α : Type} (L : List (List α)) (k : Nat) : (L.take k).flatten.length <= L.flatten.length := by
 have := congrArg (fun l => l.flatten.length) (List.take_append_drop k L)
 simp only [List.flatten_append, List.length_append] at this
 omega
theorem zhl {α β : Type} (f : α -> List β) (w : α -> Nat) : ∀ (l : List α), (∀ x ∈ l, (f x).length <= w x) -> (l.map f).flatten.length <= (l.map w).sum
 | [], _ => by simp
 | a :: l, h => by
  have h1 := h a (by simp)
  have h2 := zhl f w l fun x hx => h x (by simp [hx])
  simp only [List.map_cons, List.flatten_cons, List.length_append, List.sum_cons]
  omega
theorem zx2 {α : Type} (w : α -> Nat) : ∀ xs : List α, (xs.map fun x => 1 + w x).sum = xs.length + (xs.map w).sum
 | [] => rfl
 | a :: l => by rw [List.map_cons, List.sum_cons, zx2 w l, List.length_cons, List.map_cons, List.sum_cons]; omega
theorem qgc : ∀ a : Tm, (voI a).length <= 1 + a.wt := za7 fun n xs ih => by
 rw [zqo]
 split
 ·simp only [List.length_cons, List.length_nil]; omega
 ·have h1 := zhl voI (fun x => 1 + x.wt) xs ih
  have h2 := zx2 Tm.wt xs
  have h3 := Tm.wt_eq (.mk n xs)
  simp only [Tm.name, Tm.args] at h3 ⊢
  omega
end Go.Proofs.YtemnhgmgeijkcaaGreat
namespace Go.Proofs.YtemnhgmgeijkcaaGreat
set_option linter.unusedSimpArgs false
set_option linter.unusedVariables false
set_option linter.unusedSectionVars false
set_option maxRecDepth 4000
open Go.RowKit
theorem zp0 : ∀ f : Fm, (atF f).length <= f.nodes := za6 fun o a v ps ih => by
 rw [zfe, Fm.nodes_eq]
 split
 ·simp
 ·have := zhl atF Fm.nodes ps ih
  simp only [Fm.parts]
  omega
theorem zkz (f : Fm) {k : Nat} (hlt : k < f.parts.length) : ((f.parts.map atF).take (k + 1)).flatten = ((f.parts.map atF).take k).flatten ++ atF f.parts[k] := by
 rw [List.take_succ_eq_append_getElem (by simpa using hlt), List.getElem_map, List.flatten_append, List.flatten_singleton]
theorem zs3 (f : Fm) (hw : f.wt <= 1048576) (H : ∀ p ∈ f.parts, RC Tryz.prog 193 [fmD p] [.one (tmS (atF p))]) : RC Tryz.prog 193 [fmD f] [.one (tmS (atF f))] := by
 have hv := zfe f
 have hl := zp0 f
 have hn := zb4 f
 have hW := f.wt_eq
 simp only [fmD, zab f]
 cases h3 : f.op == 3
 ·rw [h3, if_neg (by simp)] at hv
  rw [hv] at hl ⊢
  refine znu Tryz.call193 Tryz.func193 rfl (by kernel_rfl) (zat (by kernel_rfl)) ?_
  simp -implicitDefEqProofs only [go_sem, Tryz.results193]
  simp -implicitDefEqProofs only [go_sem, h3]
  refine zh5 (by simp -implicitDefEqProofs only [go_sem]) ?_
  simp -implicitDefEqProofs only [go_sem]
  refine zae (fun k : Nat => hd [(3, .one (.ow 384 0)), (14, vT (fmS f.parts)), (15, vI f.parts.length), (16, vI k)] [] [(384, ⟨false, 2, ((f.parts.map atF).take k).flatten.map tmC, 0, true⟩)]) (fun k => k <= f.parts.length) (fun k => f.parts.length - k) 0 (zac ?_) (Nat.zero_le _) ?_
  ·simp -implicitDefEqProofs only [go_sem]
  ·intro k hk
   by_cases hlt : k < f.parts.length
   ·have hT := zkz f hlt
    have hg := znx (f.parts.map atF) (k + 1)
    rw [hT, List.length_append] at hg
    have HC := H f.parts[k] (List.getElem_mem hlt)
    simp only [fmD, zab f.parts[k]] at HC
    generalize ((f.parts.map atF).take k).flatten = dn at hT hg ⊢
    generalize atF f.parts[k] = ap at HC hT hg
    have ha1 : dn.length + ap.length <= 4294967296 := by omega
    simp -implicitDefEqProofs only [go_sem, hlt, zag, zab f.parts[k]]
    refine callR (HC) (by simp -implicitDefEqProofs only [go_sem]) ?_
    simp -implicitDefEqProofs only [go_sem]
    refine apD false (by simp -implicitDefEqProofs only [go_sem, ne_eq, List.length_map, ha1]) ?_
    simp -implicitDefEqProofs only [go_sem, ne_eq, List.length_map, ha1]
    refine ⟨k + 1, hlt, by omega, zac ?_⟩
    simp -implicitDefEqProofs only [go_sem]
    rw [zao (by omega), hT, List.map_append]
    exact ⟨rfl, rfl⟩
   ·have ht : (f.parts.map atF).take k = f.parts.map atF := List.take_of_length_le (by simpa using hlt)
    simp -implicitDefEqProofs only [go_sem, hlt, ht]
 ·rw [h3, if_pos rfl] at hv
  rw [hv]
  refine znu Tryz.call193 Tryz.func193 rfl (by kernel_rfl) (zat (by kernel_rfl)) ?_
  simp -implicitDefEqProofs only [go_sem, Tryz.results193]
  simp -implicitDefEqProofs only [go_sem, h3]
  refine zh5 (by simp -implicitDefEqProofs only [go_sem, zaa]) ?_
  simp -implicitDefEqProofs only [go_sem, zaa]
theorem zyp : ∀ f : Fm, f.wt <= 1048576 -> RC Tryz.prog 193 [fmD f] [.one (tmS (atF f))] :=
 za6 fun o a v ps ih hw => zs3 (.mk o a v ps) hw fun x hx => ih x hx (Nat.le_trans (zbm (a := .mk o a v ps) hx) hw)
theorem zt0 (a t : Tm) : FC Tryz.prog 265 [tmD a, .one (.ptr (tmC t))] [bD (same a t)] := by
 have H := zg3 a t
 simp only [tmD, zaa] at H ⊢
 refine zah Tryz.call265 Tryz.func265 rfl (by kernel_rfl) (zat (by kernel_rfl)) ?_
 simp -implicitDefEqProofs only [go_sem, Tryz.results265]
 refine callF (H) (by simp -implicitDefEqProofs only [go_sem]) ?_
 simp -implicitDefEqProofs only [go_sem]
theorem zxc (ys : List Tm) (t : Tm) (hw : t.wt <= 1048576) (hs : ys.length <= 1048577) : GC Tryz.prog 194 [(true, .one (tmS ys)), (false, tmD t)] [.one (tmS (zkj ys t))] := by
 have HF := zcl ys (fun a => same a t) 265 [.ptr (tmC t)] fun x _ => zt0 x t
 have HC := zgn t hw
 have hv : zkj ys t = if (ys.any fun a => same a t) = true then ys else ys ++ [t] := rfl
 have ha : ys.length <= 4294967295 := by omega
 simp only [tmD, zaa t] at HF HC ⊢
 generalize (ys.any fun a => same a t) = b at HF hv
 refine zjq Tryz.call194 Tryz.func194 rfl (by kernel_rfl) (by simp only [List.length_cons, List.length_nil, Tryz.ntmps194]; omega) (by simp [zb6, T.isPin]) ?_
 simp -implicitDefEqProofs only [go_sem, Tryz.results194]
 refine callF (HF) (by simp -implicitDefEqProofs only [go_sem]) ?_
 simp -implicitDefEqProofs only [go_sem]
 refine ⟨fun h => ?_, fun h => ?_⟩
 ·rw [hv, if_pos (by simpa using h)]
  exact Or.inl rfl
 ·rw [hv, if_neg (by simpa using h)]
  refine callF (HC) (by simp -implicitDefEqProofs only [go_sem]) ?_
  simp -implicitDefEqProofs only [go_sem]
  refine za9 (by simp -implicitDefEqProofs only [go_sem]) ?_
  simp -implicitDefEqProofs only [go_sem]
  refine apD true (by simp -implicitDefEqProofs only [go_sem, ne_eq, List.length_map, ha]) ?_
  simp -implicitDefEqProofs only [go_sem, ne_eq, List.length_map, ha]
  exact Or.inl (by simp [tmS, zaa t])
theorem zno : ∀ (ts ys : List Tm), (ts.foldl zkj ys).length <= ys.length + ts.length
 | [], ys => by simp
 | t :: ts, ys => by
  have h1 := zno ts (zkj ys t)
  have h2 : (zkj ys t).length <= ys.length + 1 := by unfold zkj; split <;> simp
  rw [List.foldl_cons, List.length_cons]; omega
theorem atF_wt : ∀ (f : Fm), ∀ t ∈ atF f, t.wt <= f.wt := za6 fun o a v ps ih t ht => by
 have hW := (Fm.mk o a v ps).wt_eq
 rw [zfe] at ht
 simp only [Fm.atom, Fm.var, Fm.parts] at hW
 by_cases h3 : ((Fm.mk o a v ps).op == 3) = true
 ·rw [if_pos h3, List.mem_singleton] at ht
  rw [ht]
  show a.wt <= _
  omega
 ·rw [if_neg h3] at ht
  obtain ⟨l, hl, hx⟩ := List.mem_flatten.1 ht
  obtain ⟨p, hp, rfl⟩ := List.mem_map.1 hl
  have := ih p hp t hx
  have := zbe Fm.wt ps p hp
  omega
theorem zha (f : Fm) (hw : f.wt <= 1048576) : FC Tryz.prog 134 [fmD f] [.one (tmS (qdv f))] := by
 have HA := zyp f hw
 have hl := zp0 f
 have hn := zb4 f
 have ht := atF_wt f
 have hv : qdv f = (atF f).foldl zkj [] := rfl
 rw [hv]
 generalize atF f = L at HA hl ht ⊢
 simp only [fmD, zab f] at HA ⊢
 refine zcp Tryz.call134 Tryz.func134 rfl (by kernel_rfl) (zat (by kernel_rfl)) ?_
 simp -implicitDefEqProofs only [go_sem, Tryz.results134]
 refine za9 (by simp -implicitDefEqProofs only [go_sem]) ?_
 simp -implicitDefEqProofs only [go_sem]
 refine zu7 (HA) (by simp -implicitDefEqProofs only [go_sem]) ?_
 simp -implicitDefEqProofs only [go_sem]
 refine zae (fun k : Nat => hd [(3, .one (.ow 192 0)), (8, .one (.rn (tmS L))), (9, vI L.length), (10, vI k)] [] [(192, ⟨true, 2, ((L.take k).foldl zkj []).map tmC, 0, true⟩)]) (fun k => k <= L.length) (fun k => L.length - k) 0 (zac ?_) (Nat.zero_le _) ?_
 ·simp -implicitDefEqProofs only [go_sem]
  rfl
 ·intro k hk
  by_cases hlt : k < L.length
  ·have hlen := zno (L.take k) []
   have hT : (L.take (k + 1)).foldl zkj [] = zkj ((L.take k).foldl zkj []) L[k] := by
    rw [List.take_succ_eq_append_getElem hlt, List.foldl_append]; rfl
   rw [List.length_take, List.length_nil] at hlen
   have HC := zxc ((L.take k).foldl zkj []) L[k] (Nat.le_trans (ht _ (List.getElem_mem hlt)) hw) (by omega)
   rw [<- hT] at HC
   simp only [tmD, zaa L[k]] at HC
   simp -implicitDefEqProofs only [go_sem, hlt, zag, zaa L[k]]
   refine zcb [8, 9, 10] [14, 15] [] (HC) (by simp -implicitDefEqProofs only [go_sem]) (by simp -implicitDefEqProofs only [go_sem]) (by simp -implicitDefEqProofs only [go_sem]) (by simp -implicitDefEqProofs only [go_sem]) ?_
   simp -implicitDefEqProofs only [go_sem]
   refine ⟨k + 1, hlt, by omega, zcw 192 512 ?_⟩
   simp -implicitDefEqProofs only [go_sem]
   rw [zao (by omega)]
  ·have ht : L.take k = L := List.take_of_length_le (by omega)
   simp -implicitDefEqProofs only [go_sem, hlt, ht]
end Go.Proofs.YtemnhgmgeijkcaaGreat
namespace Go.Proofs.YtemnhgmgeijkcaaGreat
set_option linter.unusedSimpArgs false
set_option linter.unusedVariables false
set_option linter.unusedSectionVars false
set_option maxRecDepth 4000
open Go.RowKit
noncomputable def bv (m : Nat) (l : List Tm) : Tm -> Bool := fun t => m.testBit (ixT l t)
theorem qgm (n : Nat) (h : n < 4096) : IntKind.i64.wrap ((BitVec.ofInt 64 (n : Int) &&& BitVec.ofInt 64 1).toNat : Int) = ((n % 2 : Nat) : Int) := by
 have h1 : (BitVec.ofInt 64 (n : Int) &&& BitVec.ofInt 64 1).toNat = n % 2 := by
  rw [BitVec.toNat_and, show (BitVec.ofInt 64 (1 : Int)).toNat = 1 from rfl, Nat.and_one_is_mod]
  rw [show BitVec.ofInt 64 (n : Int) = BitVec.ofNat 64 n from BitVec.ofInt_natCast 64 n, BitVec.toNat_ofNat]
  omega
 rw [h1]
 exact zbk (by omega) (by omega)
theorem qg8 (m i : Nat) : ((m : Int).fdiv ((2 : Int) ^ i)) = ((m >>> i : Nat) : Int) := by
 rw [Nat.shiftRight_eq_div_pow, Int.fdiv_eq_ediv_of_nonneg _ (Int.le_of_lt (Int.pow_pos (by decide)))]
 simp
theorem bit_is (m i : Nat) : ((((m >>> i) % 2 : Nat) : Int) == 1) = m.testBit i := by
 rw [Nat.testBit, Nat.one_and_eq_mod_two, Bool.eq_iff_iff, beq_iff_eq, bne_iff_ne]
 generalize m >>> i = x
 omega
theorem zla (m i : Nat) (hm : m < 4096) (hi : i < 12) : (-9223372036854775808 <= (m : Int).fdiv ((2 : Int) ^ min i 64) /\ (m : Int).fdiv ((2 : Int) ^ min i 64) <= 9223372036854775807) /\ (IntKind.i64.wrap ((BitVec.ofInt 64 ((m : Int).fdiv ((2 : Int) ^ min i 64)) &&& BitVec.ofInt 64 1).toNat : Int) == 1) = m.testBit i := by
 have h64 : min i 64 = i := by omega
 have hle : m >>> i <= m := by rw [Nat.shiftRight_eq_div_pow]; exact Nat.div_le_self _ _
 rw [h64, qg8, qgm _ (by omega), bit_is]
 generalize m >>> i = x at hle
 exact ⟨by omega, rfl⟩
theorem zs9 (l : List Tm) (hl : l.length <= 12) (m : Nat) (hm : m < 4096) (f : Fm) (hf : f.forms = true) (hp : za1 f = true) (ha : ∀ t ∈ atF f, t ∈ l) (H : ∀ p ∈ f.parts, FC Tryz.prog 135 [fmD p, .one (tmS l), iD m] [bD (evF p (bv m l))]) : FC Tryz.prog 135 [fmD f, .one (tmS l), iD m] [bD (evF f (bv m l))] := by
 rcases zd8 hf with ⟨h1, h2⟩ | ⟨p, rfl, _⟩ | ⟨o, p, q, ho, rfl, _⟩ | ⟨o, v, p, ho, rfl, _⟩
 ·obtain ⟨o, a, v, ps⟩ := f
  simp only [Fm.op, Fm.parts] at h1 h2
  subst h1
  rcases h2 with rfl | rfl | rfl
  ·rw [zei]
   simp only [fmD, zcq, Fm.op]
   refine zah Tryz.call135 Tryz.func135 rfl (by kernel_rfl) (zat (by kernel_rfl)) ?_
   simp -implicitDefEqProofs only [go_sem, Tryz.results135]
  ·rw [zei]
   simp only [fmD, zcq, Fm.op]
   refine zah Tryz.call135 Tryz.func135 rfl (by kernel_rfl) (zat (by kernel_rfl)) ?_
   simp -implicitDefEqProofs only [go_sem, Tryz.results135]
  ·have hal : a ∈ l := ha a (by rw [zfe]; simp [Fm.op, Fm.atom])
   obtain ⟨hi, _, hx⟩ := zys hal
   have HX := zkx l a
   have hv : evF (.mk 3 a v []) (bv m l) = m.testBit (ixT l a) := by rw [zei]; rfl
   rw [hx] at HX
   rw [hv]
   generalize ixT l a = i at hi HX
   simp only [tmD, zaa a] at HX
   simp only [fmD, zcq, Fm.op]
   refine zah Tryz.call135 Tryz.func135 rfl (by kernel_rfl) (zat (by kernel_rfl)) ?_
   simp -implicitDefEqProofs only [go_sem, Tryz.results135]
   refine callF (HX) (by simp -implicitDefEqProofs only [go_sem]) ?_
   simp -implicitDefEqProofs only [go_sem]
   exact ⟨(zla m i hm (by omega)).1, congrArg T.bool (zla m i hm (by omega)).2⟩
 ·have HP := H p (by simp [mkF, Fm.parts])
  have hv : evF (mkF 4 [p]) (bv m l) = !(evF p (bv m l)) := by rw [zei]; rfl
  rw [hv]
  generalize evF p (bv m l) = r at HP ⊢
  simp only [fmD, zab p] at HP
  simp only [fmD]
  rw [show fmC (mkF 4 [p]) = [.int .i64 4, .str [], .sl 2 [], .str [], .sl 5 [fmC p]] from zbn 4 [p], zab p]
  refine zah Tryz.call135 Tryz.func135 rfl (by kernel_rfl) (zat (by kernel_rfl)) ?_
  simp -implicitDefEqProofs only [go_sem, Tryz.results135]
  refine callF (HP) (by simp -implicitDefEqProofs only [go_sem]) ?_
  simp -implicitDefEqProofs only [go_sem]
 ·have HP := H p (by simp [mkF, Fm.parts])
  have HQ := H q (by simp [mkF, Fm.parts])
  have hv : evF (mkF o [p, q]) (bv m l) = if (o == 5) = true then evF p (bv m l) && evF q (bv m l) else if (o == 6) = true then evF p (bv m l) || evF q (bv m l) else !(evF p (bv m l)) || evF q (bv m l) := by
   rw [zei]
   rcases ho with rfl | rfl | rfl <;> rfl
  rw [hv]
  generalize evF p (bv m l) = r at HP ⊢
  generalize evF q (bv m l) = r2 at HQ ⊢
  simp only [fmD, zab p, zab q] at HP HQ
  simp only [fmD]
  rw [show fmC (mkF o [p, q]) = [.int .i64 o, .str [], .sl 2 [], .str [], .sl 5 [fmC p, fmC q]] from zbn o [p, q], zab p, zab q]
  rcases ho with rfl | rfl | rfl
  ·cases r
   ·refine zah Tryz.call135 Tryz.func135 rfl (by kernel_rfl) (zat (by kernel_rfl)) ?_
    simp -implicitDefEqProofs only [go_sem, Tryz.results135]
    refine callF (HP) (by simp -implicitDefEqProofs only [go_sem]) ?_
    simp -implicitDefEqProofs only [go_sem]
   ·refine zah Tryz.call135 Tryz.func135 rfl (by kernel_rfl) (zat (by kernel_rfl)) ?_
    simp -implicitDefEqProofs only [go_sem, Tryz.results135]
    refine callF (HP) (by simp -implicitDefEqProofs only [go_sem]) ?_
    simp -implicitDefEqProofs only [go_sem]
    refine callF (HQ) (by simp -implicitDefEqProofs only [go_sem]) ?_
    simp -implicitDefEqProofs only [go_sem]
  ·cases r
   ·refine zah Tryz.call135 Tryz.func135 rfl (by kernel_rfl) (zat (by kernel_rfl)) ?_
    simp -implicitDefEqProofs only [go_sem, Tryz.results135]
    refine callF (HP) (by simp -implicitDefEqProofs only [go_sem]) ?_
    simp -implicitDefEqProofs only [go_sem]
    refine callF (HQ) (by simp -implicitDefEqProofs only [go_sem]) ?_
    simp -implicitDefEqProofs only [go_sem]
    rfl
   ·refine zah Tryz.call135 Tryz.func135 rfl (by kernel_rfl) (zat (by kernel_rfl)) ?_
    simp -implicitDefEqProofs only [go_sem, Tryz.results135]
    refine callF (HP) (by simp -implicitDefEqProofs only [go_sem]) ?_
    simp -implicitDefEqProofs only [go_sem]
    rfl
  ·cases r
   ·refine zah Tryz.call135 Tryz.func135 rfl (by kernel_rfl) (zat (by kernel_rfl)) ?_
    simp -implicitDefEqProofs only [go_sem, Tryz.results135]
    refine callF (HP) (by simp -implicitDefEqProofs only [go_sem]) ?_
    simp -implicitDefEqProofs only [go_sem]
    rfl
   ·refine zah Tryz.call135 Tryz.func135 rfl (by kernel_rfl) (zat (by kernel_rfl)) ?_
    simp -implicitDefEqProofs only [go_sem, Tryz.results135]
    refine callF (HP) (by simp -implicitDefEqProofs only [go_sem]) ?_
    simp -implicitDefEqProofs only [go_sem]
    refine callF (HQ) (by simp -implicitDefEqProofs only [go_sem]) ?_
    simp -implicitDefEqProofs only [go_sem]
    rfl
 ·exfalso
  rw [zcd] at hp
  rcases ho with rfl | rfl <;> simp [Fm.op] at hp
theorem zfl {f : Fm} (hf : f.forms = true) : ∀ p ∈ f.parts, p.forms = true := by
 rw [Fm.forms_eq, Bool.and_eq_true] at hf
 exact List.all_eq_true.1 hf.2
theorem zdg {f : Fm} (hf : za1 f = true) : ∀ p ∈ f.parts, za1 p = true := by
 rw [zcd, Bool.and_eq_true] at hf
 exact List.all_eq_true.1 hf.2
theorem znw {f : Fm} (hf : f.forms = true) {p : Fm} (hp : p ∈ f.parts) {t : Tm} (ht : t ∈ atF p) : t ∈ atF f := by
 rw [zfe]
 split
 ·rename_i h3
  have := zt9 (qii hf) h3
  rw [List.length_eq_zero_iff.1 this] at hp
  cases hp
 ·exact List.mem_flatten.2 ⟨_, List.mem_map_of_mem hp, ht⟩
theorem zwu (l : List Tm) (hl : l.length <= 12) (m : Nat) (hm : m < 4096) : ∀ f : Fm, f.forms = true -> za1 f = true -> (∀ t ∈ atF f, t ∈ l) -> FC Tryz.prog 135 [fmD f, .one (tmS l), iD m] [bD (evF f (bv m l))] :=
 za6 fun o a v ps ih hf hp ha => zs9 l hl m hm (.mk o a v ps) hf hp ha fun p hm => ih p hm (zfl hf p hm) (zdg hp p hm) fun t ht => ha t (znw hf hm ht)
theorem zm7 (f : Fm) (hw : f.wt <= 1048576) (hf : f.forms = true) (hp : za1 f = true) : FC Tryz.prog 81 [fmD f] [bD (zuy f).1, bD (zuy f).2] := by
 have HD := zha f hw
 have hall := fun t => qdl (f := f) (t := t)
 have hv : zuy f = if (qdv f).length <= 12 then (dec (zmg f), true) else (false, false) := rfl
 rw [hv]
 generalize qdv f = L at HD hall ⊢
 have HT := fun (m : Nat) (hm : m < 4096) (hl : L.length <= 12) => zwu L hl m hm f hf hp hall
 have hbits := zns hall
 simp only [fmD, zab f] at HD HT ⊢
 by_cases hl : L.length <= 12
 ·have h12 : ((12 : Int) < (L.length : Int)) = False := by simp; omega
  have hle : 2 ^ L.length <= 2 ^ 12 := Nat.pow_le_pow_right (by omega) hl
  have hpow : IntKind.i64.wrap (1 * 2 ^ min L.length 64) = ((2 ^ L.length : Nat) : Int) := by
   rw [show min L.length 64 = L.length by omega, Int.one_mul, show (2 : Int) ^ L.length = ((2 ^ L.length : Nat) : Int) by simp]
   generalize 2 ^ L.length = N at hle ⊢
   exact zbk (by omega) (by omega)
  rw [if_pos hl]
  refine zah Tryz.call81 Tryz.func81 rfl (by kernel_rfl) (zat (by kernel_rfl)) ?_
  simp -implicitDefEqProofs only [go_sem, Tryz.results81]
  refine callF (HD) (by simp -implicitDefEqProofs only [go_sem]) ?_
  simp -implicitDefEqProofs only [go_sem]
  simp -implicitDefEqProofs only [go_sem, h12, hpow]
  generalize 2 ^ L.length = N at hle hbits ⊢
  refine zae (fun k : Nat => hd [(1, .one (.bx 1 0)), (4, .one (.ow 224 0)), (13, vI N), (14, vI k)] [(1, [.t (.int .i64 f.op), .t (.str f.atom.name), .t (tmS f.atom.args), .t (.str f.var), .t (fmS f.parts)])] [(224, ⟨true, 2, L.map tmC, 0, true⟩)]) (fun k => k <= N /\ ∀ m, m < k -> evF f (bv m L) = true) (fun k => N - k) 0 (zac ?_) ⟨Nat.zero_le _, fun m h => by omega⟩ ?_
  ·simp -implicitDefEqProofs only [go_sem]
  ·intro k ⟨hk, hr⟩
   by_cases hlt : k < N
   ·have HC := HT k (by omega) hl
    simp -implicitDefEqProofs only [go_sem, hlt]
    refine callF (HC) (by simp -implicitDefEqProofs only [go_sem]) ?_
    simp -implicitDefEqProofs only [go_sem]
    refine ⟨fun h => ?_, fun h => ?_⟩
    ·have : dec (zmg f) = false := by
      rw [<- Bool.not_eq_true, zd5, <- hbits]
      intro h2
      have h3 : evF f (bv k L) = true := h2 k hlt
      rw [h3] at h
      simp at h
     rw [this]
    ·refine ⟨k + 1, ⟨hlt, fun m hm => ?_⟩, by omega, zac ?_⟩
     ·by_cases e : m = k
      ·subst e; simpa using h
      ·exact hr m (by omega)
     ·simp -implicitDefEqProofs only [go_sem]
      rw [zao (by omega)]
   ·simp -implicitDefEqProofs only [go_sem, hlt]
    have : dec (zmg f) = true := zd5.2 (hbits.1 fun m hm => hr m (by omega))
    rw [this]
 ·have h12 : ((12 : Int) < (L.length : Int)) = True := by simp; omega
  rw [if_neg hl]
  refine zah Tryz.call81 Tryz.func81 rfl (by kernel_rfl) (zat (by kernel_rfl)) ?_
  simp -implicitDefEqProofs only [go_sem, Tryz.results81]
  refine callF (HD) (by simp -implicitDefEqProofs only [go_sem, h12]) ?_
  simp -implicitDefEqProofs only [go_sem, h12]
end Go.Proofs.YtemnhgmgeijkcaaGreat
namespace Go.Proofs.YtemnhgmgeijkcaaGreat
set_option linter.unusedSimpArgs false
set_option linter.unusedVariables false
set_option linter.unusedSectionVars false
set_option maxRecDepth 4000
open Go.RowKit
def pF (ps : List (Str × Tm)) : Fm -> Fm := Fm.fold fun o a v _ rs => if (o == 3) = true then .mk o (zb8 ps a) v [] else .mk o (.mk [] []) v rs
theorem pF_eq (ps : List (Str × Tm)) (f : Fm) : pF ps f = if (f.op == 3) = true then .mk f.op (zb8 ps f.atom) f.var [] else .mk f.op (.mk [] []) f.var (f.parts.map (pF ps)) := Fm.fold_eq _ f
theorem qau (ps : List (Str × Tm)) {o : Int} (h : (o == 3) = true) (a : Tm) (v : Str) (xs : List Fm) : pF ps (.mk o a v xs) = .mk o (zb8 ps a) v [] := by rw [pF_eq]; exact if_pos h
theorem qaq (ps : List (Str × Tm)) {o : Int} (h : (o == 3) = false) (a : Tm) (v : Str) (xs : List Fm) : pF ps (.mk o a v xs) = .mk o (.mk [] []) v (xs.map (pF ps)) := by rw [pF_eq]; exact if_neg (by rw [show (Fm.mk o a v xs).op = o from rfl, h]; simp)
theorem qip {o : Int} (h : (o == 3) = true) (a : Tm) (v : Str) (xs : List Fm) : atF (.mk o a v xs) = [a] := by rw [zfe]; exact if_pos h
theorem qiq {o : Int} (h : (o == 3) = false) (a : Tm) (v : Str) (xs : List Fm) : atF (.mk o a v xs) = (xs.map atF).flatten := by rw [zfe]; exact if_neg (by rw [show (Fm.mk o a v xs).op = o from rfl, h]; simp)
theorem pl_q {f : Fm} (h : za1 f = true) : isQ f.op = false := by
 rw [zcd, Bool.and_eq_true] at h
 unfold isQ
 simpa using h.1
theorem qfa (n : Str) (t : Tm) {o : Int} (h : (o == 3) = true) (a : Tm) (v : Str) (xs : List Fm) : zco n t (.mk o a v xs) = (.mk o (zb8 (bnd n t) a) v [], (zb8 (bnd n t) a).atomOk) := by rw [zpt]; exact if_pos h
theorem qe0 (n : Str) (t : Tm) {o : Int} (h : (o == 3) = false) (hq : isQ o = false) (a : Tm) (v : Str) (xs : List Fm) : zco n t (.mk o a v xs) = (.mk o (.mk [] []) v ((xs.takeWhile fun x => (zco n t x).2).map fun x => (zco n t x).1), xs.all fun x => (zco n t x).2) := by
 rw [zpt]
 have e1 : ((Fm.mk o a v xs).op == 3) = false := h
 have e2 : isQ (Fm.mk o a v xs).op = false := hq
 rw [if_neg (by rw [e1]; simp), e2, Bool.false_and, Bool.false_and, if_neg (by simp), if_neg (by simp)]
 rfl
theorem zk2 {α β : Type} (f : α -> List β) (p : β -> Bool) : ∀ xs : List α, ((xs.map f).flatten).all p = xs.all fun x => (f x).all p
 | [] => rfl
 | x :: xs => by rw [List.map_cons, List.flatten_cons, List.all_append, zk2 f p xs, List.all_cons]
theorem zgg {α : Type} {p q : α -> Bool} : ∀ {xs : List α}, (∀ x ∈ xs, p x = q x) -> xs.all p = xs.all q
 | [], _ => rfl
 | x :: xs, h => by rw [List.all_cons, List.all_cons, h x (by simp), zgg fun y hy => h y (by simp [hy])]
theorem qez {α : Type} {p : α -> Bool} : ∀ {xs : List α}, (∀ x ∈ xs, p x = true) -> xs.takeWhile p = xs
 | [], _ => rfl
 | x :: xs, h => by rw [List.takeWhile_cons, h x (by simp), if_pos rfl, qez fun y hy => h y (by simp [hy])]
theorem zkl (n : Str) (t : Tm) : ∀ f : Fm, za1 f = true -> (zco n t f).2 = (atF f).all fun a => (zb8 (bnd n t) a).atomOk := za6 fun o a v ps ih hp => by
 cases h3 : o == 3
 ·rw [qe0 n t h3 (pl_q hp), qiq h3, zk2]
  exact zgg fun x hx => ih x hx (zdg hp x hx)
 ·rw [qfa n t h3, qip h3]
  simp
theorem zpe (n : Str) (t : Tm) : ∀ f : Fm, za1 f = true -> (zco n t f).2 = true -> (zco n t f).1 = pF (bnd n t) f := za6 fun o a v ps ih hp ho => by
 cases h3 : o == 3
 ·rw [qe0 n t h3 (pl_q hp)] at ho ⊢
  rw [qaq _ h3]
  show Fm.mk o (.mk [] []) v _ = _
  have ho : ∀ x ∈ ps, (zco n t x).2 = true := List.all_eq_true.1 ho
  congr 1
  rw [qez ho]
  exact List.map_congr_left fun x hx => ih x hx (zdg hp x hx) (ho x hx)
 ·rw [qfa n t h3, qau _ h3]
theorem zzf (n : Str) (t : Tm) (ht : voS t = []) (ps : List (Str × Tm)) : ∀ f : Fm, pF ps (pF [(n, t)] f) = pF ((n, t) :: ps) f := za6 fun o a v xs ih => by
 cases h3 : o == 3
 ·rw [qaq _ h3, qaq _ h3, qaq _ h3, List.map_map]
  congr 1
  exact List.map_congr_left fun x hx => ih x hx
 ·rw [qau _ h3, qau _ h3, qau _ h3, zn1 n t ht]
theorem ze4 {o : Int} {a : Tm} {v : Str} {xs : List Fm} (h : (Fm.mk o a v xs).forms = true) : (Fm.mk o a v xs).here = true /\ ∀ x ∈ xs, x.forms = true := by
 rw [Fm.forms_eq, Bool.and_eq_true] at h
 exact ⟨h.1, List.all_eq_true.1 h.2⟩
theorem zia {o : Int} (h3 : (o == 3) = true) {a : Tm} {v : Str} {xs : List Fm} (h : (Fm.mk o a v xs).here = true) : o = 3 /\ xs = [] /\ v = [] /\ a.atomOk = true := by
 have e : o = 3 := by simpa using h3
 subst e
 rw [zo4] at h
 simp only [show ((3 : Int) == 1 || (3 : Int) == 2) = false from rfl, Bool.false_eq_true, if_false, h3, if_true, Bool.and_eq_true, decide_eq_true_eq, beq_iff_eq] at h
 exact ⟨rfl, List.length_eq_zero_iff.1 h.1.1, h.2, h.1.2⟩
theorem qcm (a : Tm) : (Fm.mk 3 a [] []).here = a.atomOk := by
 rw [zo4]
 simp
theorem zhd (ps : List (Str × Tm)) : ∀ f : Fm, za1 f = true -> za1 (pF ps f) = true := za6 fun o a v xs ih hp => by
 have hq := pl_q hp
 unfold isQ at hq
 have hq : (o == 8 || o == 9) = false := hq
 cases h3 : o == 3
 ·rw [qaq _ h3, zcd]
  show (!(o == 8 || o == 9) && (xs.map (pF ps)).all za1) = true
  rw [hq, List.all_map]
  exact List.all_eq_true.2 fun x hx => ih x hx (zdg hp x hx)
 ·rw [qau _ h3, zcd]
  show (!(o == 8 || o == 9) && [].all za1) = true
  rw [hq]; rfl
theorem zhj (ps : List (Str × Tm)) : ∀ f : Fm, f.forms = true -> (pF ps f).forms = (atF f).all fun a => (zb8 ps a).atomOk := za6 fun o a v xs ih hf => by
 obtain ⟨hh, hx⟩ := ze4 hf
 cases h3 : o == 3
 ·have h3' : ((Fm.mk o a v xs).op == 3) = false := h3
  have ha : a = .mk [] [] := zf3 hh h3'
  subst ha
  rw [qaq _ h3, qiq h3, zk2, zsj, show (Fm.mk o (.mk [] []) v (xs.map (pF ps))).here = true from zvd (f := .mk o (.mk [] []) v xs) hh h3' (by rw [List.length_map]; rfl), Bool.true_and, List.all_map]
  exact zgg fun x hm => ih x hm (hx x hm)
 ·obtain ⟨rfl, rfl, rfl, h4⟩ := zia h3 hh
  rw [qau _ h3, qip h3, zsj, qcm]
  simp
theorem qed (ps : List (Str × Tm)) : ∀ f : Fm, f.forms = true -> (pF ps f).nodes = f.nodes := za6 fun o a v xs ih hf => by
 obtain ⟨hh, hx⟩ := ze4 hf
 cases h3 : o == 3
 ·rw [qaq _ h3, Fm.nodes_eq, Fm.nodes_eq]
  show 1 + ((xs.map (pF ps)).map Fm.nodes).sum = 1 + (xs.map Fm.nodes).sum
  rw [List.map_map, show xs.map (Fm.nodes ∘ pF ps) = xs.map Fm.nodes from List.map_congr_left fun x hm => ih x hm (hx x hm)]
 ·obtain ⟨rfl, rfl, rfl, h4⟩ := zia h3 hh
  rw [qau _ h3]; rfl
theorem qcw : ∀ a : Tm, a.names = true -> zb8 [] a = a := za7 fun m xs ih h => by
 by_cases hm : zav m = true
 ·rw [zig hm] at h
  have hx : xs = [] := List.length_eq_zero_iff.1 (of_decide_eq_true h)
  subst hx
  rw [ziz _ hm]; rfl
 ·rw [zgo hm] at h
  simp only [Bool.and_eq_true] at h
  rw [zf9 _ hm]
  congr 1
  conv => rhs; rw [<- List.map_id xs]
  exact List.map_congr_left fun x hx => ih x hx (List.all_eq_true.1 h.2 x hx)
theorem zut {a : Tm} (h : nmA a = true) : zb8 [] a = a := by
 obtain ⟨h3, h4⟩ := zm1 h
 cases a with
 | mk m xs =>
  have h3 : zav m = false := h3
  have h4 : xs.all Tm.names = true := h4
  rw [zf9 _ (by rw [h3]; simp)]
  congr 1
  conv => rhs; rw [<- List.map_id xs]
  exact List.map_congr_left fun x hx => qcw x (List.all_eq_true.1 h4 x hx)
theorem at_nm : ∀ f : Fm, f.forms = true -> ∀ a ∈ atF f, a.atomOk = true := za6 fun o a v xs ih hf b hb => by
 obtain ⟨hh, hx⟩ := ze4 hf
 cases h3 : o == 3
 ·rw [qiq h3] at hb
  obtain ⟨l, hl, hb⟩ := List.mem_flatten.1 hb
  obtain ⟨x, hm, rfl⟩ := List.mem_map.1 hl
  exact ih x hm (hx x hm) b hb
 ·obtain ⟨rfl, rfl, rfl, h4⟩ := zia h3 hh
  rw [qip h3, List.mem_singleton] at hb
  rw [hb]; exact h4
theorem zgr {a : Tm} (h : a.atomOk = true) : nmA a = true := by rw [zeu, Bool.and_eq_true] at h; exact h.1
theorem pF_nil : ∀ f : Fm, f.forms = true -> pF [] f = f := za6 fun o a v xs ih hf => by
 obtain ⟨hh, hx⟩ := ze4 hf
 cases h3 : o == 3
 ·have h3' : ((Fm.mk o a v xs).op == 3) = false := h3
  have ha : a = .mk [] [] := zf3 hh h3'
  subst ha
  rw [qaq _ h3]
  congr 1
  conv => rhs; rw [<- List.map_id xs]
  exact List.map_congr_left fun x hm => ih x hm (hx x hm)
 ·obtain ⟨rfl, rfl, rfl, h4⟩ := zia h3 hh
  rw [qau _ h3, zut (zgr h4)]
theorem inF_is (ps : List (Str × Tm)) (hp : ∀ p ∈ ps, zav p.1 = true) : ∀ f : Fm, f.forms = true -> inF ps f = pF ps f := za6 fun o a v xs ih hf => by
 obtain ⟨hh, hx⟩ := ze4 hf
 rw [qey]
 cases h3 : o == 3
 ·have h3' : ((Fm.mk o a v xs).op == 3) = false := h3
  have ha : a = .mk [] [] := zf3 hh h3'
  subst ha
  rw [qaq _ h3, h3', if_neg (by simp)]
  show Fm.mk o (.mk [] []) v (xs.map (inF ps)) = _
  congr 1
  exact List.map_congr_left fun x hm => ih x hm (hx x hm)
 ·obtain ⟨rfl, rfl, rfl, h4⟩ := zia h3 hh
  rw [qau _ h3]
  show Fm.mk 3 (rvT ps a) [] [] = _
  rw [zw6 ps hp (zgr h4)]
structure Grd (ps : List (Str × Tm)) : Prop where
 v : ∀ p ∈ ps, zav p.1 = true
 g : ∀ p ∈ ps, p.2.good = true /\ voS p.2 = []
theorem Grd.tail {p : Str × Tm} {ps : List (Str × Tm)} (h : Grd (p :: ps)) : Grd ps := ⟨fun q hq => h.v q (by simp [hq]), fun q hq => h.g q (by simp [hq])⟩
theorem zlk {t : Tm} (h : t.good = true) : t.names = true := by unfold Tm.good at h; rw [Bool.and_eq_true] at h; exact h.2
theorem qfo {n : Str} {t : Tm} (hn : zav n = true) (ht : voS t = []) : bnd n t = [(n, t)] := by
 unfold bnd
 rw [if_neg]
 intro e
 rw [zh9, beq_iff_eq.1 e, if_pos hn] at ht
 cases ht
def zri : Fm -> List (Str × Tm) -> Fm × Bool
 | g, [] => (g, true)
 | g, (n, t) :: ps => if (zco n t g).2 = true then zri (zco n t g).1 ps else ((zco n t g).1, false)
theorem zq0 : ∀ {ps : List (Str × Tm)} {f : Fm}, Grd ps -> f.forms = true -> za1 f = true -> (zri f ps).2 = true -> (zri f ps).1 = pF ps f /\ (pF ps f).forms = true
 | [], f, _, hf, _, _ => by rw [pF_nil f hf]; exact ⟨rfl, hf⟩
 | (n, t) :: ps, f, hg, hf, hp, h => by
  have hn := hg.v (n, t) (by simp)
  obtain ⟨ht, hv⟩ := hg.g (n, t) (by simp)
  have hb := qfo hn hv
  unfold zri at h ⊢
  split at h
  ·rename_i ho
   rw [if_pos ho]
   have hi := zpe n t f hp ho
   rw [zkl n t f hp, <- zhj _ f hf, hb] at ho
   rw [hi, hb] at h ⊢
   obtain ⟨h1, h2⟩ := zq0 hg.tail ho (zhd _ f hp) h
   rw [zzf n t hv] at h1 h2
   exact ⟨h1, h2⟩
  ·cases h
theorem zv5 : ∀ {ps : List (Str × Tm)} {f : Fm}, Grd ps -> f.forms = true -> za1 f = true -> (pF ps f).forms = true -> (zri f ps).2 = true
 | [], f, _, _, _, _ => rfl
 | (n, t) :: ps, f, hg, hf, hp, h => by
  have hn := hg.v (n, t) (by simp)
  obtain ⟨ht, hv⟩ := hg.g (n, t) (by simp)
  have hb := qfo hn hv
  have hnm : ∀ p ∈ [(n, t)], p.2.names = true := fun p hp => by rw [List.mem_singleton.1 hp]; exact zlk ht
  have ho : (zco n t f).2 = true := by
   rw [zkl n t f hp, hb]
   rw [zhj _ f hf] at h
   refine List.all_eq_true.2 fun a ha => ?_
   have h1 := List.all_eq_true.1 h a ha
   rw [<- zn1 n t hv, zeu, Bool.and_eq_true] at h1
   have h2 := qdz [(n, t)] hnm (zgr (at_nm f hf a ha))
   rw [zeu, h2, Bool.true_and]
   exact ztg ps h2 h1.2
  unfold zri
  rw [if_pos ho, zpe n t f hp ho, hb]
  have h1 : (pF [(n, t)] f).forms = true := by rw [zkl n t f hp, <- zhj _ f hf, hb] at ho; exact ho
  exact zv5 hg.tail h1 (zhd _ f hp) (by rw [zzf n t hv]; exact h)
theorem zsb {ps : List (Str × Tm)} {f : Fm} (hg : Grd ps) (hf : f.forms = true) (hp : za1 f = true) : ((zri f ps).2 && (zri f ps).1.good) = (pF ps f).good := by
 rw [Bool.eq_iff_iff, Bool.and_eq_true]
 constructor
 ·rintro ⟨h1, h2⟩
  rw [(zq0 hg hf hp h1).1] at h2
  exact h2
 ·intro h
  have h1 := zv5 hg hf hp (zen h)
  exact ⟨h1, by rw [(zq0 hg hf hp h1).1]; exact h⟩
theorem zli : ∀ f : Fm, f.forms = true -> f.wt <= 520 * f.nodes := za6 fun o a v xs ih hf => by
 obtain ⟨hh, hx⟩ := ze4 hf
 have hw : (Fm.mk o a v xs).wt = a.wt + v.length + xs.length + (xs.map Fm.wt).sum := Fm.wt_eq _
 have hn : (Fm.mk o a v xs).nodes = 1 + (xs.map Fm.nodes).sum := Fm.nodes_eq _
 have hs : (xs.map Fm.wt).sum <= (xs.map fun x => 520 * x.nodes).sum := zj7 _ _ xs fun x hm => ih x hm (hx x hm)
 have hs2 : (xs.map fun x => 520 * x.nodes).sum = 520 * (xs.map Fm.nodes).sum := by
  clear hs hw hn hx hh hf ih
  induction xs with
  | nil => rfl
  | cons x xs ih2 => rw [List.map_cons, List.sum_cons, ih2, List.map_cons, List.sum_cons]; omega
 rw [hw, hn]
 cases h3 : o == 3
 ·have h3' : ((Fm.mk o a v xs).op == 3) = false := h3
  have ha : a = .mk [] [] := zf3 hh h3'
  have haw : a.wt = 0 := by rw [ha]; rfl
  have hl : xs.length <= 2 /\ v.length <= 4 := by
   rcases zd8 hf with ⟨h1, h2⟩ | ⟨p, h1, _⟩ | ⟨o', p, q, _, h1, _⟩ | ⟨o', v', p, ho, h1, _⟩
   ·have h1 : xs = [] := h1
    refine ⟨by rw [h1]; simp, ?_⟩
    have := zsf hh (by rcases h2 with h | h | h <;> (rw [h]; rfl))
    have this : v = [] := this
    rw [this]; simp
   ·cases h1; exact ⟨by simp, by simp⟩
   ·cases h1; exact ⟨by simp, by simp⟩
   ·cases h1
    refine ⟨by simp, ?_⟩
    have := qan hh (by rcases ho with h | h <;> (rw [show (Fm.mk o _ v [p]).op = o from rfl, h]; rfl))
    have this : zav v = true := this
    unfold zav inB at this
    simp only [Bool.and_eq_true, decide_eq_true_eq] at this
    omega
  omega
 ·obtain ⟨rfl, rfl, rfl, h4⟩ := zia h3 hh
  have := zmf h4
  simp only [List.length_nil, List.map_nil, List.sum_nil]
  omega
theorem zir {f : Fm} (h : f.good = true) : f.wt <= 20800 := by
 have h1 := zli f (zen h)
 unfold Fm.good at h
 rw [Bool.and_eq_true, decide_eq_true_eq] at h
 omega
end Go.Proofs.YtemnhgmgeijkcaaGreat
namespace Go.Proofs.YtemnhgmgeijkcaaGreat
set_option linter.unusedSimpArgs false
set_option linter.unusedVariables false
set_option linter.unusedSectionVars false
set_option maxRecDepth 4000
open Go.RowKit
def grT (t : Tm) : Bool := t.good && decide (voS t = [])
theorem zne (l : List Str) : (zbv [] l).length = 0 ↔ l = [] := by
 constructor
 ·intro h
  cases l with
  | nil => rfl
  | cons a l =>
   exfalso
   have h1 : ∀ (l ys : List Str), ys ≠ [] -> zbv ys l ≠ [] := fun l => by
    induction l with
    | nil => exact fun ys h => h
    | cons a l ih =>
     intro ys h
     show zbv (zj3 ys a) l ≠ []
     refine ih _ ?_
     unfold zj3
     split
     ·exact h
     ·simp
   have : zbv [] (a :: l) = zbv (zj3 [] a) l := rfl
   rw [this] at h
   exact h1 l (zj3 [] a) (by unfold zj3; simp) (List.length_eq_zero_iff.1 h)
 ·rintro rfl; rfl
theorem qhp {t : Tm} (h : t.good = true) : voI t = voS t /\ t.ne = true := zkg t (zlk h)
theorem zi9 (t : Tm) (hw : t.wt <= 1048576) : FC Tryz.prog 68 [tmD t] [bD (grT t)] := by
 have HI := zf4 t (by omega)
 have hv : grT t = (t.good && decide (voS t = [])) := rfl
 rw [hv]
 cases hg : t.good
 ·rw [hg] at HI
  rw [Bool.false_and]
  simp only [tmD, zaa t] at HI ⊢
  refine zcp Tryz.call68 Tryz.func68 rfl (by kernel_rfl) (zat (by kernel_rfl)) ?_
  simp -implicitDefEqProofs only [go_sem, Tryz.results68]
  refine callF (HI) (by simp -implicitDefEqProofs only [go_sem]) ?_
  simp -implicitDefEqProofs only [go_sem]
 ·rw [hg] at HI
  rw [Bool.true_and]
  obtain ⟨h1, h2⟩ := qhp hg
  have hl := qgc t
  have HC := zn3 t h2 (by omega) [] (by simp only [List.length_nil]; omega)
  have hd : (((zbv [] (voI t)).length : Int) == 0) = decide (voS t = []) := by
   rw [Bool.eq_iff_iff, beq_iff_eq, decide_eq_true_eq, <- h1, <- zne]
   omega
  rw [show zb0 [] = .sl 1 [] from rfl] at HC
  generalize zbv [] (voI t) = L at HC hd
  simp only [tmD, zaa t] at HI HC ⊢
  refine zcp Tryz.call68 Tryz.func68 rfl (by kernel_rfl) (zat (by kernel_rfl)) ?_
  simp -implicitDefEqProofs only [go_sem, Tryz.results68]
  refine callF (HI) (by simp -implicitDefEqProofs only [go_sem]) ?_
  simp -implicitDefEqProofs only [go_sem]
  refine zcb [1, 4, 5] [6] [] (HC) (by simp -implicitDefEqProofs only [go_sem, hd]) (by simp -implicitDefEqProofs only [go_sem, hd]) (by simp -implicitDefEqProofs only [go_sem, hd]) (by simp -implicitDefEqProofs only [go_sem, hd]) ?_
  simp -implicitDefEqProofs only [go_sem, hd]
theorem qbk : ∀ a : Tm, (voS a).length <= 1 + a.wt := za7 fun n xs ih => by
 rw [zh9]
 split
 ·simp only [List.length_cons, List.length_nil]; omega
 ·have h1 := zhl voS (fun x => 1 + x.wt) xs ih
  have h2 := zqa Tm.wt xs
  have h3 : (Tm.mk n xs).wt = n.length + xs.length + (xs.map Tm.wt).sum := Tm.wt_eq _
  simp only [Tm.args]
  omega
theorem zpa (t : Tm) (hw : t.wt <= 1048576) : FC Tryz.prog 174 [tmD t] [bD (decide (voS t = []))] := by
 have hn := zfa t
 have hl := qbk t
 have HV := zkn t (by omega) (by omega)
 have hd : (((zbd [] (voS t)).length : Int) == 0) = decide (voS t = []) := by
  rw [Bool.eq_iff_iff, beq_iff_eq, decide_eq_true_eq, <- zne, <- zlj, zey]
  omega
 generalize zbd [] (voS t) = L at HV hd
 simp only [tmD, zaa t] at HV ⊢
 refine zah Tryz.call174 Tryz.func174 rfl (by kernel_rfl) (zat (by kernel_rfl)) ?_
 simp -implicitDefEqProofs only [go_sem, Tryz.results174]
 refine callF (HV) (by simp -implicitDefEqProofs only [go_sem, hd]) ?_
 simp -implicitDefEqProofs only [go_sem, hd]
theorem zud (ts : List Tm) (hw : zfp ts <= 1048576) (hl : ts.length <= 60) : FC Tryz.prog 112 [.one (tmS ts)] [bD (ts.all grT)] := by
 have h60 : decide ((ts.length : Int) <= 60) = true := by simp; omega
 refine zah Tryz.call112 Tryz.func112 rfl (by kernel_rfl) (zat (by kernel_rfl)) ?_
 simp -implicitDefEqProofs only [go_sem, Tryz.results112]
 refine zae (fun k : Nat => hd [(0, vT (tmS ts)), (3, vI k)] [] []) (fun k => k <= ts.length /\ (ts.take k).all grT = true) (fun k => ts.length - k) 0 (zac ?_) ⟨Nat.zero_le _, rfl⟩ ?_
 ·simp -implicitDefEqProofs only [go_sem]
 ·intro k ⟨hk, hT⟩
  have hk60 : ((k : Int) <= 60) = True := by simp; omega
  by_cases hlt : k < ts.length
  ·have htw := zbe Tm.wt ts ts[k] (List.getElem_mem hlt)
   have hW : zfp ts = ts.length + (ts.map Tm.wt).sum := rfl
   have HG := zrl ts[k] (by omega)
   have HR := zpa ts[k] (by omega)
   have hv : grT ts[k] = (ts[k].good && decide (voS ts[k] = [])) := rfl
   simp only [tmD, zaa ts[k]] at HG HR
   have hbad : grT ts[k] = false -> ts.all grT = false := fun h => List.all_eq_false.2 ⟨_, List.getElem_mem hlt, by rw [h]; simp⟩
   have hnx : grT ts[k] = true -> (ts.take (k + 1)).all grT = true := fun h => by
    rw [List.take_succ_eq_append_getElem hlt, List.all_append, hT]; simp [h]
   cases h1 : ts[k].good
   ·rw [h1] at HG
    rw [h1, Bool.false_and] at hv
    rw [hbad hv]
    simp -implicitDefEqProofs only [go_sem, hlt, hk60, zag, zaa ts[k]]
    refine callF (HG) (by simp -implicitDefEqProofs only [go_sem]) ?_
    simp -implicitDefEqProofs only [go_sem]
   ·rw [h1] at HG
    rw [h1, Bool.true_and] at hv
    simp -implicitDefEqProofs only [go_sem, hlt, hk60, zag, zaa ts[k]]
    refine callF (HG) (by simp -implicitDefEqProofs only [go_sem]) ?_
    simp -implicitDefEqProofs only [go_sem]
    simp -implicitDefEqProofs only [go_sem, hlt, zag, zaa ts[k]]
    refine callF (HR) (by simp -implicitDefEqProofs only [go_sem]) ?_
    simp -implicitDefEqProofs only [go_sem]
    refine ⟨fun h => ?_, fun h => ?_⟩
    ·rw [hbad (by rw [hv]; simpa using h)]
    ·refine ⟨k + 1, ⟨hlt, hnx (by rw [hv]; simpa using h)⟩, by omega, zac ?_⟩
     simp -implicitDefEqProofs only [go_sem]
     rw [zao (by omega)]
  ·rw [List.take_of_length_le (by omega)] at hT
   rw [hT]
   simp -implicitDefEqProofs only [go_sem, hlt, h60]
theorem zgb : ∀ f : Fm, (exN f).2.nodes <= f.nodes /\ ∀ n ∈ (exN f).1, f.forms = true -> zav n = true := za6 fun o a v ps ih => by
 cases h9 : (Fm.mk o a v ps).op == 9
 ·rw [zy7 h9]
  exact ⟨Nat.le_refl _, fun n hn => by cases hn⟩
 ·by_cases hl : 0 < ps.length
  ·have e : exN (.mk o a v ps) = ((Fm.mk o a v ps).var :: (exN ps[0]).1, (exN ps[0]).2) := by
    rw [exN, dif_pos ⟨by simpa using h9, hl⟩]; rfl
   rw [e]
   have hm : ps[0] ∈ ps := List.getElem_mem hl
   have h1 := (ih ps[0] hm).1
   have h2 := zdz (f := .mk o a v ps) hm
   refine ⟨by show (exN ps[0]).2.nodes <= _; omega, fun n hn hf => ?_⟩
   obtain ⟨hh, hx⟩ := ze4 hf
   rcases List.mem_cons.1 hn with rfl | hn
   ·exact qan hh (by unfold isQ; rw [h9, Bool.or_true])
   ·exact (ih ps[0] hm).2 n hn (hx _ hm)
  ·have e : exN (.mk o a v ps) = ([], .mk o a v ps) := by
    rw [exN, dif_neg]
    rintro ⟨_, h⟩
    exact hl h
   rw [e]
   exact ⟨Nat.le_refl _, fun n hn => by cases hn⟩
theorem pF_wt (ps : List (Str × Tm)) (W : Nat) (hW : ∀ p ∈ ps, p.2.wt <= W) : ∀ f : Fm, f.forms = true -> (pF ps f).wt <= (520 + 30 * W) * f.nodes := za6 fun o a v xs ih hf => by
 obtain ⟨hh, hx⟩ := ze4 hf
 have hn : (Fm.mk o a v xs).nodes = 1 + (xs.map Fm.nodes).sum := Fm.nodes_eq _
 have hs : (xs.map fun x => (pF ps x).wt).sum <= (xs.map fun x => (520 + 30 * W) * x.nodes).sum := zj7 _ _ xs fun x hm => ih x hm (hx x hm)
 have hs2 : (xs.map fun x => (520 + 30 * W) * x.nodes).sum = (520 + 30 * W) * (xs.map Fm.nodes).sum := by
  generalize 520 + 30 * W = K
  clear hs hn hx hh hf ih
  induction xs with
  | nil => rfl
  | cons x xs ih2 => rw [List.map_cons, List.sum_cons, ih2, List.map_cons, List.sum_cons, Nat.mul_add]
 rw [hn, Nat.mul_add, Nat.mul_one]
 cases h3 : o == 3
 ·have hw0 := zli _ hf
  rw [qaq _ h3]
  have hw : (Fm.mk o (.mk [] []) v (xs.map (pF ps))).wt = 0 + v.length + (xs.map (pF ps)).length + ((xs.map (pF ps)).map Fm.wt).sum := Fm.wt_eq _
  have hl : xs.length <= 2 /\ v.length <= 4 := by
   rcases zd8 hf with ⟨h1, h2⟩ | ⟨p, h1, _⟩ | ⟨o', p, q, _, h1, _⟩ | ⟨o', v', p, ho, h1, _⟩
   ·have h1 : xs = [] := h1
    refine ⟨by rw [h1]; simp, ?_⟩
    have := zsf hh (by rcases h2 with h | h | h <;> (rw [h]; rfl))
    have this : v = [] := this
    rw [this]; simp
   ·cases h1; exact ⟨by simp, by simp⟩
   ·cases h1; exact ⟨by simp, by simp⟩
   ·cases h1
    refine ⟨by simp, ?_⟩
    have := qan hh (by rcases ho with h | h <;> (rw [show (Fm.mk o _ v [p]).op = o from rfl, h]; rfl))
    have this : zav v = true := this
    unfold zav inB at this
    simp only [Bool.and_eq_true, decide_eq_true_eq] at this
    omega
  have e2 : ((xs.map (pF ps)).map Fm.wt).sum = (xs.map fun x => (pF ps x).wt).sum := by rw [List.map_map]; rfl
  rw [hw, List.length_map, e2]
  omega
 ·obtain ⟨rfl, rfl, rfl, h4⟩ := zia h3 hh
  rw [qau _ h3]
  have hw : (Fm.mk 3 (zb8 ps a) [] []).wt = (zb8 ps a).wt + 0 + 0 + 0 := Fm.wt_eq _
  have h5 := zy6 ps W hW a
  have h6 := zmf h4
  have h7 : a.nodes <= 30 := by
   rw [zeu, Bool.and_eq_true] at h4
   have h8 := h4.2
   unfold zcj at h8
   simp only [Bool.and_eq_true, decide_eq_true_eq] at h8
   exact h8.1
  have h8 : a.nodes * W <= 30 * W := Nat.mul_le_mul_right W h7
  rw [hw]
  omega
theorem zkr {t : Tm} (h : t.good = true) : t.wt <= 240 := by
 have h1 := zra t (zlk h)
 unfold Tm.good zcj at h
 simp only [Bool.and_eq_true, decide_eq_true_eq] at h
 omega
theorem zpq {ns : List Str} {ts : List Tm} (hv : ∀ n ∈ ns, zav n = true) (ht : ts.all grT = true) : Grd (ns.zip ts) := by
 refine ⟨fun p hp => hv _ (List.of_mem_zip hp).1, fun p hp => ?_⟩
 have := List.all_eq_true.1 ht _ (List.of_mem_zip hp).2
 unfold grT at this
 rw [Bool.and_eq_true, decide_eq_true_eq] at this
 exact this
theorem qie {ps : List (Str × Tm)} (h : Grd ps) {g : Fm} (hf : g.forms = true) (hn : g.nodes <= 40) : (pF ps g).wt <= 308800 := by
 have h1 := pF_wt ps 240 (fun p hp => zkr (h.g p hp).1) g hf
 have h2 : (520 + 30 * 240) * g.nodes <= (520 + 30 * 240) * 40 := Nat.mul_le_mul_left _ hn
 omega
end Go.Proofs.YtemnhgmgeijkcaaGreat
namespace Go.Proofs.YtemnhgmgeijkcaaGreat
set_option linter.unusedSimpArgs false
set_option linter.unusedVariables false
set_option linter.unusedSectionVars false
set_option maxRecDepth 4000
open Go.RowKit
def okT (n : Nat) (ts : List Tm) : Bool := decide (ts.length = n) && ts.all grT
def zu1 (tss : List (List Tm)) : Nat := tss.length + (tss.map zfp).sum
def zv2 (f : Fm) (ts : List Tm) : Fm := pF ((exN f).1.zip ts) (exN f).2
def zi2 (f : Fm) (tss : List (List Tm)) : Fm := zcs 6 (tss.map (zv2 f)) (mkF 2 [])
noncomputable def qat (f : Fm) (tss : List (List Tm)) : Bool := qbc f && tss.all (okT (exN f).1.length)
noncomputable def hdB (f : Fm) (tss : List (List Tm)) : Bool := qat f tss && (zi2 f tss).good
noncomputable def hdR (f : Fm) (tss : List (List Tm)) : Fm := if hdB f tss = true then zi2 f tss else mkF 0 []
theorem zgh {f : Fm} (h : qbc f = true) : f.good = true /\ (exN f).1.Nodup /\ za1 (exN f).2 = true /\ (exN f).2.forms = true := by
 unfold qbc at h
 simp only [Bool.and_eq_true, decide_eq_true_eq] at h
 exact ⟨h.1.1.1, h.1.2, h.2, zxo f (zen h.1.1.1)⟩
theorem zpk (t : Tm) (hw : t.wt <= 1048576) : FC Tryz.prog 67 [tmD t] [bD (!grT t)] := by
 have H := zi9 t hw
 simp only [tmD, zaa t] at H ⊢
 refine zah Tryz.call67 Tryz.func67 rfl (by kernel_rfl) (zat (by kernel_rfl)) ?_
 simp -implicitDefEqProofs only [go_sem, Tryz.results67]
 refine callF (H) (by simp -implicitDefEqProofs only [go_sem]) ?_
 simp -implicitDefEqProofs only [go_sem]
set_option maxHeartbeats 4000000 in
theorem qaw (f : Fm) (hw : f.wt <= 1048576) (tss : List (List Tm)) (ht : zu1 tss <= 1048576) : FC Tryz.prog 17 [fmD f, .one (zjz tss)] [fmD (hdR f tss), bD (hdB f tss)] := by
 have HH := zoc f hw
 cases hh : qbc f
 ·have e1 : hdB f tss = false := by unfold hdB qat; rw [hh]; rfl
  unfold hdR
  rw [e1, if_neg (by simp)]
  rw [hh] at HH
  simp only [fmD, zab f, zbn, List.map_nil] at HH ⊢
  refine zcp Tryz.call17 Tryz.func17 rfl (by kernel_rfl) (zat (by kernel_rfl)) ?_
  simp -implicitDefEqProofs only [go_sem, Tryz.results17]
  refine callF (HH) (by simp -implicitDefEqProofs only [go_sem]) ?_
  simp -implicitDefEqProofs only [go_sem]
 ·rw [hh] at HH
  obtain ⟨hg, hnd, hpl, hfo⟩ := zgh hh
  have HP := zr0 f (zen hg) hw
  have hbw := Nat.le_trans (zzl f) (zir hg)
  have hfn : f.nodes <= 40 := by unfold Fm.good at hg; rw [Bool.and_eq_true, decide_eq_true_eq] at hg; exact hg.1
  have hvn : ∀ n ∈ (exN f).1, zav n = true := fun n hn => (zgb f).2 n hn (zen hg)
  have hgn := Nat.le_trans (zgb f).1 hfn
  have hlen := zez f
  have hHG : zi2 f tss = zcs 6 (tss.map (zv2 f)) (mkF 2 []) := rfl
  have hBv : hdB f tss = (qat f tss && (zi2 f tss).good) := rfl
  have hRv : hdR f tss = if hdB f tss = true then zi2 f tss else mkF 0 [] := rfl
  have hvO : qat f tss = tss.all (okT (exN f).1.length) := by unfold qat; rw [hh, Bool.true_and]
  rw [show tss.map (zv2 f) = tss.map fun ts => pF ((exN f).1.zip ts) (exN f).2 from rfl] at hHG
  generalize exN f = B at HP hnd hpl hfo hbw hvO hvn hgn hlen hHG
  obtain ⟨ns, g⟩ := B
  simp only at HP hnd hpl hfo hbw hvO hvn hgn hlen hHG
  have hTL : zu1 tss = tss.length + (tss.map zfp).sum := rfl
  simp only [fmD, zab f, zab g] at HH HP ⊢
  refine qij Tryz.call17 Tryz.func17 rfl (zat (by kernel_rfl)) ?_
  refine zdi.cut 3 rfl (by kernel_rfl) ?_
  simp -implicitDefEqProofs only [go_sem, Tryz.results17]
  refine callF (HH) (by simp -implicitDefEqProofs only [go_sem]) ?_
  simp -implicitDefEqProofs only [go_sem]
  refine zst [1, 2, 4, 5] [19] [] (HP) (by simp -implicitDefEqProofs only [go_sem]) (by simp -implicitDefEqProofs only [go_sem]) (by simp -implicitDefEqProofs only [go_sem]) (by simp -implicitDefEqProofs only [go_sem]) ?_
  simp -implicitDefEqProofs only [go_sem]
  refine za9 (by simp -implicitDefEqProofs only [go_sem]) ?_
  simp -implicitDefEqProofs only [go_sem]
  refine zdi.seq ?_
  refine zdi.cut 0 rfl (by kernel_rfl) ?_
  simp -implicitDefEqProofs only [go_sem]
  refine zdi.block ?_
  refine zdi.loop (fun k : Nat => hd [(4, .one (.bx 4 0)), (5, vB false), (6, .one (.ow 640 0)), (7, .one (.bx 7 0)), (8, .one (.ow 736 0)), (24, .one (.rn (zjz tss))), (25, vI tss.length), (26, vI k)] [(4, [.t (.int .i64 0), .t (.str []), .nl 2, .t (.str []), .nl 5]), (7, [.t (.int .i64 g.op), .t (.str g.atom.name), .rn (tmS g.atom.args), .t (.str g.var), .rn (fmS g.parts)])] [(640, ⟨true, 1, ns.map fun s => [.str s], 0, true⟩), (736, ⟨true, 5, (tss.take k).map fun ts => fmC (pF (ns.zip ts) g), 0, true⟩)]) (fun k => k <= tss.length /\ (tss.take k).all (okT ns.length) = true) (fun k => tss.length - k) 0 (zac ?_) ⟨Nat.zero_le _, rfl⟩ ?_
  ·simp -implicitDefEqProofs only [go_sem]
  ·intro k ⟨hk, hT⟩
   refine zdi.cut 1 rfl (by kernel_rfl) ?_
   by_cases hlt : k < tss.length
   ·simp -implicitDefEqProofs only [go_sem, hlt]
    refine zdi.seq ?_
    refine zdi.block ?_
    refine zdi.cut 0 rfl (by kernel_rfl) ?_
    simp -implicitDefEqProofs only [go_sem, zag, hlt]
    have hmw := zbe zfp tss tss[k] (List.getElem_mem hlt)
    have hbad : okT ns.length tss[k] = false -> hdB f tss = false := fun h => by
     rw [hBv, hvO, List.all_eq_false.2 ⟨_, List.getElem_mem hlt, by rw [h]; simp⟩]; rfl
    have hnx : okT ns.length tss[k] = true -> (tss.take (k + 1)).all (okT ns.length) = true := fun h => by
     rw [List.take_succ_eq_append_getElem hlt, List.all_append, hT]; simp [h]
    have htk : tss.take (k + 1) = tss.take k ++ [tss[k]] := by rw [List.take_succ_eq_append_getElem hlt]
    generalize tss[k] = ts at hmw hbad hnx htk ⊢
    have hF := zcl ts (fun t => !grT t) 67 [] fun x hx => zpk x (by
     have h1 := zbe Tm.wt ts x hx
     have h2 : zfp ts = ts.length + (ts.map Tm.wt).sum := rfl
     omega)
    have hov : okT ns.length ts = (decide (ts.length = ns.length) && ts.all grT) := rfl
    rw [<- zc2 ts grT] at hov
    generalize han : (ts.any fun t => !grT t) = an at hF hov
    by_cases hl : ts.length = ns.length
    ·have hl0 : ((ts.length : Int) != (ns.length : Int)) = false := by simp [hl]
     rw [decide_eq_true hl, Bool.true_and] at hov
     cases an
     ·have hok := hnx hov
      refine zdi.cut 0 rfl (by kernel_rfl) ?_
      simp -implicitDefEqProofs only [go_sem, hl0]
      refine callF (hF) (by simp -implicitDefEqProofs only [go_sem]) ?_
      simp -implicitDefEqProofs only [go_sem]
      refine zdi.scope true rfl rfl rfl (by simp only [Tryz.ntmps17]; omega) ?_
      intro b
      refine zel.cut 0 rfl (by kernel_rfl) ?_
      simp -implicitDefEqProofs only [go_sem]
      refine zel.block ?_
      refine zel.loop (fun j : Nat => hd [(4, .one (.bx 4 0)), (5, vB false), (6, .one (.ow 640 0)), (7, .one (.bx 7 0)), (8, .one (.ow 736 0)), (10, .one (.rn (tmS ts))), (11, .one (.cv (.map (some b)))), (24, .one (.rn (zjz tss))), (25, vI tss.length), (26, vI k), (41, .one (.ow 640 0)), (42, vI ns.length), (43, vI j)] [(4, [.t (.int .i64 0), .t (.str []), .nl 2, .t (.str []), .nl 5]), (7, [.t (.int .i64 g.op), .t (.str g.atom.name), .rn (tmS g.atom.args), .t (.str g.var), .rn (fmS g.parts)])] [(640, ⟨true, 1, ns.map fun s => [.str s], 0, true⟩), (736, ⟨true, 5, (tss.take k).map fun ts => fmC (pF (ns.zip ts) g), 0, true⟩)])
       (fun j => ((ns.zip ts).take j).map bnC) (fun j => j <= ns.length) (fun j => ns.length - j) 0 (zac ?_) rfl (Nat.zero_le _) ?_
      ·simp -implicitDefEqProofs only [go_sem]
      ·intro j hj
       refine zel.cut 1 rfl (by kernel_rfl) ?_
       by_cases hlj : j < ns.length
       ·have hlj2 : j < ts.length := by omega
        have hzl : j < (ns.zip ts).length := by rw [List.length_zip]; omega
        have hfr : zde (.str ns[j]) (((ns.zip ts).take j).map bnC) = some none := by
         rw [zgp, List.find?_eq_none.2]
         ·rfl
         ·intro p hp e
          obtain ⟨i, hi, rfl⟩ := List.getElem_of_mem hp
          rw [List.length_take] at hi
          rw [List.getElem_take, List.getElem_zip, beq_iff_eq] at e
          have := zxx hnd (by omega) hlj e
          omega
        have hrow : ((ns.zip ts).take (j + 1)).map bnC = ((ns.zip ts).take j).map bnC ++ [[.str ns[j], .str ts[j].name, .sl 2 (ts[j].args.map tmC)]] := by
         rw [List.take_succ_eq_append_getElem hzl, List.map_append, List.map_singleton, List.getElem_zip, zq5]
        generalize ((ns.zip ts).take j).map bnC = R at hfr hrow ⊢
        simp -implicitDefEqProofs only [go_sem, hlj]
        refine zel.seq ?_
        refine zel.block ?_
        refine zel.cut 0 rfl (by kernel_rfl) ?_
        simp -implicitDefEqProofs only [go_sem, zag, hlj]
        refine zel.upd 6 rfl rfl rfl (by kernel_rfl) ?_
        simp -implicitDefEqProofs only [go_sem, zag, hlj, hlj2, zaa ts[j], hfr, Tryz.underlying105, Tryz.underlying9]
        refine zel.ofEx (by kernel_rfl) ?_
        simp -implicitDefEqProofs only [go_sem]
        refine ⟨j + 1, hlj, by omega, hrow, zac ?_⟩
        simp -implicitDefEqProofs only [go_sem]
        rw [zao (by omega)]
       ·have htz : (ns.zip ts).take j = ns.zip ts := List.take_of_length_le (by rw [List.length_zip]; omega)
        have hgr := zpq hvn (by rw [<- zc2, han]; rfl : ts.all grT = true)
        have HI := zuh (ns.zip ts) (fun p hp => by have := zkr (hgr.g p hp).1; omega) g (by omega)
        rw [inF_is _ hgr.v g hfo] at HI
        have ha : k <= 4294967295 := by omega
        have ha2 : min k tss.length <= 4294967295 := by omega
        unfold mpS at HI
        simp -implicitDefEqProofs only [go_sem, hlj, htz]
        refine zdi.ofEx (by kernel_rfl) ?_
        generalize hr : pF (ns.zip ts) g = r at HI ⊢
        simp only [fmD, zab g, zab r] at HI
        simp -implicitDefEqProofs only [go_sem]
        refine callF (HI) (by simp -implicitDefEqProofs only [go_sem]) ?_
        simp -implicitDefEqProofs only [go_sem]
        refine za9 (by simp -implicitDefEqProofs only [go_sem]) ?_
        simp -implicitDefEqProofs only [go_sem]
        refine apD true (by simp -implicitDefEqProofs only [go_sem, ne_eq, List.length_map, List.length_take, ha, ha2]) ?_
        simp -implicitDefEqProofs only [go_sem, ne_eq, List.length_map, List.length_take, ha, ha2]
        refine zdi.ofEx (by kernel_rfl) ?_
        simp -implicitDefEqProofs only [go_sem]
        refine ⟨k + 1, ⟨hlt, hok⟩, by omega, zac ?_⟩
        simp -implicitDefEqProofs only [go_sem]
        rw [zao (by omega), htk, List.map_append, List.map_singleton, hr, zab r]
        exact ⟨rfl, rfl⟩
     ·have hB := hbad hov
      rw [hRv, hB, if_neg (by simp)]
      simp only [zbn, List.map_nil]
      refine zdi.cut 0 rfl (by kernel_rfl) ?_
      simp -implicitDefEqProofs only [go_sem, hl0]
      refine callF (hF) (by simp -implicitDefEqProofs only [go_sem]) ?_
      simp -implicitDefEqProofs only [go_sem]
    ·have hl0 : ((ts.length : Int) != (ns.length : Int)) = true := by rw [bne_iff_ne]; omega
     rw [decide_eq_false hl, Bool.false_and] at hov
     have hB := hbad hov
     rw [hRv, hB, if_neg (by simp)]
     simp only [zbn, List.map_nil]
     refine zdi.cut 0 rfl (by kernel_rfl) ?_
     simp -implicitDefEqProofs only [go_sem, hl0]
   ·rw [List.take_of_length_le (by omega)] at hT
    rw [hvO, hT, Bool.true_and] at hBv
    have ht : tss.take k = tss := List.take_of_length_le (by omega)
    have hall : ∀ x ∈ tss.map (fun ts => pF (ns.zip ts) g), x.wt <= 308800 := fun x hx => by
     obtain ⟨ts, hm, rfl⟩ := List.mem_map.1 hx
     have h1 := List.all_eq_true.1 hT ts hm
     unfold okT at h1
     rw [Bool.and_eq_true] at h1
     exact qie (zpq hvn h1.2) hfo hgn
    have hsum : ∀ l : List Fm, (∀ x ∈ l, x.wt <= 308800) -> (l.map Fm.wt).sum <= 308800 * l.length := fun l => by
     induction l with
     | nil => intro _; simp
     | cons x l ih =>
      intro h
      have := ih fun y hy => h y (by simp [hy])
      have := h x (by simp)
      rw [List.map_cons, List.sum_cons, List.length_cons]; omega
    have hs := hsum _ hall
    have hj := zou 6 (mkF 2 []) (tss.map fun ts => pF (ns.zip ts) g)
    rw [List.length_map] at hs hj
    have h2 : (mkF 2 []).wt = 0 := rfl
    have HL := zt3 6 (tss.map fun ts => pF (ns.zip ts) g) (mkF 2 [])
    rw [<- hHG] at HL hj
    have HI := zo2 (zi2 f tss) (by omega)
    rw [hRv, hBv]
    generalize zi2 f tss = G at HL HI
    generalize G.good = gd at HI
    generalize hC : (if gd = true then G else mkF 0 []) = C at HI ⊢
    simp only [fmD, zbn, List.map_nil, List.map_cons, zab G, zab C, fmS, List.map_map, Function.comp_def] at HL HI ⊢
    simp -implicitDefEqProofs only [go_sem, hlt, ht]
    refine zdi.ofEx (by kernel_rfl) ?_
    simp -implicitDefEqProofs only [go_sem]
    refine zcb [4, 5] [62, 63] [] (HL) (by simp -implicitDefEqProofs only [go_sem]) (by simp -implicitDefEqProofs only [go_sem]) (by simp -implicitDefEqProofs only [go_sem]) (by simp -implicitDefEqProofs only [go_sem]) ?_
    simp -implicitDefEqProofs only [go_sem]
    refine zcb [4, 5] [64] [] (HI) (by simp -implicitDefEqProofs only [go_sem]) (by simp -implicitDefEqProofs only [go_sem]) (by simp -implicitDefEqProofs only [go_sem]) (by simp -implicitDefEqProofs only [go_sem]) ?_
    simp -implicitDefEqProofs only [go_sem]
end Go.Proofs.YtemnhgmgeijkcaaGreat
namespace Go.Proofs.YtemnhgmgeijkcaaGreat
set_option linter.unusedSimpArgs false
set_option linter.unusedVariables false
set_option linter.unusedSectionVars false
set_option maxRecDepth 4000
open Go.RowKit
theorem zmr (op : Int) (ho : op = 5 \/ op = 6 \/ op = 7) (z : Fm) : ∀ {xs : List Fm}, (zcs op xs z).good = true -> ∀ x ∈ xs, x.good = true
 | [], _, x, hx => by cases hx
 | [a], h, x, hx => by rw [List.mem_singleton.1 hx]; exact h
 | a :: b :: xs, h, x, hx => by
  rw [zd3 op a (by simp) z] at h
  have h2 := h
  unfold Fm.good at h2
  rw [Bool.and_eq_true, decide_eq_true_eq] at h2
  obtain ⟨hn, hf⟩ := h2
  have hn2 : (mkF op [a, zcs op (b :: xs) z]).nodes = 1 + (a.nodes + ((zcs op (b :: xs) z).nodes + 0)) := Fm.nodes_eq _
  have hp := zfl hf
  have ha : a.good = true := by
   unfold Fm.good
   rw [hp a (by simp [qfp]), Bool.and_true, decide_eq_true_eq]; omega
  have hj : (zcs op (b :: xs) z).good = true := by
   unfold Fm.good
   rw [hp _ (by simp [qfp]), Bool.and_true, decide_eq_true_eq]; omega
  rcases List.mem_cons.1 hx with rfl | hx
  ·exact ha
  ·exact zmr op ho z hj x hx
theorem qbo {g : Fm} {n : Str} {t : Tm} {ps : List (Str × Tm)} : zri g ((n, t) :: ps) = if (zco n t g).2 = true then zri (zco n t g).1 ps else ((zco n t g).1, false) := rfl
theorem zni {f : Fm} (h : f.forms = true) (hn : f.nodes <= 40) : f.wt <= 20800 := by
 have := zli f h
 omega
set_option maxHeartbeats 4000000 in
theorem zhb (f : Fm) (hw : f.wt <= 1048576) (tss : List (List Tm)) (ht : zu1 tss <= 1048576) : FC Tryz.prog 60 [fmD f, .one (zjz tss)] [fmD (hdR f tss), bD (hdB f tss)] := by
 have HH := zn5 f hw
 cases hh : qbc f
 ·have e1 : hdB f tss = false := by unfold hdB qat; rw [hh]; rfl
  unfold hdR
  rw [e1, if_neg (by simp)]
  rw [hh] at HH
  simp only [fmD, zab f, zbn, List.map_nil] at HH ⊢
  refine zcp Tryz.call60 Tryz.func60 rfl (by kernel_rfl) (zat (by kernel_rfl)) ?_
  simp -implicitDefEqProofs only [go_sem, Tryz.results60]
  refine callF (HH) (by simp -implicitDefEqProofs only [go_sem]) ?_
  simp -implicitDefEqProofs only [go_sem]
 ·rw [hh] at HH
  obtain ⟨hg, hnd, hpl, hfo⟩ := zgh hh
  have HP := zof f (zen hg) hw
  have hbw := Nat.le_trans (zzl f) (zir hg)
  have hfn : f.nodes <= 40 := by unfold Fm.good at hg; rw [Bool.and_eq_true, decide_eq_true_eq] at hg; exact hg.1
  have hvn : ∀ n ∈ (exN f).1, zav n = true := fun n hn => (zgb f).2 n hn (zen hg)
  have hgn := Nat.le_trans (zgb f).1 hfn
  have hlen := zez f
  have hHG : zi2 f tss = zcs 6 (tss.map (zv2 f)) (mkF 2 []) := rfl
  have hBv : hdB f tss = (qat f tss && (zi2 f tss).good) := rfl
  have hRv : hdR f tss = if hdB f tss = true then zi2 f tss else mkF 0 [] := rfl
  have hvO : qat f tss = tss.all (okT (exN f).1.length) := by unfold qat; rw [hh, Bool.true_and]
  rw [show tss.map (zv2 f) = tss.map fun ts => pF ((exN f).1.zip ts) (exN f).2 from rfl] at hHG
  generalize exN f = B at HP hnd hpl hfo hbw hvO hvn hgn hlen hHG
  obtain ⟨ns, g⟩ := B
  simp only at HP hnd hpl hfo hbw hvO hvn hgn hlen hHG
  have hTL : zu1 tss = tss.length + (tss.map zfp).sum := rfl
  simp only [fmD, zab f, zab g] at HH HP ⊢
  refine zcp Tryz.call60 Tryz.func60 rfl (by kernel_rfl) (zat (by kernel_rfl)) ?_
  simp -implicitDefEqProofs only [go_sem, Tryz.results60]
  refine callF (HH) (by simp -implicitDefEqProofs only [go_sem]) ?_
  simp -implicitDefEqProofs only [go_sem]
  refine zst [1, 2, 4, 5] [19] [] (HP) (by simp -implicitDefEqProofs only [go_sem]) (by simp -implicitDefEqProofs only [go_sem]) (by simp -implicitDefEqProofs only [go_sem]) (by simp -implicitDefEqProofs only [go_sem]) ?_
  simp -implicitDefEqProofs only [go_sem]
  refine zh5 (by simp -implicitDefEqProofs only [go_sem]) ?_
  simp -implicitDefEqProofs only [go_sem]
  refine zae (fun k : Nat => hd [(1, .one (.rn (zjz tss))), (4, .one (.bx 4 0)), (5, vB false), (6, .one (.ow 640 0)), (7, .one (.bx 7 0)), (8, .one (.ow 736 0)), (9, vI k)] [(4, [.t (.int .i64 0), .t (.str []), .nl 2, .t (.str []), .nl 5]), (7, [.t (.int .i64 g.op), .t (.str g.atom.name), .rn (tmS g.atom.args), .t (.str g.var), .rn (fmS g.parts)])] [(640, ⟨true, 1, ns.map fun s => [.str s], 0, true⟩), (736, ⟨false, 5, (tss.take k).map fun ts => fmC (pF (ns.zip ts) g), 0, true⟩)]) (fun k => k <= tss.length /\ (tss.take k).all (okT ns.length) = true /\ ∀ ts ∈ tss.take k, (pF (ns.zip ts) g).good = true) (fun k => tss.length - k) 0 (zac ?_) ⟨Nat.zero_le _, rfl, by simp⟩ ?_
  ·simp -implicitDefEqProofs only [go_sem]
  ·intro k ⟨hk, hT, hG⟩
   by_cases hlt : k < tss.length
   ·have hmw := zbe zfp tss tss[k] (List.getElem_mem hlt)
    have hbad : okT ns.length tss[k] = false -> hdB f tss = false := fun h => by
     rw [hBv, hvO, List.all_eq_false.2 ⟨_, List.getElem_mem hlt, by rw [h]; simp⟩]; rfl
    have hbad2 : (pF (ns.zip tss[k]) g).good = false -> hdB f tss = false := fun h => by
     rw [hBv, hHG]
     cases hgd : (zcs 6 (tss.map fun ts => pF (ns.zip ts) g) (mkF 2 [])).good
     ·rw [Bool.and_false]
     ·have := zmr 6 (Or.inr (Or.inl rfl)) (mkF 2 []) hgd _ (List.mem_map_of_mem (List.getElem_mem hlt))
      rw [this] at h; cases h
    have hnx : okT ns.length tss[k] = true -> (tss.take (k + 1)).all (okT ns.length) = true := fun h => by
     rw [List.take_succ_eq_append_getElem hlt, List.all_append, hT]; simp [h]
    have hnx2 : (pF (ns.zip tss[k]) g).good = true -> ∀ ts ∈ tss.take (k + 1), (pF (ns.zip ts) g).good = true := fun h ts hm => by
     rw [List.take_succ_eq_append_getElem hlt] at hm
     rcases List.mem_append.1 hm with hm | hm
     ·exact hG ts hm
     ·rw [List.mem_singleton.1 hm]; exact h
    have htk : tss.take (k + 1) = tss.take k ++ [tss[k]] := by rw [List.take_succ_eq_append_getElem hlt]
    have hget : ∃ ts, ts = tss[k] := ⟨_, rfl⟩
    obtain ⟨ts, hts⟩ := hget
    rw [<- hts] at hmw hbad hbad2 hnx hnx2 htk
    have hov : okT ns.length ts = (decide (ts.length = ns.length) && ts.all grT) := rfl
    by_cases hl : ts.length = ns.length
    ·have hl0 : ((ts.length : Int) != (ns.length : Int)) = false := by simp [hl]
     rw [decide_eq_true hl, Bool.true_and] at hov
     have HTm := zud ts (by omega) (by omega)
     cases han : ts.all grT
     ·rw [han] at hov HTm
      rw [hRv, hbad hov, if_neg (by simp)]
      simp only [zbn, List.map_nil]
      simp -implicitDefEqProofs only [go_sem, hlt, zag, <- hts, hl0]
      refine callF (HTm) (by simp -implicitDefEqProofs only [go_sem]) ?_
      simp -implicitDefEqProofs only [go_sem]
     ·rw [han] at hov HTm
      have hgr := zpq hvn han
      have hzl : (ns.zip ts).length = ns.length := by rw [List.length_zip]; omega
      simp -implicitDefEqProofs only [go_sem, hlt, zag, <- hts, hl0]
      refine callF (HTm) (by simp -implicitDefEqProofs only [go_sem]) ?_
      simp -implicitDefEqProofs only [go_sem]
      refine zae (fun x : Nat × Fm × Bool => hd [(1, .one (.rn (zjz tss))), (4, .one (.bx 4 0)), (5, vB false), (6, .one (.ow 640 0)), (7, .one (.bx 7 0)), (8, .one (.ow 736 0)), (9, vI k), (10, .one (.bx 10 0)), (11, vB x.2.2), (12, vI x.1)] [(4, [.t (.int .i64 0), .t (.str []), .nl 2, .t (.str []), .nl 5]), (7, [.t (.int .i64 g.op), .t (.str g.atom.name), .rn (tmS g.atom.args), .t (.str g.var), .rn (fmS g.parts)]), (10, [.t (.int .i64 x.2.1.op), .t (.str x.2.1.atom.name), .rn (tmS x.2.1.atom.args), .t (.str x.2.1.var), .rn (fmS x.2.1.parts)])] [(640, ⟨true, 1, ns.map fun s => [.str s], 0, true⟩), (736, ⟨false, 5, (tss.take k).map fun ts => fmC (pF (ns.zip ts) g), 0, true⟩)])
       (fun x => x.1 <= ns.length /\ ((x.2.2 = true /\ x.2.1.forms = true /\ za1 x.2.1 = true /\ x.2.1.nodes <= 40 /\ zri g (ns.zip ts) = zri x.2.1 ((ns.zip ts).drop x.1)) \/ (x.2.2 = false /\ zri g (ns.zip ts) = (x.2.1, false)))) (fun x => (ns.length - x.1)) (0, g, true) (zac ?_) ⟨Nat.zero_le _, Or.inl ⟨rfl, hfo, hpl, hgn, rfl⟩⟩ ?_
      ·simp -implicitDefEqProofs only [go_sem]
      ·rintro ⟨j, g1, ok⟩ ⟨hj, hx⟩
       simp only at hj hx
       rcases hx with ⟨rfl, hf1, hp1, hn1, hseq⟩ | ⟨rfl, hseq⟩
       ·by_cases hlj : j < ns.length
        ·have hlj2 : j < ts.length := by omega
         have hzj : j < (ns.zip ts).length := by omega
         rw [List.drop_eq_getElem_cons hzj, List.getElem_zip, qbo] at hseq
         have hgt := hgr.g (ns[j], ts[j]) (by rw [<- List.getElem_zip (h := hzj)]; exact List.getElem_mem hzj)
         have hvt := hgr.v (ns[j], ts[j]) (by rw [<- List.getElem_zip (h := hzj)]; exact List.getElem_mem hzj)
         have htw : ts[j].wt <= 240 := zkr hgt.1
         have hw1 := zni hf1 hn1
         have hmul : (1 + g1.wt) * ts[j].wt <= 20801 * 240 := Nat.mul_le_mul (by omega) htw
         have HPt := qhx ns[j] ts[j] (by omega) g1 hf1 (by omega) (by omega)
         have hok1 : (zco ns[j] ts[j] g1).2 = true -> (zco ns[j] ts[j] g1).1.forms = true /\ za1 (zco ns[j] ts[j] g1).1 = true /\ (zco ns[j] ts[j] g1).1.nodes <= 40 := fun ho => by
          have hi := zpe ns[j] ts[j] g1 hp1 ho
          rw [zkl ns[j] ts[j] g1 hp1, <- zhj _ g1 hf1] at ho
          rw [hi]
          exact ⟨ho, zhd _ g1 hp1, by rw [qed _ g1 hf1]; exact hn1⟩
         generalize zco ns[j] ts[j] g1 = R at HPt hseq hok1
         obtain ⟨g2, ok2⟩ := R
         simp only at HPt hseq hok1
         simp only [fmD, zab g1, zab g2, tmD, zaa ts[j]] at HPt
         simp -implicitDefEqProofs only [go_sem, hlj]
         refine drawn (by kernel_rfl) ?_
         simp -implicitDefEqProofs only [go_sem, hlj, hlj2, hlt, zag, <- hts, zaa ts[j]]
         refine zaz (HPt) (by simp -implicitDefEqProofs only [go_sem]) ?_
         simp -implicitDefEqProofs only [go_sem]
         refine ⟨by kernel_rfl, (j + 1, g2, ok2), ⟨hlj, ?_⟩, by simp only; omega, zac ?_⟩
         ·cases ok2
          ·rw [if_neg (by simp)] at hseq
           exact Or.inr ⟨rfl, hseq⟩
          ·rw [if_pos rfl] at hseq
           obtain ⟨q1, q2, q3⟩ := hok1 rfl
           exact Or.inl ⟨rfl, q1, q2, q3, hseq⟩
         ·simp -implicitDefEqProofs only [go_sem]
          rw [zao (by omega)]
        ·rw [List.drop_of_length_le (by omega)] at hseq
         have hseq : zri g (ns.zip ts) = (g1, true) := hseq
         have hgood := zsb hgr hfo hpl
         rw [hseq, Bool.true_and] at hgood
         have hg1 := (zq0 hgr hfo hpl (by rw [hseq])).1
         rw [hseq] at hg1
         have hg1 : g1 = pF (ns.zip ts) g := hg1
         have HGd := zhh g1 (by have := zni hf1 hn1; omega)
         have ha : k <= 4294967295 := by omega
         have ha2 : min k tss.length <= 4294967295 := by omega
         cases hgd : g1.good
         ·rw [hgd] at HGd hgood
          rw [hRv, hbad2 hgood.symm, if_neg (by simp)]
          simp only [fmD, zab g1] at HGd
          simp only [zbn, List.map_nil]
          simp -implicitDefEqProofs only [go_sem, hlj]
          refine callF (HGd) (by simp -implicitDefEqProofs only [go_sem]) ?_
          simp -implicitDefEqProofs only [go_sem]
         ·rw [hgd] at HGd hgood
          simp only [fmD, zab g1] at HGd
          simp -implicitDefEqProofs only [go_sem, hlj]
          refine callF (HGd) (by simp -implicitDefEqProofs only [go_sem]) ?_
          simp -implicitDefEqProofs only [go_sem]
          refine zh5 (by simp -implicitDefEqProofs only [go_sem]) ?_
          simp -implicitDefEqProofs only [go_sem]
          refine apD false (by simp -implicitDefEqProofs only [go_sem, ne_eq, List.length_map, List.length_take, ha, ha2]) ?_
          simp -implicitDefEqProofs only [go_sem, ne_eq, List.length_map, List.length_take, ha, ha2]
          refine ⟨k + 1, ⟨hlt, hnx hov, hnx2 hgood.symm⟩, by omega, zac ?_⟩
          simp -implicitDefEqProofs only [go_sem]
          rw [zao (by omega), htk, List.map_append, List.map_singleton, <- hg1, zab g1]
          exact ⟨rfl, rfl⟩
       ·have hgood := zsb hgr hfo hpl
        rw [hseq, Bool.false_and] at hgood
        rw [hRv, hbad2 hgood.symm, if_neg (by simp)]
        simp only [zbn, List.map_nil]
        by_cases hlj : j < ns.length
        ·simp -implicitDefEqProofs only [go_sem, hlj]
        ·simp -implicitDefEqProofs only [go_sem, hlj]
    ·have hl0 : ((ts.length : Int) != (ns.length : Int)) = true := by rw [bne_iff_ne]; omega
     rw [decide_eq_false hl, Bool.false_and] at hov
     rw [hRv, hbad hov, if_neg (by simp)]
     simp only [zbn, List.map_nil]
     simp -implicitDefEqProofs only [go_sem, hlt, zag, <- hts, hl0]
   ·rw [List.take_of_length_le (by omega)] at hT hG
    rw [hvO, hT, Bool.true_and] at hBv
    have hkt : tss.take k = tss := List.take_of_length_le (by omega)
    have hwa : ∀ (i : Nat) (h : i < (tss.map fun ts => pF (ns.zip ts) g).length), (tss.map fun ts => pF (ns.zip ts) g)[i].wt <= 1048576 := fun i h => by
     rw [List.getElem_map]
     have := zir (hG _ (List.getElem_mem (by simpa using h)))
     omega
    have HJ := zl5 (tss.map fun ts => pF (ns.zip ts) g) 6 2 (by rw [List.length_map]; omega) hwa
    have hsum : ∀ l : List Fm, (∀ x ∈ l, x.wt <= 308800) -> (l.map Fm.wt).sum <= 308800 * l.length := fun l => by
     induction l with
     | nil => intro _; simp
     | cons x l ih =>
      intro h
      have := ih fun y hy => h y (by simp [hy])
      have := h x (by simp)
      rw [List.map_cons, List.sum_cons, List.length_cons]; omega
    have hs := hsum (tss.map fun ts => pF (ns.zip ts) g) fun x hx => by
     obtain ⟨ts, hm, rfl⟩ := List.mem_map.1 hx
     have := zir (hG ts hm)
     omega
    have hj := zou 6 (mkF 2 []) (tss.map fun ts => pF (ns.zip ts) g)
    rw [List.length_map] at hs hj
    have h2 : (mkF 2 []).wt = 0 := rfl
    rw [<- hHG] at HJ hj
    have HI := zhh (zi2 f tss) (by omega)
    rw [hRv, hBv]
    generalize zi2 f tss = G at HJ HI
    cases hgd : G.good
    ·rw [hgd] at HI
     rw [if_neg (by simp)]
     simp only [fmD, zbn, List.map_nil, zab G, fmS, List.map_map, Function.comp_def] at HJ HI ⊢
     simp -implicitDefEqProofs only [go_sem, hlt, hkt]
     refine callF (HJ) (by simp -implicitDefEqProofs only [go_sem]) ?_
     simp -implicitDefEqProofs only [go_sem]
     refine callF (HI) (by simp -implicitDefEqProofs only [go_sem]) ?_
     simp -implicitDefEqProofs only [go_sem]
    ·rw [hgd] at HI
     rw [if_pos rfl]
     simp only [fmD, zbn, List.map_nil, zab G, fmS, List.map_map, Function.comp_def] at HJ HI ⊢
     simp -implicitDefEqProofs only [go_sem, hlt, hkt]
     refine callF (HJ) (by simp -implicitDefEqProofs only [go_sem]) ?_
     simp -implicitDefEqProofs only [go_sem]
     refine callF (HI) (by simp -implicitDefEqProofs only [go_sem]) ?_
     simp -implicitDefEqProofs only [go_sem]
end Go.Proofs.YtemnhgmgeijkcaaGreat
namespace Go.Proofs.YtemnhgmgeijkcaaGreat
set_option linter.unusedSimpArgs false
set_option linter.unusedVariables false
set_option linter.unusedSectionVars false
set_option maxRecDepth 4000
open Go.RowKit
set_option maxHeartbeats 400000 in
theorem ztn (xs ys : List (List Tm)) : FC Tryz.prog 19 [.one (zjz xs), .one (zjz ys)] [bD (same xs ys)] := by
 refine zc0 (fun hw => ?_) Tryz.call19
 have hl : xs.length <= 9223372036854775807 := by simpa [zfj, wfT] using hw.1.1
 have hl2 : ys.length <= 9223372036854775807 := by simpa [zfj, wfT] using hw.2.1.1
 refine zah Tryz.call19 Tryz.func19 rfl (by kernel_rfl) (zat (by kernel_rfl)) ?_
 simp -implicitDefEqProofs only [go_sem, Tryz.results19]
 refine ⟨fun h => ?_, fun h => ?_⟩
 ·rw [zcr.2 (by rintro rfl; simp at h)]
 ·have hlen : xs.length = ys.length := by simp at h; omega
  refine zae (fun k : Nat => hd [(0, vT (zjz xs)), (1, vT (zjz ys)), (4, vB false), (5, vI k)] [] []) (fun k => k <= xs.length /\ same xs ys = same (xs.drop k) (ys.drop k)) (fun k => xs.length - k) 0 (zac ?_) ?_ ?_
  ·simp -implicitDefEqProofs only [go_sem]
  ·simp
  ·intro k ⟨hk, hr⟩
   by_cases hlt : k < xs.length
   ·have hk2 : k < ys.length := by omega
    simp -implicitDefEqProofs only [go_sem, List.length_map, hlt]
    refine drawn (by kernel_rfl) ?_
    simp -implicitDefEqProofs only [go_sem, List.length_map, zag, hlt, hk2]
    refine zaz (zwm xs[k] ys[k]) (by simp -implicitDefEqProofs only [go_sem]) ?_
    simp -implicitDefEqProofs only [go_sem]
    refine ⟨by kernel_rfl, fun h => ?_, fun h => ?_⟩
    ·rw [hr, List.drop_eq_getElem_cons hlt, List.drop_eq_getElem_cons hk2, zcz, show same xs[k] ys[k] = false by simpa using h]; rfl
    ·rw [List.drop_eq_getElem_cons hlt, List.drop_eq_getElem_cons hk2, zcz, show same xs[k] ys[k] = true by simpa using h, Bool.true_and] at hr
     rw [zao (by omega)]
     exact ⟨k + 1, ⟨by omega, hr⟩, by omega, zac (by simp -implicitDefEqProofs only [go_sem])⟩
   ·simp -implicitDefEqProofs only [go_sem, List.length_map, hlt]
    rw [hr, List.drop_of_length_le (by omega), List.drop_of_length_le (by omega), zfq]
end Go.Proofs.YtemnhgmgeijkcaaGreat
namespace Go.Proofs.YtemnhgmgeijkcaaGreat
set_option linter.unusedSimpArgs false
set_option linter.unusedVariables false
set_option linter.unusedSectionVars false
set_option maxRecDepth 4000
open Go.RowKit
theorem zt7 (xs : List (List Tm)) (l : Int) (h0 : 0 <= l) (h1 : l <= 1048576) : FC Tryz.prog 13 [.one (zjz xs), iD l] [iD (szR (zu1 xs) l)] := by
 refine zc0 (fun hw => ?_) Tryz.call13
 have hl : xs.length <= 9223372036854775807 := by simpa [zfj, wfT] using hw.1.1
 refine zah Tryz.call13 Tryz.func13 rfl (by kernel_rfl) (zat (by kernel_rfl)) ?_
 simp -implicitDefEqProofs only [go_sem, Tryz.results13]
 rw [zbk (by omega) (by omega)]
 have hW : zu1 xs = xs.length + (xs.map zfp).sum := rfl
 refine ⟨fun h => ?_, fun h => ?_⟩
 ·rw [zdh (by simp at h; omega)]
 ·have hlen : (xs.length : Int) <= l := by simp at h; omega
  refine zae (fun k : Nat => hd [(0, vT (zjz xs)), (1, vI (l - xs.length - zl2 zfp xs k)), (5, vI k)] [] []) (fun k => k <= xs.length /\ 0 <= l - xs.length - zl2 zfp xs k) (fun k => xs.length - k) 0 (zac ?_) ?_ ?_
  ·simp -implicitDefEqProofs only [go_sem]
   simp [zdv]
  ·simpa [zdv] using hlen
  ·intro k ⟨hk, hp⟩
   by_cases hlt : k < xs.length
   ·have hs := zin zfp xs k hlt
    have hs2 := zor zfp xs (k + 1)
    simp -implicitDefEqProofs only [go_sem, List.length_map, zag, hlt]
    refine callF (qal xs[k] (l - xs.length - zl2 zfp xs k) hp (by omega)) (by simp -implicitDefEqProofs only [go_sem]) ?_
    simp -implicitDefEqProofs only [go_sem]
    refine ⟨fun h => ?_, fun h => ?_⟩
    ·have := zgj hp (by simpa using h)
     rw [zdh (by omega)]
    ·obtain ⟨h2, h3⟩ := zem (by simpa using h)
     rw [zao (by omega)]
     exact ⟨k + 1, ⟨hlt, by omega⟩, by omega, zac (by simp -implicitDefEqProofs only [go_sem]; rw [h3]; congr 1; omega)⟩
   ·simp -implicitDefEqProofs only [go_sem, List.length_map, hlt]
    have hall := zk0 zfp xs k (by omega)
    rw [hall, zm3 (by omega)]; congr 1; omega
set_option maxHeartbeats 400000 in
theorem zue (xs : List (List Tm)) (hs : zu1 xs <= 1048576) : FC Tryz.prog 16 [.one (zjz xs)] [.one (zjz xs)] := by
 have hW : zu1 xs = xs.length + (xs.map zfp).sum := rfl
 refine zah Tryz.call16 Tryz.func16 rfl (by kernel_rfl) (zat (by kernel_rfl)) ?_
 simp -implicitDefEqProofs only [go_sem, Tryz.results16]
 refine qb1 (by simp -implicitDefEqProofs only [go_sem]; omega) ?_
 simp -implicitDefEqProofs only [go_sem]
 refine zae (fun k : Nat => hd [(0, vT (zjz xs)), (3, .one (.ow 224 0)), (4, vI k)] [] [(224, ⟨true, 1, (xs.take k).map (fun s => [tmS s]) ++ List.replicate (xs.length - k) [T.sl 2 []], 0, true⟩)]) (fun k => k <= xs.length) (fun k => xs.length - k) 0 (zac ?_) (Nat.zero_le _) ?_
 ·simp -implicitDefEqProofs only [go_sem]
  simp
 ·intro k hk
  by_cases hlt : k < xs.length
  ·have hlen : ((xs.take k).map (fun s => [tmS s]) ++ List.replicate (xs.length - k) [T.sl 2 []]).length = xs.length := by simp; omega
   have hlt2 : k < k + (xs.length - k) := by omega
   have hmw := zbe zfp xs xs[k] (List.getElem_mem hlt)
   simp -implicitDefEqProofs only [go_sem, List.length_map, zag, hlt]
   refine callF (zyl xs[k] (by omega)) (by simp -implicitDefEqProofs only [go_sem, hlen, hlt, List.length_append, List.length_map, List.length_take, List.length_replicate, Nat.min_eq_left hk, hlt2]) ?_
   simp -implicitDefEqProofs only [go_sem, hlen, hlt, List.length_append, List.length_map, List.length_take, List.length_replicate, Nat.min_eq_left hk, hlt2]
   refine zqr (by simp -implicitDefEqProofs only [go_sem]; simp) ?_
   simp -implicitDefEqProofs only [go_sem]
   rw [zao (by omega)]
   refine ⟨k + 1, by omega, by omega, zac ?_⟩
   simp -implicitDefEqProofs only [go_sem]
   have hf := zf8 ((xs.take k).map fun s => [tmS s]) xs.length k [T.sl 2 []] [tmS xs[k]] (by simp; omega) hlt (by simp)
   rw [hf, List.take_succ_eq_append_getElem hlt, List.map_append, List.map_singleton]
  ·simp -implicitDefEqProofs only [go_sem, List.length_map, hlt]
   simp [List.take_of_length_le (show xs.length <= k by omega), show xs.length - k = 0 by omega]
end Go.Proofs.YtemnhgmgeijkcaaGreat
