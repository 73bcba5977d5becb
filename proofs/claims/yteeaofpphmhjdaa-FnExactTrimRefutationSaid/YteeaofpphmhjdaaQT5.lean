/-
  The walk over plain data, and contracts of functions of the program and of its laws.
  Conditions: those that each theorem names.
-/
import Derived.Test.YteeaofpphmhjdaaQT4
import Derived.MapKept
import Derived.OrdersIn
import Derived.Lib.Walk
import Derived.Lib.SliceRun
import Derived.Lib.AppendZeros
import Derived.Shelf.SlSortCmp.Whole1
import Derived.Deep.LoopGhost
import Derived.Sort.OwnSortedInts
import Derived.RegionTactic
import Derived.BigRegion
namespace Go.Proofs.Yteeaofpphmhjdaa
set_option linter.unusedSimpArgs false
set_option linter.unusedVariables false
set_option linter.unusedSectionVars false
set_option maxRecDepth 4000
open Go.RowKit
variable {P : Program} {N : Nat}
def zfe (P : Program) (N : Nat) (c : Code) (σ : St) (Q : Exit -> St -> Prop) : Prop := ∀ n0 w0 A0 g a w, Rel n0 N σ g a w -> LtK n0 w -> Bk n0 w0 w -> (g.A0, g.R0) = A0 -> c.wp P (zv8 n0 N w0 A0 Q) a w
theorem zv8.mono {n0 : Nat -> Prop} {w0 : World} {A0 : (Nat -> Prop) × RP} {Q Q' : Exit -> St -> Prop} (h : ∀ e σ, Q e σ -> Q' e σ) {e : Exit} {a : Act} {w : World} : zv8 n0 N w0 A0 Q e a w -> zv8 n0 N w0 A0 Q' e a w
 | ⟨σ, g, h1, h2⟩ => ⟨σ, g, h _ _ h1, h2⟩
theorem zfe.mono {c : Code} {σ : St} {Q Q' : Exit -> St -> Prop} (h : ∀ e σ, Q e σ -> Q' e σ) (k : zfe P N c σ Q) : zfe P N c σ Q' := fun n0 w0 A0 g a w h1 h2 h3 h4 => wp_mono (k n0 w0 A0 g a w h1 h2 h3 h4) fun _ _ _ => zv8.mono h
theorem zfe.ofEx {c : Code} {σ : St} {Q : Exit -> St -> Prop} (hd : za3 N c = true) (h : ex P c [] Q σ) : zfe P N c σ Q := fun _ _ _ g a w h1 h2 h3 h4 => za2 c σ Q hd h g a w h1 h2 h3 h4
def zul (P : Program) (N : Nat) (c : Code) (Q : Exit -> St -> Prop) (e : Exit) (σ : St) : Prop := match e with | .normal => zfe P N c σ Q | e => Q e σ
theorem zju (c : Code) (Q : Exit -> St -> Prop) (σ : St) : zul P N c Q .normal σ = zfe P N c σ Q := rfl
theorem zro (c : Code) (Q : Exit -> St -> Prop) (σ : St) : zul P N c Q .ret σ = Q .ret σ := rfl
theorem zfe.seq {x y : Code} {σ : St} {Q : Exit -> St -> Prop} (h : zfe P N x σ (zul P N y Q)) : zfe P N (.seq x y) σ Q := fun n0 w0 A0 g a w h1 h2 h3 h4 => by
 refine wp_seq (wp_mono (h n0 w0 A0 g a w h1 h2 h3 h4) fun e a' w' hq => ?_)
 obtain ⟨σ', g', k1, k2, k3, k4, k5⟩ := hq
 cases e with
 | normal => exact k1 n0 w0 A0 g' a' w' k2 k3 k4 k5
 | exit i => exact ⟨σ', g', k1, k2, k3, k4, k5⟩
 | goto l => exact ⟨σ', g', k1, k2, k3, k4, k5⟩
 | ret => exact ⟨σ', g', k1, k2, k3, k4, k5⟩
 | panic ch => exact ⟨σ', g', k1, k2, k3, k4, k5⟩
 | outgrown => exact ⟨σ', g', k1, k2, k3, k4, k5⟩
def ztk : Nat -> Code -> Code
 | 0, .seq x _ => x
 | n + 1, .seq x y => .seq x (ztk n y)
 | _, c => c
def sufC : Nat -> Code -> Code
 | 0, .seq _ y => y
 | n + 1, .seq _ y => sufC n y
 | _, _ => .skip
def okC : Nat -> Code -> Bool
 | 0, .seq _ _ => true
 | n + 1, .seq _ y => okC n y
 | _, _ => false
theorem zfe.cut : ∀ (n : Nat) {c : Code} {σ : St} {Q : Exit -> St -> Prop}, okC n c = true -> za3 N (ztk n c) = true -> ex P (ztk n c) [] (zul P N (sufC n c) Q) σ -> zfe P N c σ Q
 | 0, .seq x y, σ, Q, _, hd, h => zfe.seq (zfe.ofEx hd h)
 | n + 1, .seq x y, σ, Q, ho, hd, h => by
  simp only [ztk, za3, Bool.and_eq_true] at hd
  refine zfe.seq (zfe.mono (fun e σ' k => ?_) (zfe.ofEx (Q := _) hd.1 h))
  cases e with
  | normal => exact zfe.cut n ho hd.2 k
  | exit i => exact k
  | goto l => exact k
  | ret => exact k
  | panic ch => exact k
  | outgrown => exact k
def blkQ (i : Nat) (Q : Exit -> St -> Prop) (e : Exit) (σ : St) : Prop := match e with | .exit j => if j = i then Q .normal σ else Q (.exit j) σ | e => Q e σ
theorem zkn (i : Nat) (Q : Exit -> St -> Prop) (σ : St) : blkQ i Q .normal σ = Q .normal σ := rfl
theorem zy0 {f : FuncId} {fn : Func} {c : Code} {args : List (Bool × D)} {res : List D} (hc : za0 P f) (hf : P.funcs[f]? = some fn) (hb : fn.body = some c) (hN : args.length <= fn.ntmps) (hs : zc7 args)
  (h : ∀ (w : World) (vs : List Value) (fp tp : List Nat), zbg w (fun b => b < w.heap.size /\ b ∉ fp) args vs fp tp -> ∀ (g : Gh) (a : Act), Rel (fun b => b < w.heap.size /\ b ∉ fp) fn.ntmps (zdm args) g a w -> (a.tmps = (⟨vs⟩ : Array Value) ++ Array.replicate (fn.ntmps - vs.length) undef /\ (g.A0, g.R0) = ((fun _ => True), RP.of fun b => b ∈ fp \/ w.heap.size <= b)) →
   ∃ σ0, zfe P fn.ntmps c σ0 (PS P fn.results.toList res) /\ Rel (fun b => b < w.heap.size /\ b ∉ fp) fn.ntmps σ0 g a w) : GC P f args res := by
 refine ⟨hc, fun w vs fp tp hv hn => ?_⟩
 refine calls_of_wp hf hb ?_
 have hv' : zbg w (fun b => b < w.heap.size /\ True /\ b ∉ fp) args vs fp tp := zbg.keepA (fun b hb => ⟨hb.1, trivial, hb.2⟩) hv
 obtain ⟨g, hg, hR⟩ := Rel.start (A0 := fun _ => True) (R0 := RP.of fun b => b ∈ fp \/ w.heap.size <= b) (N := fn.ntmps) hv' hn hs hN (fun _ _ => trivial) (fun b hb => ⟨trivial, Or.inl hb⟩) (fun b hb => ⟨trivial, by
  by_cases hlt : b < w.heap.size
  ·exact Or.inl (Classical.byContradiction fun h => hb ⟨hlt, h⟩)
  ·exact Or.inr (by omega)⟩)
 obtain ⟨σ0, hex, hR0⟩ := h w vs fp tp hv g _ hR ⟨rfl, hg⟩
 refine wp_mono (hex _ w _ g _ w hR0 (fun k hk => hk.1) (Bk.refl _ _) hg) fun e a' w' hq => ?_
 obtain ⟨σ', g', h1, h2, h3, h4, h5⟩ := hq
 have fin : ∀ {us : List Value} {v : Value}, (results fn a'.tmps).run P w' = .ok v w' -> v = zbl us -> (∃ fp' tp', GDs w' res us fp' tp' /\ fp'.Nodup /\ ∀ b ∈ fp', ∃ e, σ'.On e /\ b ∈ g'.φ e) -> ∃ v, (results fn a'.tmps).run P w' = .ok v w' /\ ∃ us fp' tp', Ending.returned v = .returned (zbl us) /\ GDs w' res us fp' tp' /\ fp'.Nodup /\ (∀ b ∈ fp', b ∈ fp \/ w.heap.size <= b) /\ Bk (fun k => k < w.heap.size /\ k ∉ fp) w w' := fun {us v} r1 rv ⟨fp', tp', o1, o2, o3⟩ => by
  refine ⟨_, r1, us, fp', tp', by rw [rv], o1, o2, fun b hb => ?_, h4⟩
  obtain ⟨e, l, m⟩ := o3 b hb
  have := (h2.ebase e l b m).2
  rw [(Prod.mk.inj h5).2] at this
  exact this
 have key : (zal (zbe P σ' fn.results.toList) (fun vs => zlx σ' [] vs res) \/ PX P fn.results.toList res σ') -> ∃ v, (results fn a'.tmps).run P w' = .ok v w' /\ ∃ us fp' tp', Ending.returned v = .returned (zbl us) /\ GDs w' res us fp' tp' /\ fp'.Nodup /\ (∀ b ∈ fp', b ∈ fp \/ w.heap.size <= b) /\ Bk (fun k => k < w.heap.size /\ k ∉ fp) w w' := fun hk => by
  rcases hk with hk | ⟨pl, hk⟩
  ·obtain ⟨vs, hvs, hk⟩ := zam hk
   obtain ⟨us, r1, r2⟩ := zbc h2 fn hvs
   obtain ⟨used, fp', tp', o1, o2⟩ := zbz h2 hk r2
   exact fin r1 rfl ⟨fp', tp', o1, o2.1, fun b hb => by obtain ⟨e, _, _, l, m⟩ := o2.2.1 b hb; exact ⟨e, l, m⟩⟩
  ·obtain ⟨vs, hvs, hk⟩ := zam hk
   obtain ⟨us, r1, r2⟩ := zbc h2 fn hvs
   exact fin r1 rfl (zpz h2 hk r2)
 cases e with
 | normal => exact ⟨h2.defers, key h1⟩
 | ret => exact ⟨h2.defers, key h1⟩
 | exit _ => exact h1.elim
 | goto _ => exact h1.elim
 | panic _ => exact h1.elim
 | outgrown => exact h1.elim
theorem zpy {f : FuncId} {fn : Func} {c : Code} {args res : List D} (hc : za0 P f) (hf : P.funcs[f]? = some fn) (hb : fn.body = some c) (hN : (rd args).length <= fn.ntmps)
  (h : zfe P fn.ntmps c (zed args) (PS P fn.results.toList res)) : FC P f args res := by
 refine zy0 hc hf hb hN (zb1 args) fun w vs fp tp hv g a hR hg => ?_
 obtain ⟨hr, rfl, rfl⟩ := zbq hv
 exact ⟨zed args, h, zfz hr hR hg⟩
structure RelM (n0 : Nat -> Prop) (N : Nat) (σ : St) (ag : Bool) (rows : List (List T)) (b : Nat) (A0 : (Nat -> Prop) × RP) (g : Gh) (a : Act) (w : World) : Prop where
 rel : ∃ (n1 : Nat -> Prop) (es : Array MapEntry) (clk : Nat), (∀ x, n0 x -> n1 x) /\ n1 b /\ ¬ g.A0 b /\ Rel n1 N σ g a w /\ LtK n1 w /\ w.heap[b]? = some (.map es clk) /\ zan w (fun x => n1 x /\ g.A0 x) ag rows es.toList
 nb : ¬ n0 b
 sub : ∀ x, g.A0 x -> A0.1 x
 r0 : g.R0 = A0.2
 new : ∀ x, ¬ n0 x -> A0.1 x /\ A0.2 x
def zjq (n0 : Nat -> Prop) (N : Nat) (w0 : World) (A0 : (Nat -> Prop) × RP) (ag : Bool) (b : Nat) (Q : Exit -> St -> List (List T) -> Prop) (e : Exit) (a : Act) (w : World) : Prop := ∃ σ rows g, Q e σ rows /\ RelM n0 N σ ag rows b A0 g a w /\ LtK n0 w /\ Bk n0 w0 w
def zbt (P : Program) (N : Nat) (ag : Bool) (b : Nat) (c : Code) (σ : St) (rows : List (List T)) (Q : Exit -> St -> List (List T) -> Prop) : Prop := ∀ n0 w0 A0 g a w, RelM n0 N σ ag rows b A0 g a w -> LtK n0 w -> Bk n0 w0 w -> c.wp P (zjq n0 N w0 A0 ag b Q) a w
section
variable {ag : Bool} {b : Nat}
theorem zjq.mono {n0 : Nat -> Prop} {w0 : World} {A0 : (Nat -> Prop) × RP} {Q Q' : Exit -> St -> List (List T) -> Prop} (h : ∀ e σ r, Q e σ r -> Q' e σ r) {e : Exit} {a : Act} {w : World} : zjq n0 N w0 A0 ag b Q e a w -> zjq n0 N w0 A0 ag b Q' e a w
 | ⟨σ, r, g, h1, h2⟩ => ⟨σ, r, g, h _ _ _ h1, h2⟩
theorem zbt.mono {c : Code} {σ : St} {rows : List (List T)} {Q Q' : Exit -> St -> List (List T) -> Prop} (h : ∀ e σ r, Q e σ r -> Q' e σ r) (k : zbt P N ag b c σ rows Q) : zbt P N ag b c σ rows Q' := fun n0 w0 A0 g a w h1 h2 h3 => wp_mono (k n0 w0 A0 g a w h1 h2 h3) fun _ _ _ => zjq.mono h
theorem RelM.keep {n0 n1 : Nat -> Prop} {σ σ' : St} {rows : List (List T)} {A0 : (Nat -> Prop) × RP} {g g' : Gh} {a a' : Act} {w w' : World} {es : Array MapEntry} {clk : Nat} (h : RelM n0 N σ ag rows b A0 g a w) (hn : ∀ x, n0 x -> n1 x) (hb : n1 b) (hA : ¬ g.A0 b) (he : w.heap[b]? = some (.map es clk)) (hr : zan w (fun x => n1 x /\ g.A0 x) ag rows es.toList)
  (h2 : Rel n1 N σ' g' a' w') (h3 : LtK n1 w') (h4 : Bk n1 w w') (h5 : (g'.A0, g'.R0) = (g.A0, g.R0)) : RelM n0 N σ' ag rows b A0 g' a' w' := by
 have e1 : g'.A0 = g.A0 := (Prod.mk.inj h5).1
 have e2 : g'.R0 = g.R0 := (Prod.mk.inj h5).2
 exact ⟨⟨n1, es, clk, hn, hb, by rw [e1]; exact hA, h2, h3, (h4.block b hb).trans he, zan.keep (fun x hx => h4.block x hx.1) (fun x hx => ⟨hx.1, by rw [e1]; exact hx.2⟩) ag rows _ hr⟩, h.nb, by rw [e1]; exact h.sub, by rw [e2]; exact h.r0, h.new⟩
theorem zrl {n0 n1 : Nat -> Prop} {w w' : World} (hn : ∀ x, n0 x -> n1 x) (h : Bk n1 w w') : Bk n0 w w' := ⟨h.os, h.tape, h.output, h.size, fun k hk => h.block k (hn k hk)⟩
theorem zbt.ofEx {c : Code} {σ : St} {rows : List (List T)} {Q : Exit -> St -> List (List T) -> Prop} (hd : za3 N c = true) (h : ex P c [] (fun e σ' => Q e σ' rows) σ) : zbt P N ag b c σ rows Q := fun n0 w0 A0 g a w hM h2 h3 => by
 obtain ⟨n1, es, clk, k1, k2, k3, k4, k5, k6, k7⟩ := hM.rel
 refine wp_mono (za2 (w0 := w) (A0 := (g.A0, g.R0)) c σ _ hd h g a w k4 k5 (Bk.refl _ _) rfl) fun e a' w' hq => ?_
 obtain ⟨σ', g', h1, m2, m3, m4, m5⟩ := hq
 exact ⟨σ', rows, g', h1, hM.keep k1 k2 k3 k6 k7 m2 m3 m4 m5, h2.mono m4.size, h3.trans (zrl k1 m4)⟩
def zp4 (P : Program) (N : Nat) (ag : Bool) (b : Nat) (c : Code) (Q : Exit -> St -> List (List T) -> Prop) (e : Exit) (σ : St) (rows : List (List T)) : Prop := match e with | .normal => zbt P N ag b c σ rows Q | e => Q e σ rows
theorem ziz (c : Code) (Q : Exit -> St -> List (List T) -> Prop) (σ : St) (rows : List (List T)) : zp4 P N ag b c Q .normal σ rows = zbt P N ag b c σ rows Q := rfl
theorem znd (c : Code) (Q : Exit -> St -> List (List T) -> Prop) (σ : St) (rows : List (List T)) (i : Nat) : zp4 P N ag b c Q (.exit i) σ rows = Q (.exit i) σ rows := rfl
theorem zbt.seq {x y : Code} {σ : St} {rows : List (List T)} {Q : Exit -> St -> List (List T) -> Prop} (h : zbt P N ag b x σ rows (zp4 P N ag b y Q)) : zbt P N ag b (.seq x y) σ rows Q := fun n0 w0 A0 g a w h1 h2 h3 => by
 refine wp_seq (wp_mono (h n0 w0 A0 g a w h1 h2 h3) fun e a' w' hq => ?_)
 obtain ⟨σ', r', g', k1, k2, k3, k4⟩ := hq
 cases e with
 | normal => exact k1 n0 w0 A0 g' a' w' k2 k3 k4
 | exit i => exact ⟨σ', r', g', k1, k2, k3, k4⟩
 | goto l => exact ⟨σ', r', g', k1, k2, k3, k4⟩
 | ret => exact ⟨σ', r', g', k1, k2, k3, k4⟩
 | panic ch => exact ⟨σ', r', g', k1, k2, k3, k4⟩
 | outgrown => exact ⟨σ', r', g', k1, k2, k3, k4⟩
theorem zbt.cut : ∀ (n : Nat) {c : Code} {σ : St} {rows : List (List T)} {Q : Exit -> St -> List (List T) -> Prop}, okC n c = true -> za3 N (ztk n c) = true -> ex P (ztk n c) [] (fun e σ' => zp4 P N ag b (sufC n c) Q e σ' rows) σ -> zbt P N ag b c σ rows Q
 | 0, .seq x y, σ, rows, Q, _, hd, h => zbt.seq (zbt.ofEx hd h)
 | n + 1, .seq x y, σ, rows, Q, ho, hd, h => by
  simp only [ztk, za3, Bool.and_eq_true] at hd
  refine zbt.seq (zbt.mono (Q := fun e σ' r => r = rows /\ zqo P [.seq (ztk n y)] (fun e σ' => zp4 P N ag b (sufC n y) Q e σ' rows) e σ') (fun e σ' r k => ?_) (zbt.ofEx hd.1 (zbn (fun e σ' k => ⟨rfl, k⟩) h)))
  obtain ⟨rfl, k⟩ := k
  cases e with
  | normal => exact zbt.cut n ho hd.2 k
  | exit i => exact k
  | goto l => exact k
  | ret => exact k
  | panic ch => exact k
  | outgrown => exact k
def blkM (i : Nat) (Q : Exit -> St -> List (List T) -> Prop) (e : Exit) (σ : St) (rows : List (List T)) : Prop := match e with | .exit j => if j = i then Q .normal σ rows else Q (.exit j) σ rows | e => Q e σ rows
theorem zk9 (i : Nat) (Q : Exit -> St -> List (List T) -> Prop) (σ : St) (rows : List (List T)) : blkM i Q .normal σ rows = Q .normal σ rows := rfl
theorem zit (i j : Nat) (Q : Exit -> St -> List (List T) -> Prop) (σ : St) (rows : List (List T)) : blkM i Q (.exit j) σ rows = if j = i then Q .normal σ rows else Q (.exit j) σ rows := rfl
theorem zbt.block {i : Nat} {c : Code} {σ : St} {rows : List (List T)} {Q : Exit -> St -> List (List T) -> Prop} (h : zbt P N ag b c σ rows (blkM i Q)) : zbt P N ag b (.block i c) σ rows Q := fun n0 w0 A0 g a w h1 h2 h3 => by
 refine wp_block (wp_mono (h n0 w0 A0 g a w h1 h2 h3) fun e a' w' hq => ?_)
 obtain ⟨σ', r', g', k1, k2, k3, k4⟩ := hq
 cases e with
 | exit j =>
  simp only [Exit.inBlock]
  simp only [zit] at k1
  split at k1
  ·rw [if_pos ‹_›]; exact ⟨σ', r', g', k1, k2, k3, k4⟩
  ·rw [if_neg ‹_›]; exact ⟨σ', r', g', k1, k2, k3, k4⟩
 | normal => exact ⟨σ', r', g', k1, k2, k3, k4⟩
 | goto l => exact ⟨σ', r', g', k1, k2, k3, k4⟩
 | ret => exact ⟨σ', r', g', k1, k2, k3, k4⟩
 | panic ch => exact ⟨σ', r', g', k1, k2, k3, k4⟩
 | outgrown => exact ⟨σ', r', g', k1, k2, k3, k4⟩
theorem RelM.wk {n0 : Nat -> Prop} {σ σ' : St} {rows : List (List T)} {A0 : (Nat -> Prop) × RP} {g : Gh} {a : Act} {w : World} (h : RelM n0 N σ ag rows b A0 g a w) (k : Wk σ σ') : ∃ g', RelM n0 N σ' ag rows b A0 g' a w := by
 obtain ⟨n1, es, clk, k1, k2, k3, k4, k5, k6, k7⟩ := h.rel
 obtain ⟨g', r1, r2, r3⟩ := k _ _ _ _ _ k4
 exact ⟨g', h.keep k1 k2 k3 k6 k7 r1 k5 (Bk.refl _ _) (by rw [r2, r3])⟩
def lpM {X : Type} (I : X -> St) (J : X -> List (List T)) (Pr : X -> Prop) (μ : X -> Nat) (x : X) (Q : Exit -> St -> List (List T) -> Prop) (e : Exit) (σ : St) (rows : List (List T)) : Prop := match e with | .normal => ∃ x', Pr x' /\ μ x' < μ x /\ J x' = rows /\ Wk σ (I x') | e => Q e σ rows
section
variable {X : Type} (I : X -> St) (J : X -> List (List T)) (Pr : X -> Prop) (μ : X -> Nat) (x : X)
theorem znc (Q : Exit -> St -> List (List T) -> Prop) (σ : St) (rows : List (List T)) : lpM I J Pr μ x Q .normal σ rows = ∃ x', Pr x' /\ μ x' < μ x /\ J x' = rows /\ Wk σ (I x') := rfl
theorem zwb (Q : Exit -> St -> List (List T) -> Prop) (σ : St) (rows : List (List T)) (i : Nat) : lpM I J Pr μ x Q (.exit i) σ rows = Q (.exit i) σ rows := rfl
theorem zbt.loop {c : Code} {σ : St} {rows : List (List T)} {Q : Exit -> St -> List (List T) -> Prop} (x0 : X) (h0 : Wk σ (I x0)) (j0 : J x0 = rows) (p0 : Pr x0) (hr : ∀ x, Pr x -> zbt P N ag b c (I x) (J x) (lpM I J Pr μ x Q)) : zbt P N ag b (.loop c) σ rows Q := fun n0 w0 A0 g a w h1 h2 h3 => by
 subst j0
 refine zmd (fun n a w => ∃ x g1, Pr x /\ μ x = n /\ RelM n0 N (I x) ag (J x) b A0 g1 a w /\ LtK n0 w /\ Bk n0 w0 w) ?_ (n := μ x0) (by obtain ⟨g0, r1⟩ := h1.wk h0; exact ⟨x0, g0, p0, rfl, r1, h2, h3⟩)
 rintro n a w ⟨x, g1, px, rfl, k2, k3, k4⟩
 refine wp_mono (hr x px n0 w0 A0 g1 a w k2 k3 k4) fun e a' w' hq => ?_
 obtain ⟨σ', r', g', h1, h2, h3, h4⟩ := hq
 cases e with
 | normal =>
  obtain ⟨x', p', hlt, rfl, hwk⟩ := h1
  obtain ⟨g2, r1⟩ := h2.wk hwk
  exact ⟨μ x', hlt, x', g2, p', rfl, r1, h3, h4⟩
 | exit i => exact ⟨σ', r', g', h1, h2, h3, h4⟩
 | goto l => exact ⟨σ', r', g', h1, h2, h3, h4⟩
 | ret => exact ⟨σ', r', g', h1, h2, h3, h4⟩
 | panic ch => exact ⟨σ', r', g', h1, h2, h3, h4⟩
 | outgrown => exact ⟨σ', r', g', h1, h2, h3, h4⟩
end
end
attribute [go_sem] zju zro zkn ztk sufC ziz znd zk9 zit znc zwb
end Go.Proofs.Yteeaofpphmhjdaa
namespace Go.Proofs.Yteeaofpphmhjdaa
set_option linter.unusedSimpArgs false
set_option linter.unusedVariables false
set_option linter.unusedSectionVars false
set_option maxRecDepth 4000
open Go.RowKit
variable {P : Program} {N : Nat}
theorem zjl {mt kt et : TypeId} {d : TypeDesc} (hm : P.underlying mt = some (.map kt et)) (hd : P.underlying kt = some d) {w : World} {r : Nat} {es : Array MapEntry} {clk : Nat} {key val : Value} (hb : w.heap[r]? = some (.map es clk)) (hk : Go.MapKept.IsKey d key) (hf : Instr.findNow d key es.toList 0 = some none) :
  (Instr.mapUpdate mt (.map (some r)) key val).run P w = .ok () { w with heap := w.heap.setIfInBounds r (.map (es.push { key, val, born := clk }) (clk + 1)) } := by
 simp [Instr.mapUpdate, run_underlying hm, Go.MapKept.run_getObj_map hb, Go.MapKept.run_checkKey hd hk, Go.MapKept.run_findKey hd hf, Go.MapKept.run_setObj_map _ hb, Result.andThen]
theorem zi7 {mt : TypeId} {w : World} : (Instr.makeMap mt none).run P w = .ok (.map (some w.heap.size)) (w.alloc (.map #[] 0)) := by
 simp [Instr.makeMap, Result.andThen]
theorem zqp {ops : Array Oper} {K : St -> Prop} {n0 : Nat -> Prop} {w0 : World} {A0 : (Nat -> Prop) × RP} {R : Exit -> Act -> World -> Prop} {rest : List Nat} (hg : ∀ o ∈ ops.toList, o.guard = none) (hR : ∀ a w σ g, K σ -> Rel n0 N σ g a w -> LtK n0 w -> Bk n0 w0 w -> (g.A0, g.R0) = A0 -> wpOps P ops R rest a w) :
  ∀ (k i : Nat), i + k <= ops.size -> (∀ o ∈ ops.toList, ∀ d, o.dst = some d -> d < N) -> ∀ (σ : St) (g : Gh) (a : Act) (w : World), za8 P ops ((ops.toList.drop i).take k) σ K -> Rel n0 N σ g a w -> LtK n0 w -> Bk n0 w0 w -> (g.A0, g.R0) = A0 -> wpOps P ops R (List.range' i k ++ rest) a w
 | 0, i, hi, hd, σ, g, a, w, h, hr, hn, hb, hA => by
  rw [List.take_zero] at h
  exact hR a w σ g h hr hn hb hA
 | k + 1, i, hi, hd, σ, g, a, w, h, hr, hn, hb, hA => by
  have hlt : i < ops.size := by omega
  have hcons : ops.toList.drop i = ops[i] :: ops.toList.drop (i + 1) := by
   rw [List.drop_eq_getElem_cons (by simpa using hlt)]; rfl
  rw [hcons, List.take_succ_cons] at h
  rw [show List.range' i (k + 1) ++ rest = i :: (List.range' (i + 1) k ++ rest) from rfl, wpOps_cons]
  have ho : ops[i]? = some ops[i] := by simp [hlt]
  have hdi : ∀ d, ops[i].dst = some d -> d < N := hd _ (by simp)
  have hgi : ops[i].guard = none := hg _ (by simp)
  unfold wpOp
  simp only [ho]
  unfold za8 exG at h
  rw [hgi] at h
  have : Region.wanted ops[i] (yielded ops a.tmps) = true := by simp [Region.wanted, hgi]
  rw [if_pos this]
  exact Or.inl (zcp (fun a' w' ⟨σ', g', h0, k1, k2, k3, k4⟩ => zqp hg hR k (i + 1) (by omega) hd σ' g' a' w' h0 k1 (hn.mono k2.size) (hb.trans k2) (by rw [k3, k4]; exact hA)) (zcv h n0 N g a w hr hn hdi))
def mvC : C -> Option T
 | .rn t => some t
 | .t t => if t.flat = true then some t else none
 | _ => none
def mvCs : List C -> Option (List T)
 | [] => some []
 | c :: cs => (mvC c).bind fun t => (mvCs cs).map fun ts => t :: ts
def mvV (ag : Bool) : V -> Option (List T)
 | .agg cs => if ag = true then mvCs cs else none
 | .one c => if ag = true then none else (mvC c).map fun t => [t]
 | _ => none
theorem zqs {σ : St} {g : Gh} {w : World} {A : Nat -> Prop} (hA : ∀ b, zcr σ g w b -> A b) {c : C} {t : T} {v : Value} (h : mvC c = some t) (hv : CR σ g w c v) : zag w A t v := by
 cases c <;> simp only [mvC, Option.some.injEq, reduceCtorEq] at h
 ·split at h
  ·rename_i hf
   obtain rfl := Option.some.inj h
   exact zcw hf hv
  ·cases h
 ·subst h
  exact zag.keep (fun _ _ => rfl) hA _ _ hv
theorem zmb {σ : St} {g : Gh} {w : World} {A : Nat -> Prop} (hA : ∀ b, zcr σ g w b -> A b) : ∀ {cs : List C} {ts : List T} {vs : List Value}, mvCs cs = some ts -> CRs σ g w cs vs -> zaa w A ts vs
 | [], ts, vs, h, hv => by
  obtain rfl := Option.some.inj h
  unfold zaa
  exact hv
 | c :: cs, ts, vs, h, hv => by
  obtain ⟨t, h1, h⟩ := Option.bind_eq_some_iff.1 h
  obtain ⟨ts', h2, rfl⟩ := Option.map_eq_some_iff.1 h
  obtain ⟨v, vs', rfl, k1, k2⟩ := hv
  unfold zaa
  exact ⟨v, vs', rfl, zqs hA h1 k1, zmb hA h2 k2⟩
theorem zxi {σ : St} {g : Gh} {w : World} {A : Nat -> Prop} (hA : ∀ b, zcr σ g w b -> A b) {ag : Bool} {x : V} {ts : List T} {v : Value} (h : mvV ag x = some ts) (hv : VR σ g w x v) : ∃ us, (if ag = true then v = .agg ⟨us⟩ else us = [v]) /\ zaa w A ts us := by
 cases x with
 | agg cs =>
  simp only [mvV] at h
  split at h
  ·rename_i hag
   obtain ⟨us, rfl, hc⟩ := hv
   exact ⟨us, by rw [if_pos hag], zmb hA h hc⟩
  ·cases h
 | one c =>
  simp only [mvV] at h
  split at h
  ·cases h
  ·rename_i hag
   obtain ⟨t, h1, rfl⟩ := Option.map_eq_some_iff.1 h
   refine ⟨[v], by rw [if_neg hag], ?_⟩
   unfold zaa
   refine ⟨v, [], rfl, zqs hA h1 hv, ?_⟩
   unfold zaa; rfl
 | tup _ => cases h
theorem zan.push {w : World} {A : Nat -> Prop} {ag : Bool} {r : List T} {e : MapEntry} (he : ∃ us, (if ag = true then e.val = .agg ⟨us⟩ else us = [e.val]) /\ zaa w A r (e.key :: us)) : ∀ {rows : List (List T)} {es : List MapEntry}, zan w A ag rows es -> zan w A ag (rows ++ [r]) (es ++ [e])
 | [], es, h => by
  unfold zan at h
  subst h
  obtain ⟨us, h1, h2⟩ := he
  show zan w A ag [r] [e]
  unfold zan
  refine ⟨e, [], us, rfl, h1, h2, ?_⟩
  unfold zan; rfl
 | _ :: rows, es, h => by
  unfold zan at h
  obtain ⟨e', es', us, rfl, h1, h2, h3⟩ := h
  show zan w A ag (_ :: (rows ++ [r])) (e' :: (es' ++ [e]))
  unfold zan
  exact ⟨e', _, us, rfl, h1, h2, zan.push he h3⟩
def updM (P : Program) (ag : Bool) (b : Nat) (mt : TypeId) (x k v : Operand) (σ : St) (rows : List (List T)) (K : St -> List (List T) -> Prop) : Prop := match σ.get P 0 x, σ.get P 0 k, zuv P mt, mvV ag (σ.get P 0 v) with
 | .one (.cv (.map (some b'))), .one (.t kT), some (d, _), some vts => b' = b /\ zme d kT = true /\ zbm kT rows = some none /\ K σ (rows ++ [kT :: vts])
 | _, _, _, _ => False
theorem zyk {ag : Bool} {b : Nat} {mt : TypeId} {x k v : Operand} {σ : St} {rows : List (List T)} {K : St -> List (List T) -> Prop} (h : updM P ag b mt x k v σ rows K) : ∃ kT d et vts, σ.get P 0 x = .one (.cv (.map (some b))) /\ σ.get P 0 k = .one (.t kT) /\ zuv P mt = some (d, et) /\ mvV ag (σ.get P 0 v) = some vts /\ zme d kT = true /\ zbm kT rows = some none /\ K σ (rows ++ [kT :: vts]) := by
 unfold updM at h
 split at h
 ·rename_i b' kT d et vts h1 h2 h3 h4
  obtain ⟨rfl, h5, h6, h7⟩ := h
  exact ⟨kT, d, et, vts, h1, h2, h3, h4, h5, h6, h7⟩
 ·exact h.elim
theorem zja {d : TypeDesc} {k : T} (h : zme d k = true) : k.flat = true := by
 cases d <;> cases k <;> simp [zme] at h <;> rfl
section
variable {ag : Bool} {b : Nat}
theorem zbt.upd {i : Nat} {ops : Array Oper} {mt : TypeId} {x k v : Operand} {ty : TypeId} {ps : String} {af : Array Edge} {σ : St} {rows : List (List T)} {Q : Exit -> St -> List (List T) -> Prop} (m : Nat) (hz : ops.size = m + 1) (hl : ops[m]? = some ⟨none, .mapUpdate mt x k v, ty, ps, af, none⟩) (hg : (ops.toList.all fun o => o.guard.isNone) = true) (hd : za3 N (.region i ops false) = true)
  (h : exo P ops (ops.toList.take m) [] (fun _ σ' => updM P ag b mt x k v σ' rows (Q .normal)) σ) : zbt P N ag b (.region i ops false) σ rows Q := fun n0 w0 A0 g a w hM h2 h3 => by
 obtain ⟨n1, es, clk, k1, k2, k3, k4, k5, k6, k7⟩ := hM.rel
 refine wp_region ?_
 have hd' : ∀ o ∈ ops.toList, ∀ d, o.dst = some d -> d < N := fun o ho d hdd => by
  simp only [za3, Array.all_eq_true_iff_forall_mem] at hd
  have := hd o (by simpa using ho)
  rw [hdd] at this
  simpa using this
 have hg' : ∀ o ∈ ops.toList, o.guard = none := fun o ho => by
  have := List.all_eq_true.1 hg o ho
  simpa using this
 rw [hz, List.range_eq_range', show List.range' 0 (m + 1) = List.range' 0 m ++ [m] by rw [List.range'_1_concat, Nat.zero_add]]
 refine zqp (w0 := w) (A0 := (g.A0, g.R0)) hg' ?_ m 0 (by omega) hd' σ g a w (by simpa [exo, zqo] using h) k4 k5 (Bk.refl _ _) rfl
 intro a' w' σ' g' hK m2 m3 m4 m5
 obtain ⟨kT, d, et, vts, c1, c2, c3, c4, c5, c6, c7⟩ := zyk hK
 obtain ⟨kt, t1, t2⟩ := zqi c3
 have hM' := hM.keep k1 k2 k3 k6 k7 m2 m3 m4 m5
 have e1 : g'.A0 = g.A0 := (Prod.mk.inj m5).1
 have hA' : ¬ g'.A0 b := by rw [e1]; exact k3
 have he : w'.heap[b]? = some (.map es clk) := (m4.block b k2).trans k6
 have hr : zan w' (fun x => n1 x /\ g'.A0 x) ag rows es.toList := zan.keep (fun x hx => m4.block x hx.1) (fun x hx => ⟨hx.1, by rw [e1]; exact hx.2⟩) ag rows _ k7
 have v1 := m2.get P 0 x
 have v2 := m2.get P 0 k
 have v3 := m2.get P 0 v
 rw [c1] at v1
 rw [c2] at v2
 have v1 : a'.eval x = .map (some b) := v1
 have v2 : zag w' (Fix σ' g' w') kT (a'.eval k) := v2
 have hfn := zdp c5 (zcw (A' := fun x => n1 x /\ g'.A0 x) (w' := w') (zja c5) v2) ag rows es.toList 0 none hr c6
 have hkey := zmm c5 v2
 have hrun := zjl t1 t2 (val := a'.eval v) he hkey hfn
 rw [wpOps_cons]
 unfold wpOp
 simp only [hl]
 rw [if_pos (by simp [Region.wanted])]
 refine Or.inl ?_
 unfold Oper.wp
 have hex : (execOp a'.eval ⟨none, .mapUpdate mt x k v, ty, ps, af, none⟩).run P w' = .ok .skip { w' with heap := w'.heap.setIfInBounds b (.map (es.push { key := a'.eval k, val := a'.eval v, born := clk }) (clk + 1)) } := by
  unfold execOp
  simp only [v1, Sem.run_bind, hrun, Result.andThen_ok, Sem.run_pure]
 rw [hex]
 have hh := (Go.MapKept.heap_set (o' := .map (es.push { key := a'.eval k, val := a'.eval v, born := clk }) (clk + 1)) he)
 have hother : ∀ x, x ≠ b -> ({ w' with heap := w'.heap.setIfInBounds b (.map (es.push { key := a'.eval k, val := a'.eval v, born := clk }) (clk + 1)) } : World).heap[x]? = w'.heap[x]? := hh.2
 have hsize : ({ w' with heap := w'.heap.setIfInBounds b (.map (es.push { key := a'.eval k, val := a'.eval v, born := clk }) (clk + 1)) } : World).heap.size = w'.heap.size := by simp
 have hself : ({ w' with heap := w'.heap.setIfInBounds b (.map (es.push { key := a'.eval k, val := a'.eval v, born := clk }) (clk + 1)) } : World).heap[b]? = _ := hh.1
 have hbk : Bk n0 w' { w' with heap := w'.heap.setIfInBounds b (.map (es.push { key := a'.eval k, val := a'.eval v, born := clk }) (clk + 1)) } := ⟨rfl, rfl, rfl, by rw [hsize]; exact Nat.le_refl _, fun j hj => hother j fun e => hM.nb (e ▸ hj)⟩
 have hfree : ∀ y, zcr σ' g' w' y -> y < w'.heap.size /\ g'.A0 y := fun y hy => ⟨hy.1.2.2.1, hy.1.2.2.2⟩
 generalize hw : ({ w' with heap := w'.heap.setIfInBounds b (.map (es.push { key := a'.eval k, val := a'.eval v, born := clk }) (clk + 1)) } : World) = w2 at hother hsize hself hbk ⊢
 have hR2 : Rel (fun y => n1 y \/ zcr σ' g' w' y) N σ' g' a' w2 := by
  refine m2.turn (n1 := fun y => n1 y \/ zcr σ' g' w' y) (A1 := g'.A0) (w' := w2) (fun y hf => ⟨hf.2.2.2, hother y fun e => hA' (e ▸ hf.2.2.2)⟩) (by rw [hsize]; exact Nat.le_refl _) (fun y hy => m2.anew y fun q => hy (Or.inl q)) (fun j hj => ⟨?_, hother _ fun e => m2.base j hj (e ▸ k2)⟩) fun e ho y hy => ⟨?_, (m2.ebase e ho y hy).1, hother _ fun q => m2.etop e ho y hy (q ▸ k2)⟩
  ·rintro (q | q)
   ·exact m2.base j hj q
   ·exact q.1.1 j hj rfl
  ·rintro (q | q)
   ·exact m2.etop e ho y hy q
   ·exact q.2 e ho hy
 obtain ⟨us, u1, u2⟩ := zxi (A := fun y => (n1 y \/ zcr σ' g' w' y) /\ g'.A0 y) (fun y hy => ⟨Or.inr hy, hy.1.2.2.2⟩) c4 v3
 refine ⟨σ', rows ++ [kT :: vts], g', c7, ⟨⟨fun y => n1 y \/ zcr σ' g' w' y, es.push { key := a'.eval k, val := a'.eval v, born := clk }, clk + 1, fun y hy => Or.inl (k1 y hy), Or.inl k2, hA', hR2, fun y hy => ?_, hself, ?_⟩, hM'.nb, hM'.sub, hM'.r0, hM'.new⟩, (h2.mono m4.size).mono hbk.size, (h3.trans (zrl k1 m4)).trans hbk⟩
 ·rw [hsize]
  rcases hy with q | q
  ·exact m3 y q
  ·exact (hfree y q).1
 ·rw [Array.toList_push]
  refine zan.keep (A := fun y => (n1 y \/ zcr σ' g' w' y) /\ g'.A0 y) (fun y hy => hother y fun e => hA' (e ▸ hy.2)) (fun y hy => hy) ag _ _ (zan.push ⟨us, u1, ?_⟩ (zan.keep (fun _ _ => rfl) (fun y hy => ⟨Or.inl hy.1, hy.2⟩) ag rows _ hr))
  unfold zaa
  exact ⟨_, _, rfl, zcw (zja c5) v2, u2⟩
end
theorem Rel.enter1 {n0 : Nat -> Prop} {σ : St} {g : Gh} {a : Act} {w : World} (h : Rel n0 N σ g a w) (o1 : Obj) :
  Rel (fun b => n0 b \/ b = w.heap.size) N σ { g with A0 := fun b => g.A0 b /\ b ≠ w.heap.size } a (w.alloc o1) := by
 have hs : ∀ b, b < w.heap.size -> (w.alloc o1).heap[b]? = w.heap[b]? := fun b hb => Below.heap_alloc _ _ _ hb
 refine h.turn (fun b hf => ⟨⟨hf.2.2.2, ?_⟩, hs b hf.2.2.1⟩) (by simp) (fun b hb => ?_) (fun k hk => ⟨?_, hs _ (h.lt hk)⟩) (fun e ho b hm => ?_)
 ·have := hf.2.2.1; omega
 ·have h1 : ¬ n0 b := fun k => hb (Or.inl k)
  exact ⟨⟨(h.anew b h1).1, fun e => hb (Or.inr e)⟩, (h.anew b h1).2⟩
 ·have := h.lt hk
  rintro (k1 | k1)
  ·exact h.base k hk k1
  ·omega
 ·have := h.elt ho hm
  refine ⟨?_, ⟨(h.ebase e ho b hm).1, by omega⟩, hs b this⟩
  rintro (k1 | k1)
  ·exact h.etop e ho b hm k1
  ·omega
end Go.Proofs.Yteeaofpphmhjdaa
namespace Go.Proofs.Yteeaofpphmhjdaa
set_option linter.unusedSimpArgs false
set_option linter.unusedVariables false
set_option linter.unusedSectionVars false
set_option maxRecDepth 4000
open Go.RowKit
variable {P : Program} {N : Nat}
attribute [go_sem] updM mvC mvCs mvV Option.bind_some Option.map_some
end Go.Proofs.Yteeaofpphmhjdaa
namespace Go.Proofs.Yteeaofpphmhjdaa
set_option linter.unusedSimpArgs false
set_option linter.unusedVariables false
set_option linter.unusedSectionVars false
set_option maxRecDepth 4000
open Go.RowKit
variable {P : Program}
def C.fb (j : Nat) (ts : List T) : C -> C
 | .bx b o => if b = j then .el ts o else .bx b o
 | .fn f [k] => if k = j then .t (.fn f [.ptr ts]) else .fn f [k]
 | .fn _ _ => .any
 | c => c
def zww : List C -> Option (List T)
 | [] => some []
 | .t x :: cs => (zww cs).map (x :: ·)
 | .rn x :: cs => (zww cs).map (x :: ·)
 | _ :: _ => none
def fbS (f : Nat -> V) (j : Nat) (ts : List T) : Nat -> V := fun i => (f i).map (C.fb j ts)
def fbB (f : Nat -> Option (List C)) (j : Nat) (ts : List T) : Nat -> Option (List C) := fun b => if b = j then none else (f b).map fun cs => cs.map (C.fb j ts)
theorem fbS_at (f : Nat -> V) (j : Nat) (ts : List T) (i : Nat) : fbS f j ts i = (f i).map (C.fb j ts) := rfl
def St.fb (σ : St) (j : Nat) (ts : List T) : St := ⟨fbS σ.sl j ts, fbB σ.bx j ts, σ.ev⟩
theorem zq1 {σ : St} {g : Gh} {w : World} : ∀ {cs : List C} {ts : List T} {vs : List Value}, zww cs = some ts -> CRs σ g w cs vs -> ∀ (i : Nat) (t : T), ts[i]? = some t -> ∃ v, vs[i]? = some v /\ zag w (Fix σ g w) t v
 | [], ts, vs, h, _, i, t, ht => by
  unfold zww at h
  cases h
  simp at ht
 | c :: cs, ts, vs, h, hv, i, t, ht => by
  obtain ⟨v, vs', rfl, h1, h2⟩ := hv
  have key : ∀ x, (zww cs).map (x :: ·) = some ts -> zag w (Fix σ g w) x v -> ∃ v', (v :: vs')[i]? = some v' /\ zag w (Fix σ g w) t v' := fun x hx hr => by
   cases hc : zww cs with
   | none => rw [hc] at hx; cases hx
   | some ts' =>
    rw [hc] at hx
    simp only [Option.map_some, Option.some.injEq] at hx
    subst hx
    cases i with
    | zero =>
     simp only [List.getElem?_cons_zero, Option.some.injEq] at ht
     subst ht
     exact ⟨v, rfl, hr⟩
    | succ i =>
     simp only [List.getElem?_cons_succ] at ht ⊢
     exact zq1 hc h2 i t ht
  cases c with
  | t x => exact key x h h1
  | rn x => exact key x h (zag.keep (fun _ _ => rfl) (fun b hb => hb.1) x v h1)
  | _ => cases h
theorem fb_wk {σ : St} {j : Nat} {cs : List C} {ts : List T} (hb : σ.bx j = some cs) (ht : zww cs = some ts) : Wk σ (σ.fb j ts) := by
 intro n0 N g a w h
 have hj : σ.bx j ≠ none := by rw [hb]; simp
 have hbx : ∀ b, (σ.fb j ts).bx b ≠ none ↔ b ≠ j /\ σ.bx b ≠ none := fun b => by
  show (if b = j then none else (σ.bx b).map fun cs => cs.map (C.fb j ts)) ≠ none ↔ _
  by_cases hbj : b = j
  ·rw [if_pos hbj]; simp [hbj]
  ·rw [if_neg hbj]; simp [hbj]
 have hf : ∀ b, Fix σ g w b -> Fix (σ.fb j ts) g w b := fun b hf => ⟨fun k hk => hf.1 k ((hbx k).1 hk).2, hf.2.1, hf.2.2⟩
 have hfr : ∀ b, zcr σ g w b -> zcr (σ.fb j ts) g w b := fun b hb => ⟨hf b hb.1, hb.2⟩
 obtain ⟨vs, ty, e1, e2⟩ := h.boxes j cs hb
 have hfix : Fix (σ.fb j ts) g w (g.β j) := by
  refine ⟨fun k hk e => ((hbx k).1 hk).1 (h.inj k j ((hbx k).1 hk).2 hj e), fun e x hx ho hh => ?_, ?_, (h.anew _ (h.base j hj)).1⟩
  ·exact h.ebx e j ⟨x, hx, ho⟩ hj (List.mem_of_mem_head? hh)
  ·exact (Array.getElem?_eq_some_iff.1 e1).1
 have hat : zar w (Fix (σ.fb j ts) g w) (g.β j) 0 ts := zar.mk fun i t hi => by
  obtain ⟨v, k1, k2⟩ := zq1 ht e2 i t hi
  refine ⟨v, ?_, zag.keep (fun _ _ => rfl) hf t v k2⟩
  have : vs[i]? = some v := by rw [<- Array.getElem?_toList]; exact k1
  rw [Nat.zero_add]
  simp [World.cell?, e1, this]
 have cr : ∀ c v, CR σ g w c v -> CR (σ.fb j ts) g w (c.fb j ts) v := fun c v hc => by
  cases c with
  | t y => exact zag.keep (fun _ _ => rfl) hf y v hc
  | nl s => exact hc
  | ow e' n => exact hc
  | bx b o =>
   show CR _ _ _ (if b = j then .el ts o else .bx b o) v
   by_cases he : b = j
   ·subst he
    rw [if_pos rfl]
    exact ⟨g.β b, 0, by rw [Nat.zero_add]; exact hc.1, hfix, hat⟩
   ·rw [if_neg he]; exact ⟨hc.1, (hbx b).2 ⟨he, hc.2⟩⟩
  | el cs o => obtain ⟨b, q, h1, h2, h3⟩ := hc; exact ⟨b, q, h1, hf b h2, zar.keep (fun _ _ => rfl) hf b rfl q cs h3⟩
  | eo e' s sz i o => exact hc
  | fn f caps =>
   match caps, hc with
   | [], _ => trivial
   | [k], hc =>
    show CR _ _ _ (if k = j then .t (.fn f [.ptr ts]) else .fn f [k]) v
    by_cases he : k = j
    ·subst he
     rw [if_pos rfl]
     show zag _ _ _ _
     unfold zag
     refine ⟨_, hc.1, ?_⟩
     unfold zaa
     refine ⟨_, [], rfl, ?_, by unfold zaa; rfl⟩
     unfold zag
     exact ⟨g.β k, 0, rfl, hfix, hat⟩
    ·rw [if_neg he]
     exact ⟨hc.1, fun b hb => (hbx b).2 ⟨by rw [List.mem_singleton.1 hb]; exact he, hc.2 b hb⟩⟩
   | _ :: _ :: _, _ => trivial
  | cv u => exact hc
  | any => trivial
  | rn y => exact zag.keep (fun _ _ => rfl) hfr y v hc
  | er cs o => obtain ⟨b, q, h1, h2, h3⟩ := hc; exact ⟨b, q, h1, hfr b h2, zar.keep (fun _ _ => rfl) hfr b rfl q cs h3⟩
 refine ⟨g, ⟨h.defers, h.size, h.anew, fun i => VR.map cr (h.slots i), fun b cs' hb' => ?_, fun b hb => h.base b ((hbx b).1 hb).2, fun b b' h1 h2 => h.inj b b' ((hbx b).1 h1).2 ((hbx b').1 h2).2, fun e' z hz h1 => ?_, fun e' z hz h1 => ?_, h.slc, h.ebase, h.etop, h.nodup, h.apart, fun e' k he hk => h.ebx e' k he ((hbx k).1 hk).2⟩, rfl, rfl⟩
 ·have hne := (hbx b).1 (by rw [hb']; simp)
  cases hc : σ.bx b with
  | none => exact absurd hc hne.2
  | some cs0 =>
   have hb' : (if b = j then none else (σ.bx b).map fun cs => cs.map (C.fb j ts)) = some cs' := hb'
   rw [if_neg hne.1, hc] at hb'
   simp only [Option.map_some, Option.some.injEq] at hb'
   subst hb'
   obtain ⟨vs, ty, k1, k2⟩ := h.boxes b cs0 hc
   exact ⟨vs, ty, k1, CRs.map cr k2⟩
 ·obtain ⟨ao, cap, e1, e2, e3, e4⟩ := h.evs e' z hz h1
  refine ⟨ao, cap, e1, e2, e3, ?_⟩
  rcases e4 with e4 | ⟨b, cells, ty, fps, k1, k2, k3, k4, k5⟩
  ·exact Or.inl e4
  ·refine Or.inr ⟨b, cells, ty, fps, k1, k2, k3, k4, ?_⟩
   split at k5
   ·rw [if_pos ‹_›]; exact k5
   ·rw [if_neg ‹_›]; exact ⟨k5.1, zah.keep (fun _ _ => rfl) hf b rfl 0 z.sz z.rows k5.2⟩
 ·exact ⟨zag.keep (fun _ _ => rfl) hf _ _ (h.offs e' z hz h1).1, (h.offs e' z hz h1).2⟩
attribute [go_sem] C.fb St.fb fbS_at zww
end Go.Proofs.Yteeaofpphmhjdaa
namespace Go.Proofs.Yteeaofpphmhjdaa
set_option linter.unusedSimpArgs false
set_option linter.unusedVariables false
set_option linter.unusedSectionVars false
set_option maxRecDepth 4000
open Go.RowKit
variable {P : Program}
theorem zj7 {r : Option Nat} {n : Nat} {ds : List Deferred} {D : Nat -> Prop} {a0 : Act} {ops : Array Oper} {σs : Nat -> St} {L : List (List Ky × List Ky)} {n0 : Nat -> Prop} {N : Nat} {w0 : World} {A0 : (Nat -> Prop) × RP} {Q : Exit -> Act -> World -> Prop}
  (hL : ∀ i (h : i < ops.size), Loc P ops ops[i] (L.getD i ([], [])).1 (L.getD i ([], [])).2 (σs i) (σs (i + 1))) (hord : zj9 ops L = true) (hnd : ∀ o ∈ ops, Oper.nodef o = true) (hdst : ∀ o ∈ ops, ∀ d, o.dst = some d -> d < N /\ D d)
  (hQ : ∀ g a w, Rel n0 N (σs ops.size) g a w -> LtK n0 w -> Bk n0 w0 w -> (g.A0, g.R0) = A0 -> Ag D a0 a -> Q .normal { a with defers := ds } w) :
  ∀ (fuel : Nat) (listed : Array Bool) (g : Gh) (a : Act) (w : World), listed.size = ops.size -> cnt (fun i => listed.getD i false) ops.size = fuel →
   (∀ j (h : j < ops.size), listed.getD j false = true -> ∀ e ∈ ops[j].after, Region.binds .any e = true -> listed.getD e.on false = true) →
   Rel n0 N (Fp σs (fun i => L.getD i ([], [])) (fun i => listed.getD i false) ops.size) g a w -> LtK n0 w -> Bk n0 w0 w -> (g.A0, g.R0) = A0 -> Ag D a0 a -> wpAnyIn (FR r) n P .any ops Q fuel listed { a with defers := ds } w := by
 have hok : ∀ i, i < ops.size -> okK (L.getD i ([], [])).2 = true := fun i h => (hL i h).1
 have hRk : ∀ i, i < ops.size -> okK (L.getD i ([], [])).1 = true := fun i h => (hL i h).2.1
 have hoff : ∀ i, i < ops.size -> ∀ k : Ky, k.1 < 3 -> k ∉ (L.getD i ([], [])).2 -> zat (σs i) (σs (i + 1)) k := fun i h => (hL i h).2.2.1
 have hget : ∀ j (h : j < ops.size), ops.getD j default = ops[j] := fun j h => by simp [Array.getD, h]
 unfold zj9 at hord
 simp only [List.all_eq_true, List.mem_range, Bool.and_eq_true] at hord
 have hlt : ∀ j (h : j < ops.size), ∀ e ∈ ops[j].after, Region.binds .any e = true -> e.on < j := fun j h e he hb => by
  have := (hord j h).1.1
  rw [hget j h] at this
  have := (Array.all_eq_true_iff_forall_mem.1 this) e he
  simpa [hb] using this
 have hbef : ∀ j (h : j < ops.size), ∀ i, i < ops.size -> ((Region.before ops).getD j 0).testBit i = true -> ∃ e ∈ ops[j].after, Region.binds .any e = true /\ (e.on = i \/ ((Region.before ops).getD e.on 0).testBit i = true) := fun j h i hi hb => by
  have := (hord j h).1.2 i hi
  rw [hb, hget j h] at this
  simp only [Bool.not_true, Bool.false_or] at this
  obtain ⟨e, he, h1⟩ := Array.any_eq_true'.1 this
  simp only [Bool.and_eq_true, Bool.or_eq_true, beq_iff_eq] at h1
  exact ⟨e, he, h1.1, h1.2⟩
 have hdis : ∀ i j, i < j -> j < ops.size -> ((Region.before ops).getD j 0).testBit i = false -> (∀ k ∈ (L.getD i ([], [])).2, k ∉ (L.getD j ([], [])).1 /\ k ∉ (L.getD j ([], [])).2) /\ ∀ k ∈ (L.getD i ([], [])).1, k ∉ (L.getD j ([], [])).2 := fun i j hij hj hb => by
  have := (hord j hj).2 i hij
  rw [hb] at this
  simp only [Bool.false_or, Bool.and_eq_true, List.all_eq_true, Bool.not_eq_true', List.contains_eq_mem, decide_eq_false_iff_not] at this
  exact ⟨fun k hk => this.1 k hk, fun k hk => this.2 k hk⟩
 intro fuel
 induction fuel with
 | zero =>
  intro listed g a w hsz hc hcl hrel hn hb hA hag
  have hall := zhe _ hc
  refine ⟨?_, ?_⟩
  ·unfold Region.ready
   rw [List.filter_eq_nil_iff]
   intro i hi
   have hi' := List.mem_range.1 hi
   have := hall i hi'
   simp only [Array.getD_eq_getD_getElem?] at this ⊢
   rw [Array.getElem?_eq_getElem (by omega)] at this ⊢
   simp only [Option.getD_some] at this ⊢
   simp [this]
  ·refine hQ g a w ?_ hn hb hA hag
   rwa [zg7 hok hoff ops.size (Nat.le_refl _) hall] at hrel
 | succ fuel ih =>
  intro listed g a w hsz hc hcl hrel hn hb hA hag
  have hbb : ∀ j (h : j < ops.size), listed.getD j false = true -> ∀ i, i < ops.size -> ((Region.before ops).getD j 0).testBit i = true -> listed.getD i false = true := by
   intro j
   induction j using Nat.strongRecOn with
   | _ j ihj =>
    intro h hl i hi hbi
    obtain ⟨e, he, h1, h2⟩ := hbef j h i hi hbi
    have hle := hcl j h hl e he h1
    have hlt' := hlt j h e he h1
    rcases h2 with rfl | h2
    ·exact hle
    ·exact ihj e.on hlt' (by omega) hle i hi h2
  refine ⟨fun hr => ?_, fun i hi => ?_⟩
  ·-- some operation is due
   exfalso
   have : ∀ j, j < ops.size -> listed.getD j false = true := by
    intro j
    induction j using Nat.strongRecOn with
    | _ j ihj =>
     intro hj
     cases hl : listed.getD j false with
     | true => rfl
     | false =>
      exfalso
      have hmem : j ∈ Region.ready .any ops listed := by
       unfold Region.ready
       rw [List.mem_filter]
       refine ⟨List.mem_range.2 hj, ?_⟩
       have hl' : listed.getD j true = false := by
        simp only [Array.getD_eq_getD_getElem?] at hl ⊢
        rw [Array.getElem?_eq_getElem (by omega)] at hl ⊢
        exact hl
       rw [hl', Array.getElem?_eq_getElem hj]
       simp only [Bool.not_false, Bool.true_and, Option.map_some, Option.getD_some]
       rw [Array.all_eq_true_iff_forall_mem]
       intro e he
       cases hbd : Region.binds .any e with
       | false => rfl
       | true => simpa using ihj e.on (hlt j hj e he hbd) (by have := hlt j hj e he hbd; omega)
      rw [hr] at hmem
      exact absurd hmem (by simp)
   have hz : cnt (fun i => listed.getD i false) ops.size = 0 := by
    have : ∀ m, m <= ops.size -> cnt (fun i => listed.getD i false) m = 0 := by
     intro m
     induction m with
     | zero => intro _; rfl
     | succ m ihm => intro hm; unfold cnt; rw [if_pos (this m (by omega)), ihm (by omega)]
    exact this _ (Nat.le_refl _)
   omega
  ·unfold Region.ready at hi
   rw [List.mem_filter] at hi
   obtain ⟨hi1, hi2⟩ := hi
   have hi' := List.mem_range.1 hi1
   rw [Array.getElem?_eq_getElem hi'] at hi2
   simp only [Option.map_some, Option.getD_some, Bool.and_eq_true, Bool.not_eq_true'] at hi2
   obtain ⟨hl0, hafter⟩ := hi2
   have hl : listed.getD i false = false := by
    simp only [Array.getD_eq_getD_getElem?] at hl0 ⊢
    rw [Array.getElem?_eq_getElem (by omega)] at hl0 ⊢
    exact hl0
   have hdue : ∀ e ∈ ops[i].after, Region.binds .any e = true -> listed.getD e.on false = true := fun e he hbd => by
    have := (Array.all_eq_true_iff_forall_mem.1 hafter) e he
    simpa [hbd] using this
   have h1 : ∀ j, j < ops.size -> ((Region.before ops).getD i 0).testBit j = true -> listed.getD j false = true := fun j hj hbj => by
    obtain ⟨e, he, k1, k2⟩ := hbef i hi' j hj hbj
    have hle := hdue e he k1
    have hlt' := hlt i hi' e he k1
    rcases k2 with rfl | k2
    ·exact hle
    ·exact hbb e.on (by omega) hle j hj k2
   have h2 : ∀ j, j < ops.size -> listed.getD j false = true -> ((Region.before ops).getD j 0).testBit i = true -> listed.getD i false = true := fun j hj hlj hbj => hbb j hj hlj i hi' hbj
   have hset : ∀ j, (listed.setIfInBounds i true).getD j false = if j = i then true else listed.getD j false := fun j => by
    simp only [Array.getD_eq_getD_getElem?, Array.getElem?_setIfInBounds]
    by_cases hji : j = i
    ·subst hji; rw [if_pos rfl, if_pos (by omega), if_pos rfl]; rfl
    ·rw [if_neg (fun h => hji h.symm), if_neg hji]
   obtain ⟨_, _, _, hstep⟩ := hL i hi'
   have hG := hstep _ (fun k hk => zsb (σs := σs) (RW := fun i => L.getD i ([], [])) (b := fun j i => ((Region.before ops).getD j 0).testBit i) (p := fun i => listed.getD i false) hok hoff hRk hdis hi' hl h1 h2 hk)
   have hw := zma (σs := σs) (RW := fun i => L.getD i ([], [])) (b := fun j i => ((Region.before ops).getD j 0).testBit i) (p := fun i => listed.getD i false) hok hdis hi' hl h1 h2 (p' := fun j => (listed.setIfInBounds i true).getD j false) hset
   have hcnt := zk5 (p := fun i => listed.getD i false) (q := fun j => (listed.setIfInBounds i true).getD j false) hl hset ops.size hi'
   have hG' := hG n0 N g a w hrel hn (fun d h => (hdst _ (Array.getElem_mem hi') d h).1)
   rw [<- hw] at hG'
   have next : ∀ a' w', (∃ g', Rel n0 N (Fp σs (fun i => L.getD i ([], [])) (fun j => (listed.setIfInBounds i true).getD j false) ops.size) g' a' w' /\ Bk n0 w w' /\ g'.A0 = g.A0 /\ g'.R0 = g.R0) -> Ag D a0 a' -> wpAnyIn (FR r) n P .any ops Q fuel (listed.setIfInBounds i true) { a' with defers := ds } w' := by
    rintro a' w' ⟨g', k1, k2, k3, k4⟩ hag'
    refine ih _ g' a' w' (by simpa using hsz) (by omega) (fun j hj hlj e he hbd => ?_) k1 (hn.mono k2.size) (hb.trans k2) (by rw [k3, k4]; exact hA) hag'
    rw [hset] at hlj ⊢
    by_cases heo : e.on = i
    ·rw [if_pos heo]
    ·rw [if_neg heo]
     by_cases hji : j = i
     ·subst hji; exact hdue e he hbd
     ·rw [if_neg hji] at hlj; exact hcl j hj hlj e he hbd
   have hput : ∀ v, Ag D a0 (a.put ops[i].dst v) := fun v => hag.put (fun d hd => (hdst _ (Array.getElem_mem hi') d hd).2) v
   unfold wpOpIn
   rw [Array.getElem?_eq_getElem hi']
   simp only
   split
   ·rename_i hwd
    rw [if_pos hwd] at hG'
    exact zwx (hnd _ (Array.getElem_mem hi')) (fun a' w' ⟨g', hh⟩ => hh.1.defers) hG' fun v w' hk => next _ w' hk (hput v)
   ·rename_i hwd
    rw [if_neg hwd] at hG'
    obtain ⟨g', k1, k2, k3⟩ := hG'
    refine ⟨fun _ _ => trivial, ?_⟩
    rw [zby]
    exact next _ _ ⟨g', k1, Bk.refl _ _, k2, k3⟩ (hput _)
def zdr (P : Program) (N : Nat) (D : Nat -> Prop) (c : Code) (σ : St) (Q : Exit -> St -> Prop) : Prop :=
 ∀ (r : Option Nat) (n : Nat) (ds : List Deferred) (n0 : Nat -> Prop) (w0 : World) (A0 : (Nat -> Prop) × RP) (a0 : Act) (g : Gh) (a : Act) (w : World), Rel n0 N σ g a w -> LtK n0 w -> Bk n0 w0 w -> (g.A0, g.R0) = A0 -> Ag D a0 a -> c.wpIn (FR r) n P (zn7 n0 N w0 A0 ds D a0 Q) { a with defers := ds } w
variable {N : Nat} {D : Nat -> Prop}
theorem zn7.mono {n0 : Nat -> Prop} {w0 : World} {A0 : (Nat -> Prop) × RP} {ds : List Deferred} {a0 : Act} {Q Q' : Exit -> St -> Prop} (h : ∀ e σ, Q e σ -> Q' e σ) {e : Exit} {a : Act} {w : World} (k : zn7 n0 N w0 A0 ds D a0 Q e a w) : zn7 n0 N w0 A0 ds D a0 Q' e a w := by
 obtain ⟨a1, k1, k2, k3⟩ := k
 exact ⟨a1, k1, k2, k3.mono h⟩
theorem zdr.ofEx {c : Code} {σ : St} {Q : Exit -> St -> Prop} (hp : (zbs c && za3 N c) = true) (hd : ∀ d ∈ zbp c, D d) (h : ex P c [] Q σ) : zdr P N D c σ Q := fun r n ds n0 w0 A0 a0 g a w h1 h2 h3 h4 h5 =>
 zbh c σ Q (Bool.and_eq_true .. ▸ hp).1 (Bool.and_eq_true .. ▸ hp).2 hd h g a w h1 h2 h3 h4 h5
def thenR (P : Program) (N : Nat) (D : Nat -> Prop) (y : Code) (Q : Exit -> St -> Prop) (e : Exit) (σ : St) : Prop := match e with
 | .normal => zdr P N D y σ Q
 | e => Q e σ
theorem zdr.seq {x y : Code} {σ : St} {Q : Exit -> St -> Prop} (h : zdr P N D x σ (thenR P N D y Q)) : zdr P N D (.seq x y) σ Q := fun r n ds n0 w0 A0 a0 g a w h1 h2 h3 h4 h5 => by
 refine wpIn_seq (wpIn_mono (h r n ds n0 w0 A0 a0 g a w h1 h2 h3 h4 h5) fun e a' w' hq => ?_)
 obtain ⟨a1, rfl, hg1, σ', g', k1, k2, k3, k4, k5⟩ := hq
 cases e with
 | normal => exact k1 r n ds n0 w0 A0 a0 g' a1 w' k2 k3 k4 k5 hg1
 | exit i => exact ⟨a1, rfl, hg1, σ', g', k1, k2, k3, k4, k5⟩
 | goto l => exact ⟨a1, rfl, hg1, σ', g', k1, k2, k3, k4, k5⟩
 | ret => exact ⟨a1, rfl, hg1, σ', g', k1, k2, k3, k4, k5⟩
 | panic ch => exact ⟨a1, rfl, hg1, σ', g', k1, k2, k3, k4, k5⟩
 | outgrown => exact ⟨a1, rfl, hg1, σ', g', k1, k2, k3, k4, k5⟩
theorem zdr.block {i : Nat} {b : Code} {σ : St} {Q : Exit -> St -> Prop} (h : zdr P N D b σ (blkQ i Q)) : zdr P N D (.block i b) σ Q := fun r n ds n0 w0 A0 a0 g a w h1 h2 h3 h4 h5 => by
 refine wpIn_block (wpIn_mono (h r n ds n0 w0 A0 a0 g a w h1 h2 h3 h4 h5) fun e a' w' hq => ?_)
 obtain ⟨a1, rfl, hg1, σ', g', k1, k2, k3, k4, k5⟩ := hq
 cases e with
 | exit j =>
  simp only [Exit.inBlock]
  simp only [blkQ] at k1
  split at k1
  ·rw [if_pos ‹_›]; exact ⟨a1, rfl, hg1, σ', g', k1, k2, k3, k4, k5⟩
  ·rw [if_neg ‹_›]; exact ⟨a1, rfl, hg1, σ', g', k1, k2, k3, k4, k5⟩
 | normal => exact ⟨a1, rfl, hg1, σ', g', k1, k2, k3, k4, k5⟩
 | goto l => exact ⟨a1, rfl, hg1, σ', g', k1, k2, k3, k4, k5⟩
 | ret => exact ⟨a1, rfl, hg1, σ', g', k1, k2, k3, k4, k5⟩
 | panic ch => exact ⟨a1, rfl, hg1, σ', g', k1, k2, k3, k4, k5⟩
 | outgrown => exact ⟨a1, rfl, hg1, σ', g', k1, k2, k3, k4, k5⟩
theorem zdr.cond {c : Operand} {x y : Code} {σ : St} {Q : Exit -> St -> Prop} {b : Bool} (hv : σ.get P 0 c = .one (.t (.bool b))) (ht : b = true -> zdr P N D x σ Q) (hf : b = false -> zdr P N D y σ Q) : zdr P N D (.cond c x y) σ Q := fun r n ds n0 w0 A0 a0 g a w h1 h2 h3 h4 h5 => by
 have hv' := h1.get P 0 c
 rw [hv] at hv'
 simp only [VR, CR, zag] at hv'
 exact wpIn_cond_split hv' (fun e => ht e r n ds n0 w0 A0 a0 g a w h1 h2 h3 h4 h5) (fun e => hf e r n ds n0 w0 A0 a0 g a w h1 h2 h3 h4 h5)
theorem zdr.skip {σ : St} {Q : Exit -> St -> Prop} (h : Q .normal σ) : zdr P N D .skip σ Q := fun r n ds n0 w0 A0 a0 g a w h1 h2 h3 h4 h5 => wpIn_skip ⟨a, rfl, h5, σ, g, h, h1, h2, h3, h4⟩
theorem zdr.drawn {id : Nat} {ops : Array Oper} {σ : St} {Q : Exit -> St -> Prop} (hm : P.follows .mixedOrders = true) (hnd : ops.all Oper.nodef = true) (hdn : za3 N (.region id ops true) = true) (hdd : ∀ d ∈ zbp (.region id ops true), D d) (h : exd P ops ops.toList [] [] Q σ) : zdr P N D (.region id ops true) σ Q := by
 intro r n ds n0 w0 A0 a0 g a w hR hn hbk hA hag
 obtain ⟨L, σs, h0, hloc, hord, hK⟩ := zda ops.toList 0 [] (fun _ => σ) rfl (Nat.zero_le _) rfl (fun j _ hj => by omega) h
 refine wpIn_region_any hm ?_
 have hb : Below w.heap.size w { w with drawn := w.drawn + 1 } := ⟨rfl, rfl, rfl, Nat.le_refl _, fun _ _ => rfl⟩
 have hR' : Rel n0 N (σs 0) g a { w with drawn := w.drawn + 1 } := by
  rw [h0]
  exact hR.after hn hb (New.refl σ g (w.heap.size <= ·) _ hR.slc)
 have hF : Fp σs (fun i => L.getD i ([], [])) (fun i => (Array.replicate ops.size false).getD i false) ops.size = σs 0 := by
  have hp : ∀ i, (Array.replicate ops.size false).getD i false = false := fun i => by
   simp only [Array.getD_eq_getD_getElem?, Array.getElem?_replicate]; split <;> rfl
  have : ∀ m, Fp σs (fun i => L.getD i ([], [])) (fun i => (Array.replicate ops.size false).getD i false) m = σs 0 := by
   intro m
   induction m with
   | zero => rfl
   | succ m ih => unfold Fp; rw [hp, if_neg (by simp)]; exact ih
  exact this _
 have hcnt : cnt (fun i => (Array.replicate ops.size false).getD i false) ops.size = ops.size := by
  have hp : ∀ i, (Array.replicate ops.size false).getD i false = false := fun i => by
   simp only [Array.getD_eq_getD_getElem?, Array.getElem?_replicate]; split <;> rfl
  have : ∀ m, cnt (fun i => (Array.replicate ops.size false).getD i false) m = m := by
   intro m
   induction m with
   | zero => rfl
   | succ m ih => unfold cnt; rw [hp, if_neg (by simp), ih]; omega
  exact this _
 have hd : ∀ o ∈ ops, ∀ d, o.dst = some d -> d < N /\ D d := fun o ho d hod => by
  refine ⟨?_, hdd d (by simp only [zbp, List.mem_filterMap]; exact ⟨o, by simpa using ho, hod⟩)⟩
  simp only [za3, Array.all_eq_true_iff_forall_mem] at hdn
  have := hdn o ho
  rw [hod] at this
  simpa using this
 refine zj7 (w0 := w0) (A0 := A0) (a0 := a0) hloc hord (Array.all_eq_true_iff_forall_mem.1 hnd) hd (fun g' a' w' k1 k2 k3 k4 k5 => ⟨a', rfl, k5, _, g', hK, k1, k2, k3, k4⟩) ops.size _ g a _ (by simp) hcnt (fun j h hl => ?_) (by rw [hF]; exact hR') (hn.mono (Nat.le_refl _)) (hbk.trans (Bk.of_below hb hn)) hA hag
 simp only [Array.getD_eq_getD_getElem?, Array.getElem?_replicate] at hl
 split at hl <;> cases hl
end Go.Proofs.Yteeaofpphmhjdaa
namespace Go.Proofs.Yteeaofpphmhjdaa
set_option linter.unusedSimpArgs false
set_option linter.unusedVariables false
set_option linter.unusedSectionVars false
set_option maxRecDepth 4000
open Go.RowKit
variable {P : Program}
theorem zhl {F1 : FuncId} {ag : Bool} {sz t p1 p2 id N m : Nat} {asg bd : Code} (hB : zmx P F1 ag sz) (hc : za0 P F1) (hpa : zbs asg = true) (hda : za3 N asg = true) (hp1 : p1 < N) (hp2 : p2 < N) (ht : t < 1000000)
  (H : Nat -> St) (rows : List (List T)) (hag : ag = true \/ sz = 1) (hslot : ∀ k, (H k).sl t = .one (.fn F1 [id]) /\ (H k).bx id = some [.rn (.sl sz rows)]) (hany : ∀ k, ∀ i ∈ p1 :: p2 :: (zbp asg ++ zbp bd), (H k).sl i = .one .any)
  (hround : ∀ k, k < rows.length -> zds P asg (((H k).put (some p1) (.one (.t (.int .i64 ((rows.length - 1 - k : Nat) : Int))))).put (some p2) (rowN ag (rows.getD (rows.length - 1 - k) []))) fun e σ2 => e = .normal /\ zdr P N (fun i => i ∈ p1 :: p2 :: (zbp asg ++ zbp bd)) bd σ2 fun e σ3 => e = .normal /\ Wk σ3 (H (k + 1)))
  {n0 : Nat -> Prop} {g : Gh} {a : Act} {w0 w : World} (hR : Rel n0 N (H 0) g a w) (hn : LtK n0 w) (hb : Bk n0 w0 w) {Q : Exit -> Act -> World -> Prop}
  (hQ : ∀ g' w', Rel (fun b => n0 b \/ b = w.heap.size \/ b = w.heap.size + 1) N (H rows.length) g' a w' -> LtK (fun b => n0 b \/ b = w.heap.size \/ b = w.heap.size + 1) w' -> Bk n0 w0 w' -> w'.heap[w.heap.size]? = some (.deferred (some [])) →
   (g'.A0, g'.R0) = ((fun b => g.A0 b /\ b ≠ w.heap.size /\ b ≠ w.heap.size + 1), g.R0) -> Q .normal { a with defers := [{ target := .collected w.heap.size, args := #[] }] } w') :
  (Code.rangeFunc (.tmp t) #[p1, p2] asg bd).wpIn (FR none) m P Q a w := by
 obtain ⟨n1, hn1⟩ : ∃ n1 : Nat -> Prop, n1 = fun b => n0 b \/ b = w.heap.size \/ b = w.heap.size + 1 := ⟨_, rfl⟩
 obtain ⟨A1, hA1⟩ : ∃ A1 : (Nat -> Prop) × RP, A1 = ((fun b => g.A0 b /\ b ≠ w.heap.size /\ b ≠ w.heap.size + 1), g.R0) := ⟨_, rfl⟩
 rw [<- hn1, <- hA1] at hQ
 have hD1 : n1 w.heap.size := by rw [hn1]; exact Or.inr (Or.inl rfl)
 have hl1 : n1 (w.heap.size + 1) := by rw [hn1]; exact Or.inr (Or.inr rfl)
 have hsub : ∀ b, n0 b -> n1 b := fun b h => by rw [hn1]; exact Or.inl h
 have hl0 : ¬ n0 (w.heap.size + 1) := hn.new (by omega)
 have hAl : ∀ g' : Gh, (g'.A0, g'.R0) = A1 -> ¬ g'.A0 (w.heap.size + 1) := fun g' h k => by rw [hA1] at h; rw [(Prod.mk.inj h).1] at k; exact k.2.2 rfl
 have hv0 : a.tmps.getD t undef = .func (.func F1) #[] ⟨[.pointer (some ⟨g.β id, 0, none⟩)]⟩ := by
  have := hR.slot_at ht
  rw [(hslot 0).1] at this
  exact this.1
 have hβ : ∀ {k g' W}, Rel n1 N (H k) g' a W -> g'.β id = g.β id := fun {k g' W} h => by
  have h1 := h.slot_at ht
  rw [(hslot k).1] at h1
  have h2 := h1.1
  rw [hv0] at h2
  simp only [List.map_cons, List.map_nil, Value.func.injEq, Array.mk.injEq, List.cons.injEq, Value.pointer.injEq, Option.some.injEq, Addr.mk.injEq, and_true, true_and] at h2
  exact h2.symm
 refine wpIn_rangeFunc ?_
 intro fn hfn
 obtain ⟨rec, hrec⟩ : ∃ rec : LoopState -> Loop, rec = fun st => { state := st, pending := none, fn, tmps := a.tmps, params := #[p1, p2], assign := asg, body := bd, defers := w.heap.size } := ⟨_, rfl⟩
 obtain ⟨W1, hW1⟩ : ∃ W1, (w.alloc (.deferred (some []))).alloc (.loop (rec .ready)) = W1 := ⟨_, rfl⟩
 have hL1 : W1.heap[w.heap.size + 1]? = some (.loop (rec .ready)) := by
  rw [<- hW1]; have := World.alloc_heap_new (w.alloc (.deferred (some []))) (.loop (rec .ready)); rwa [World.size_alloc] at this
 have hK1 : W1.heap[w.heap.size]? = some (.deferred (some [])) := by
  rw [<- hW1]; exact (Below.heap_alloc _ _ _ (by simp)).trans (World.alloc_heap_new w _)
 have hR1 : Rel n1 N (H 0) { g with A0 := fun b => g.A0 b /\ b ≠ w.heap.size /\ b ≠ w.heap.size + 1 } a W1 := by rw [<- hW1, hn1]; exact hR.enter _ _
 have hb1 : Bk n0 w0 W1 := by rw [<- hW1]; exact (hb.trans (Bk.of_alloc hn _)).trans (Bk.of_alloc (hn.mono (by simp)) _)
 have hz1 : LtK n1 W1 := by
  rw [<- hW1, hn1]
  rintro k (h | rfl | rfl)
  ·have := hn k h; simp; omega
  ·simp; omega
  ·simp
 have hg : a.eval (.tmp t) = .func (.func F1) #[] #[.pointer (some ⟨g.β id, 0, none⟩)] := hv0
 refine ⟨w.heap.size + 1, [{ target := .collected w.heap.size, args := #[] }], W1, { target := .fn (.func F1) #[.pointer (some ⟨g.β id, 0, none⟩)], args := #[.func (.yield (w.heap.size + 1)) #[] #[]] }, W1, F1,
  #[.func (.yield (w.heap.size + 1)) #[] #[]] ++ #[.pointer (some ⟨g.β id, 0, none⟩)], W1, ?_, ?_, fun _ _ => trivial, ?_, (fun h => by cases h), ?_⟩
 ·rw [<- hW1, hrec]; exact run_enterLoop_outer _ _ _ _ _
 ·simp only [resolve, hg]
  simp [go_sem]
 ·have hc' : ∀ (args : Array Value) (w : World), (callFunc F1 args).run P w = .ok (.enter F1 args) w := hc
  simp [invoke, go_sem, hc']
 ·have hgA : ∀ {g' : Gh}, (g'.A0, g'.R0) = A1 -> g'.R0 = g.R0 := fun {g'} h => by rw [hA1] at h; exact (Prod.mk.inj h).2
  obtain ⟨J, hJ⟩ : ∃ J : Nat -> World -> Prop, J = fun k W => (∃ gk, Rel n1 N (H k) gk a W /\ (gk.A0, gk.R0) = A1) /\ LtK n1 W /\ Bk n0 w0 W /\ W.heap[w.heap.size + 1]? = some (.loop (rec .ready)) /\ W.heap[w.heap.size]? = some (.deferred (some [])) := ⟨_, rfl⟩
  have hmax : rows.length <= zc5 := by obtain ⟨_, _, _, h, _⟩ := zko hR1 (hslot 0).2; exact h
  refine CallsIn.mono (zdc.2 (zdc.1 (hB (w.heap.size + 1) (g.β id) rows.length W1 J hmax ?_ ?_ ?_))) ?_
  ·rintro W h
   rw [hJ] at h
   obtain ⟨⟨gk, k1, k2⟩, _⟩ := h
   obtain ⟨ao, cap, h1, _⟩ := zko k1 (hslot 0).2
   rw [hβ k1] at h1
   exact ⟨ao, cap, h1⟩
  ·rintro k W h hk
   rw [hJ] at h
   obtain ⟨⟨gk, k1, k2⟩, k3, k4, k5, k6⟩ := h
   obtain ⟨ao, cap, h1, _, h2⟩ := zko k1 (hslot k).2
   rw [hβ k1] at h1
   obtain ⟨b, o, rfl, h3⟩ := h2.resolve_left (fun e => by rw [e] at hk; simp at hk)
   have hi : rows.length - 1 - k < rows.length := by omega
   obtain ⟨h4, h5⟩ := h3.at (rows.length - 1 - k) rows[rows.length - 1 - k] (by simp [hi])
   obtain ⟨vs, h6, h7⟩ := h5.valsN
   refine ⟨b, o, cap, vs, h1, by rw [h6.len]; exact h4, h7, ?_⟩
   have hy := run_yield (P := P) (args := #[.int .i64 ((rows.length - 1 - k : Nat) : Int), agv ag vs]) k5 (by rw [hrec]; rfl)
   rw [hrec] at hy
   refine ⟨fn, _, asg, bd, hy, roundIn_of_wpIn hfn ?_⟩
   clear hy
   have hda' : a.defers = [] := k1.defers
   have hex := hround k hk
   rw [show rows.getD (rows.length - 1 - k) [] = rows[rows.length - 1 - k] by simp [hi]] at hex
   have q1 : Rel n1 N (((H k).put (some p1) (.one (.t (.int .i64 ((rows.length - 1 - k : Nat) : Int))))).put (some p2) (rowN ag rows[rows.length - 1 - k])) gk ((a.put (some p1) (.int .i64 ((rows.length - 1 - k : Nat) : Int))).put (some p2) (agv ag vs)) W := by
    refine (k1.put (some p1) (v := .int .i64 ((rows.length - 1 - k : Nat) : Int)) ?_ (fun i e => by cases e; exact hp1)).put (some p2) ?_ (fun i e => by cases e; exact hp2)
    ·show zag _ _ _ _
     unfold zag
     have m1 : IntKind.min .i64 = -9223372036854775808 := by decide
     have m2 : IntKind.max .i64 = 9223372036854775807 := by decide
     unfold zc5 at hmax
     exact ⟨rfl, by omega, by omega⟩
    ·exact (Mv.of_eq gk W rfl rfl).vr (zx1 (hag.imp (fun h => h) fun h => by rw [h4, h]) h6)
   have q2 : Ag (fun i => i ∈ p1 :: p2 :: (zbp asg ++ zbp bd)) a ((a.put (some p1) (.int .i64 ((rows.length - 1 - k : Nat) : Int))).put (some p2) (agv ag vs)) :=
    ((Ag.refl _ a).put (fun i e => by cases e; simp) _).put (fun i e => by cases e; simp) _
   have ef : (#[p1, p2].zip #[.int .i64 ((rows.length - 1 - k : Nat) : Int), agv ag vs]).foldl (fun (tmps : Array Value) (x : Nat × Value) => match x with | (t, v) => tmps.setIfInBounds t v) a.tmps = ((a.put (some p1) (.int .i64 ((rows.length - 1 - k : Nat) : Int))).put (some p2) (agv ag vs)).tmps := by simp [Act.put]
   show asg.wpIn (FR (some (w.heap.size + 1))) 5 P _ { tmps := (#[p1, p2].zip #[.int .i64 ((rows.length - 1 - k : Nat) : Int), agv ag vs]).foldl (fun (tmps : Array Value) (x : Nat × Value) => match x with | (t, v) => tmps.setIfInBounds t v) a.tmps, defers := [] } W
   rw [ef]
   refine wpIn_mono (zbh (r := some (w.heap.size + 1)) (n := 5) (ds := []) (D := fun i => i ∈ p1 :: p2 :: (zbp asg ++ zbp bd)) (a0 := a) asg _ _ hpa hda (fun d hd => by simp [hd]) hex gk _ W q1 k3 (Bk.refl n1 W) k2 q2) ?_
   rintro e a2 W2 ⟨a1, rfl, q3, σ2, g2, ⟨rfl, hex2⟩, q4, q5, q6, q7⟩
   have r1 : W2.heap[w.heap.size + 1]? = some (.loop (rec .ready)) := (q6.block _ hl1).trans k5
   refine ⟨_, run_beginRound r1 (by rw [hrec]), ?_⟩
   have q4' := q4.putObj hl1 (hAl g2 q7) (.loop { rec .ready with state := .busy })
   have q5' : LtK n1 (W2.putObj (w.heap.size + 1) (.loop { rec .ready with state := .busy })) := fun b hb => by have := q5 b hb; simpa using this
   refine wpIn_mono (hex2 (some (w.heap.size + 1)) 5 [] n1 _ _ a g2 _ _ q4' q5' (Bk.refl n1 _) q7 q3) ?_
   rintro e a3 W3 ⟨a4, rfl, s3, σ3, g3, ⟨rfl, hwk⟩, s4, s5, s6, s7⟩
   have r2 : W3.heap[w.heap.size + 1]? = some (.loop { rec .ready with state := .busy }) := (s6.block _ hl1).trans (World.putObj_heap_same (Array.getElem?_eq_some_iff.1 r1).1)
   have r3 := run_endRound (P := P) none r2
   obtain ⟨g4, t1, t2, t3⟩ := hwk _ _ _ _ _ s4
   have hA4 : (g4.A0, g4.R0) = A1 := by rw [t2, t3]; exact s7
   have t4 : Rel n1 N (H (k + 1)) g4 a W3 := t1.frame s3 hda' k1.size (hany (k + 1))
   refine ⟨_, _, r3, rfl, ?_⟩
   rw [hJ]
   refine ⟨⟨g4, t4.putObj hl1 (hAl g4 hA4) _, hA4⟩, fun b hb => by have := s5 b hb; simpa using this, ?_, by rw [World.putObj_heap_same (Array.getElem?_eq_some_iff.1 r2).1, hrec]; rfl, ?_⟩
   ·exact (((k4.trans (q6.mono hsub)).trans (Bk.putObj _ hl0 _)).trans (s6.mono hsub)).trans (Bk.putObj _ hl0 _)
   ·rw [World.putObj_heap_other (by omega), s6.block _ hD1, World.putObj_heap_other (by omega), q6.block _ hD1]; exact k6
  ·rw [hJ]
   exact ⟨⟨_, hR1, hA1.symm⟩, hz1, hb1, hL1, hK1⟩
  ·rintro e W2 ⟨⟨v, rfl⟩, h⟩
   rw [hJ] at h
   obtain ⟨⟨gk, k1, k2⟩, k3, k4, k5, k6⟩ := h
   refine ⟨none, _, by have := run_endLoop (P := P) k5 (by rw [hrec]; simp); rw [hrec] at this; exact this, ?_⟩
   have hda' : a.defers = [] := k1.defers
   show Q .normal { a with defers := [{ target := .collected w.heap.size, args := #[] }] ++ a.defers } _
   rw [hda', List.append_nil]
   exact hQ gk _ (k1.putObj hl1 (hAl gk k2) _) (fun b hb => by have := k3 b hb; simpa using this) (k4.trans (Bk.putObj _ hl0 _)) ((World.putObj_heap_other (by omega)).trans k6) k2
def znn (P : Program) (N : Nat) (g : Operand) (ps : Array Tmp) (asg bd q : Code) (Q : Exit -> St -> Prop) (σ : St) : Prop :=
 ∃ (F1 : FuncId) (ag : Bool) (sz t p1 p2 id : Nat) (H : Nat -> St) (rows : List (List T)), g = .tmp t /\ ps = #[p1, p2] /\ zmx P F1 ag sz /\ za0 P F1 /\ (p1 < N /\ p2 < N /\ t < 1000000) /\ (ag = true \/ sz = 1) ∧
  (∀ k, (H k).sl t = .one (.fn F1 [id]) /\ (H k).bx id = some [.rn (.sl sz rows)]) /\ (∀ k, ∀ i ∈ p1 :: p2 :: (zbp asg ++ zbp bd), (H k).sl i = .one .any) ∧
  (∀ k, k < rows.length -> zds P asg (((H k).put (some p1) (.one (.t (.int .i64 ((rows.length - 1 - k : Nat) : Int))))).put (some p2) (rowN ag (rows.getD (rows.length - 1 - k) []))) fun e σ2 => e = .normal /\ zdr P N (fun i => i ∈ p1 :: p2 :: (zbp asg ++ zbp bd)) bd σ2 fun e σ3 => e = .normal /\ Wk σ3 (H (k + 1))) ∧
  Wk σ (H 0) /\ zds P q (H rows.length) Q
theorem ziq {N n : Nat} {n0 : Nat -> Prop} {w0 : World} {A0 : (Nat -> Prop) × RP} : ∀ {c p q : Code} {g : Operand} {ps : Array Tmp} {asg bd : Code} {Q1 Q2 : Exit -> St -> Prop} {Q : Exit -> Act -> World -> Prop}, zcg c = some (p, (g, ps, asg, bd), q) →
  za3 N p = true -> za3 N q = true -> zbs q = true -> (zbs asg = true /\ za3 N asg = true) -> (∀ σ, Q1 .normal σ -> znn P N g ps asg bd q Q2 σ) →
  (∀ e a w, e ≠ .normal -> zv8 n0 N w0 A0 Q1 e a w -> Q e a w) -> (∀ e a w, zvd n0 N w0 A0 Q2 e a w -> Q e a w) →
  ∀ {σ : St} {gh : Gh} {a : Act} {w : World}, zds P p σ Q1 -> Rel n0 N σ gh a w -> LtK n0 w -> Bk n0 w0 w -> (gh.A0, gh.R0) = A0 -> c.wpIn (FR none) n P Q a w := by
 intro c
 have loop : ∀ {g : Operand} {ps : Array Tmp} {asg bd : Code} {Q1 Q2 : Exit -> St -> Prop} {Q : Exit -> Act -> World -> Prop}, (zbs asg = true /\ za3 N asg = true) -> (∀ σ, Q1 .normal σ -> znn P N g ps asg bd .skip Q2 σ) →
   (∀ a w, zvd n0 N w0 A0 Q2 .normal a w -> Q .normal a w) -> ∀ {σ : St} {gh : Gh} {a : Act} {w : World}, zds P .skip σ Q1 -> Rel n0 N σ gh a w -> LtK n0 w -> Bk n0 w0 w -> (gh.A0, gh.R0) = A0 -> (Code.rangeFunc g ps asg bd).wpIn (FR none) n P Q a w := by
  intro g ps asg bd Q1 Q2 Q ha hL hq σ gh a w hex hR hn hb hA
  obtain ⟨F1, ag, sz, t, p1, p2, id, H, rows, rfl, rfl, h1, h2, h3, h4, h5, h6, h7, h8, h9⟩ := hL σ hex
  obtain ⟨g1, k1, k2, k3⟩ := h8 _ _ _ _ _ hR
  refine zhl h1 h2 ha.1 ha.2 h3.1 h3.2.1 h3.2.2 H rows h4 h5 h6 h7 k1 hn hb fun g' w' q1 q2 q3 q4 q5 => hq _ _ ?_
  refine ⟨w.heap.size, _, a, H rows.length, g', rfl, h9, q1, q2, q3, q4, Or.inr (Or.inl rfl), hn.new (Nat.le_refl _), fun b hb => Or.inl hb, ?_, ?_, ?_⟩
  ·rw [(Prod.mk.inj q5).1]; exact fun h => h.2.1 rfl
  ·rw [(Prod.mk.inj q5).1, <- hA]; intro b hb; rw [k2] at hb; exact hb.1
  ·rw [(Prod.mk.inj q5).2, <- hA]; exact k3
 induction c with
 | rangeFunc g ps asg bd _ _ =>
  intro p q g' ps' asg' bd' Q1 Q2 Q h hdp hdq hpq ha hL hx hq σ gh a w hex hR hn hb hA
  simp only [zcg, Option.some.injEq, Prod.mk.injEq] at h
  obtain ⟨rfl, ⟨rfl, rfl, rfl, rfl⟩, rfl⟩ := h
  exact loop ha hL (fun a w => hq .normal a w) hex hR hn hb hA
 | block i b _ =>
  intro p q g' ps' asg' bd' Q1 Q2 Q h hdp hdq hpq ha hL hx hq σ gh a w hex hR hn hb hA
  cases b with
  | rangeFunc g ps asg bd =>
   simp only [zcg, Option.some.injEq, Prod.mk.injEq] at h
   obtain ⟨rfl, ⟨rfl, rfl, rfl, rfl⟩, rfl⟩ := h
   exact wpIn_block (loop (Q := Exit.inBlock i Q) ha hL (fun a w k => hq .normal a w k) hex hR hn hb hA)
  | _ => simp [zcg] at h
 | seq x y ihx ihy =>
  intro p q g' ps' asg' bd' Q1 Q2 Q h hdp hdq hpq ha hL hx hq σ gh a w hex hR hn hb hA
  unfold zcg at h
  split at h
  ·rename_i p1 r1 q1 hs
   simp only [Option.some.injEq, Prod.mk.injEq] at h
   obtain ⟨rfl, rfl, rfl⟩ := h
   simp only [za3, zbs, Bool.and_eq_true] at hdq hpq
   refine wpIn_seq (ihx (Q1 := Q1) (Q2 := fun e σ => match e with | .normal => zds P y σ Q2 | e => Q2 e σ) hs hdp hdq.1 hpq.1 ha hL (fun e a w he k => ?_) (fun e a w k => ?_) hex hR hn hb hA)
   ·have := hx e a w he k
    cases e <;> first | exact absurd rfl he | exact this
   ·cases e with
    | normal => exact wpIn_mono (zn3 hpq.2 hdq.2 k) hq
    | exit i => exact hq _ _ _ k
    | goto l => exact hq _ _ _ k
    | ret => exact hq _ _ _ k
    | panic ch => exact hq _ _ _ k
    | outgrown => exact hq _ _ _ k
  ·split at h
   ·rename_i p1 r1 q1 hs
    simp only [Option.some.injEq, Prod.mk.injEq] at h
    obtain ⟨rfl, rfl, rfl⟩ := h
    simp only [za3, Bool.and_eq_true] at hdp
    refine wpIn_seq (wpIn_mono (Q := zv8 n0 N w0 A0 _) ((wpIn_wide (n := n)).2 (za2 x σ _ hdp.1 hex gh a w hR hn hb hA)) fun e a' w' k => ?_)
    cases e with
    | normal =>
     obtain ⟨σ', g', h1, h2, h3, h4, h5⟩ := k
     exact ihy hs hdp.2 hdq hpq ha hL hx hq h1 h2 h3 h4 h5
    | exit i => exact hx _ _ _ (by simp) k
    | goto l => exact hx _ _ _ (by simp) k
    | ret => exact hx _ _ _ (by simp) k
    | panic ch => exact hx _ _ _ (by simp) k
    | outgrown => exact hx _ _ _ (by simp) k
   ·cases h
 | _ => intro p q g' ps' asg' bd' Q1 Q2 Q h; simp [zcg] at h
theorem FC_ofR {f : FuncId} {fn : Func} {c p q asg bd : Code} {g : Operand} {ps : Array Tmp} {args res : List D} (hc : za0 P f) (hf : P.funcs[f]? = some fn) (hb : fn.body = some c) (hs : zcg c = some (p, (g, ps, asg, bd), q))
  (hd : (za3 fn.ntmps p && za3 fn.ntmps q && zbs q && (zbs asg && za3 fn.ntmps asg)) = true) (hN : (rd args).length <= fn.ntmps)
  (h : ex P p [] (fun e σ => match e with | .normal => znn P fn.ntmps g ps asg bd q (PS P fn.results.toList res) σ | .ret => PS P fn.results.toList res .ret σ | _ => False) (zed args)) : FC P f args res := by
 refine ⟨hc, fun w vs fp tp hv hn => ?_⟩
 refine (zdc (r := none) (n := 0)).1 (callsIn_of_wp_marks hf hb trivial ?_)
 obtain ⟨hr, rfl, rfl⟩ := zbq hv
 have hv' : zbg w (fun b => b < w.heap.size /\ True /\ b ∉ ([] : List Nat)) (rd args) vs [] [] := zbg.keepA (fun b hb => ⟨hb.1, trivial, hb.2⟩) hv
 obtain ⟨gh, hg, hR⟩ := Rel.start (A0 := fun _ => True) (R0 := RP.of fun b => b ∈ ([] : List Nat) \/ w.heap.size <= b) (N := fn.ntmps) hv' hn (zb1 args) hN (fun _ _ => trivial) (fun b hb => ⟨trivial, Or.inl hb⟩) (fun b hb => ⟨trivial, by
  by_cases hlt : b < w.heap.size
  ·exact Or.inl (Classical.byContradiction fun h => hb ⟨hlt, h⟩)
  ·exact Or.inr (by omega)⟩)
 have hR0 : Rel (fun b => b < w.heap.size /\ b ∉ ([] : List Nat)) fn.ntmps (zed args) gh { tmps := (⟨vs⟩ : Array Value) ++ Array.replicate (fn.ntmps - vs.length) undef, defers := [] } w := zfz hr hR ⟨rfl, hg⟩
 simp only [Bool.and_eq_true] at hd
 obtain ⟨⟨⟨d1, d2⟩, d3⟩, d4, d5⟩ := hd
 refine ziq (n := 0) (w0 := w) hs d1 d2 d3 ⟨d4, d5⟩ (fun σ h => h) ?_ ?_ h hR0 (fun k hk => hk.1) (Bk.refl _ _) hg
 ·rintro e a' w' he ⟨σ', g', h1, h2, h3, h4, h5⟩
  cases e with
  | normal => exact absurd rfl he
  | ret =>
   have hr0 : g'.R0 = RP.of fun b => b ∈ ([] : List Nat) \/ w.heap.size <= b := (Prod.mk.inj h5).2
   obtain ⟨v, r1, us, fp', tp', r2, r3, r4, r5⟩ := zw2 h2 hr0 fn h1
   show LeavesInM _ _ _ _ _ _ a'.defers .returning w'
   rw [h2.defers]
   exact ⟨v, r1, us, fp', tp', r2, r3, r4, r5, h4⟩
  | exit _ => exact h1.elim
  | goto _ => exact h1.elim
  | panic _ => exact h1.elim
  | outgrown => exact h1.elim
 ·rintro e a' w' ⟨D, n1, a1, σ, g', rfl, h1, h2, h3, h4, h5, h6, h7, h8, h9, h10, h11⟩
  have hk : (e = .normal \/ e = .ret) /\ (zal (zbe P σ fn.results.toList) (fun vs => zlx σ [] vs res) \/ PX P fn.results.toList res σ) := by
   cases e with
   | normal => exact ⟨Or.inl rfl, h1⟩
   | ret => exact ⟨Or.inr rfl, h1⟩
   | exit _ => exact h1.elim
   | goto _ => exact h1.elim
   | panic _ => exact h1.elim
   | outgrown => exact h1.elim
  have q1 := (h2.putObj h6 h9 (.deferred none)).leave (n0 := fun b => b < w.heap.size /\ b ∉ ([] : List Nat)) (A1 := fun _ => True) h8 (fun _ _ => trivial) (fun b hb => ⟨trivial, by
   rw [h11]
   by_cases hlt : b < w.heap.size
   ·exact absurd ⟨hlt, by simp⟩ hb
   ·exact Or.inr (by omega)⟩)
  obtain ⟨v, r1, us, fp', tp', r2, r3, r4, r5⟩ := zw2 q1 h11 fn hk.2
  have main : LeavesInM (FR none) 0 P fn a1.tmps (fun e w' => ∃ us fp' tp', e = .returned (zbl us) /\ GDs w' res us fp' tp' /\ fp'.Nodup /\ (∀ b ∈ fp', b ∈ ([] : List Nat) \/ w.heap.size <= b) /\ Bk (fun k => k < w.heap.size /\ k ∉ ([] : List Nat)) w w') [{ target := .collected D, args := #[] }] .returning w' :=
   ⟨by simp, Or.inl ⟨D, _, rfl, run_takeDeferred h5, ⟨v, r1, us, fp', tp', r2, r3, r4, r5, h4.trans (Bk.putObj _ h7 _)⟩⟩⟩
  rcases hk.1 with rfl | rfl <;> exact main
def nkR (σ' : St) (e : Exit) (σ : St) : Prop := match e with
 | .normal => Wk σ σ'
 | _ => False
theorem znx (σ' σ : St) : nkR σ' .normal σ = Wk σ σ' := rfl
def RdR (P : Program) (N : Nat) (D : Nat -> Prop) (bd : Code) (σ' : St) (e : Exit) (σ : St) : Prop := match e with
 | .normal => zdr P N D bd σ (nkR σ')
 | _ => False
theorem loopR {N t p1 p2 : Nat} {asg bd q : Code} {Q : Exit -> St -> Prop} {σ : St} {F1 : FuncId} {ag : Bool} {sz : Nat} (hB : zmx P F1 ag sz) (hc : za0 P F1) (id : Nat) (H : Nat -> St) (rows : List (List T)) (h1 : (decide (p1 < N) && decide (p2 < N) && decide (t < 1000000)) = true) (h2 : (ag || sz == 1) = true)
  (h3 : ∀ k, (H k).sl t = .one (.fn F1 [id]) /\ (H k).bx id = some [.rn (.sl sz rows)]) (h4 : ∀ k, zp2 (H k).sl (p1 :: p2 :: (zbp asg ++ zbp bd))) (h6 : Wk σ (H 0))
  (h5 : ∀ k, k < rows.length -> ex P asg [] (RdR P N (fun i => i ∈ p1 :: p2 :: (zbp asg ++ zbp bd)) bd (H (k + 1))) (((H k).put (some p1) (.one (.t (.int .i64 ((rows.length - 1 - k : Nat) : Int))))).put (some p2) (rowN ag (rows.getD (rows.length - 1 - k) []))))
  (h7 : ex P q [] Q (H rows.length)) : znn P N (.tmp t) #[p1, p2] asg bd q Q σ := by
 simp only [Bool.and_eq_true, decide_eq_true_eq, Bool.or_eq_true, beq_iff_eq] at h1 h2
 refine ⟨F1, ag, sz, t, p1, p2, id, H, rows, rfl, rfl, hB, hc, ⟨h1.1.1, h1.1.2, h1.2⟩, h2, h3, fun k => zgy (h4 k), fun k hk => ?_, h6, h7⟩
 refine zbn (fun e σ2 h => ?_) (h5 k hk)
 cases e with
 | normal =>
  refine ⟨rfl, fun r n ds n0 w0 A0 a0 g a w k1 k2 k3 k4 k5 => wpIn_mono (h r n ds n0 w0 A0 a0 g a w k1 k2 k3 k4 k5) fun e a' w' => zn7.mono fun e σ3 h => ?_⟩
  cases e with
  | normal => exact ⟨rfl, h⟩
  | exit _ => exact (show False from h).elim
  | goto _ => exact (show False from h).elim
  | ret => exact (show False from h).elim
  | panic _ => exact (show False from h).elim
  | outgrown => exact (show False from h).elim
 | exit _ => exact (show False from h).elim
 | goto _ => exact (show False from h).elim
 | ret => exact (show False from h).elim
 | panic _ => exact (show False from h).elim
 | outgrown => exact (show False from h).elim
def HdR (P : Program) (fn : Func) (res : List D) (g : Operand) (ps : Array Tmp) (asg bd q : Code) (e : Exit) (σ : St) : Prop := match e with
 | .normal => znn P fn.ntmps g ps asg bd q (PS P fn.results.toList res) σ
 | .ret => PS P fn.results.toList res .ret σ
 | _ => False
theorem zn1 (fn : Func) (res : List D) (g : Operand) (ps : Array Tmp) (asg bd q : Code) (σ : St) : HdR P fn res g ps asg bd q .normal σ = znn P fn.ntmps g ps asg bd q (PS P fn.results.toList res) σ := rfl
theorem znh (N : Nat) (D : Nat -> Prop) (bd : Code) (σ' σ : St) : RdR P N D bd σ' .normal σ = zdr P N D bd σ (nkR σ') := rfl
theorem zii (N : Nat) (D : Nat -> Prop) (y : Code) (Q : Exit -> St -> Prop) (σ : St) : thenR P N D y Q .normal σ = zdr P N D y σ Q := rfl
theorem zya {f : FuncId} {fn : Func} {c p q asg bd : Code} {g : Operand} {ps : Array Tmp} {args res : List D} (hc : za0 P f) (hf : P.funcs[f]? = some fn) (hb : fn.body = some c) (hs : zcg c = some (p, (g, ps, asg, bd), q))
  (hd : (za3 fn.ntmps p && za3 fn.ntmps q && zbs q && (zbs asg && za3 fn.ntmps asg)) = true) (hN : (rd args).length <= fn.ntmps)
  (h : ex P p [] (HdR P fn res g ps asg bd q) (zed args)) : FC P f args res :=
 FC_ofR hc hf hb hs hd hN (zbn (fun e σ h => by cases e <;> exact h) h)
attribute [go_sem] zn1 znh znx zii
end Go.Proofs.Yteeaofpphmhjdaa
namespace Go.Proofs.Yteeaofpphmhjdaa
set_option linter.unusedSimpArgs false
set_option linter.unusedVariables false
set_option linter.unusedSectionVars false
set_option maxRecDepth 4000
open Go.RowKit
variable {P : Program}
def VDn (σ : St) : List V -> List D -> Prop
 | [], ds => ds = []
 | v :: vs, ds => ∃ d ds', ds = d :: ds' /\ (VD σ v d \/ ∃ s sz, v = .one (.nl s) /\ d = .one (.pin (.slice none 0 0) (.sl sz []))) /\ VDn σ vs ds'
theorem VD.rep1 {n0 : Nat -> Prop} {N : Nat} {σ : St} {g : Gh} {a : Act} {w : World} (hR : Rel n0 N σ g a w) {x : V} {d : D} (h : VD σ x d) {v : Value} (hv : VR σ g w x v) : ztc w (· < w.heap.size) d v := by
 have : VDs σ [x] [d] := ⟨d, [], rfl, h, rfl⟩
 obtain ⟨_, _, e, h1, _⟩ := VDs.rep hR this (vs := [v]) ⟨v, [], rfl, hv, rfl⟩
 cases e
 exact h1
theorem VDn.rep {n0 : Nat -> Prop} {N : Nat} {σ : St} {g : Gh} {a : Act} {w : World} (hR : Rel n0 N σ g a w) : ∀ {xs : List V} {ds : List D}, VDn σ xs ds -> ∀ {vs : List Value}, VRl σ g w xs vs -> za4 w (· < w.heap.size) ds vs
 | [], ds, h, vs, hv => by rw [show ds = [] from h]; exact hv
 | x :: xs, ds, h, vs, hv => by
  obtain ⟨d, ds', rfl, h1, h2⟩ := h
  obtain ⟨v, vs', rfl, k1, k2⟩ := hv
  refine ⟨v, vs', rfl, ?_, VDn.rep hR h2 k2⟩
  rcases h1 with h1 | ⟨s, sz, rfl, rfl⟩
  ·exact VD.rep1 hR h1 k1
  ·have k1 : v = .slice none 0 0 := k1
   subst k1
   show zag _ _ (.pin _ _) _
   unfold zag
   refine ⟨rfl, ?_⟩
   unfold zag
   exact ⟨none, 0, rfl, Nat.le_refl _, by simp, Or.inl rfl⟩
theorem znz {o : Oper} {σ : St} {x : Operand} {asx : Array Operand} {ts : Array TypeId} {f : FuncId} {cvs : List V} {d : Nat} {ds res : List D} (ho : o.op = .call ⟨.value x, asx, ts⟩) (hd : o.dst = some d)
  (h : FC P f ds res) (hc : zas (σ.get P 0 x) = some (f, cvs)) (hv : VDn σ (σ.gets P asx ts ++ cvs) ds) (hf : ze8 d 0 (zau res) σ.ev) : zab P o σ (σ.callF d res) := by
 intro n0 N g a w hR hn hdN
 obtain ⟨vs, h1, h2⟩ := zdh hR ho hc h.1
 unfold Oper.wp
 rw [h1]
 refine (h.use (VDn.rep hR hv h2)).mono ?_
 rintro e w' ⟨us, fp, rfl, o1, o2, o3, hb⟩
 obtain ⟨g', k1, k2, k3⟩ := New.cells (σ := σ) (g := g) (NB := (w.heap.size <= ·)) (w' := w') d (zau res) _ fp 0 σ.ev g [] (New.refl _ _ _ _ hR.slc) (fun e h1 h2 => absurd h1 h2) hf o1.cells o2 (fun b hb' => ⟨o3 b hb', by simp⟩)
 have hR' := hR.after hn hb k1
 refine ⟨g', ?_, Bk.of_below hb hn, k1.A0, k1.R0⟩
 have hp := hR'.put (some d) (x := zno (zoq d 0 res)) (v := zbl us) (zf7 (zhz d 0 o1 (k3 _ _ rfl)) (zfh d res 0)) (fun i hi => by cases hi; exact hdN d hd)
 rw [hd]
 exact hp
section
variable {ks : List Fr} {Q : Exit -> St -> Prop} {σ : St} {ops : Array Oper} {os : List Oper} {ty : TypeId} {ps : String} {af : Array Edge}
theorem callFn {d : Nat} {x : Operand} {asx : Array Operand} {ts : Array TypeId} {f : FuncId} {ds res : List D} (h : FC P f ds res) (hp : zal (zas (σ.get P 0 x)) fun p => p.1 = f /\ VDn σ (σ.gets P asx ts ++ p.2) ds /\ ze8 d 0 (zau res) σ.ev)
  (k : exo P ops os ks Q (σ.callF d res)) : exo P ops (⟨some d, .call ⟨.value x, asx, ts⟩, ty, ps, af, none⟩ :: os) ks Q σ := by
 obtain ⟨⟨f', cvs⟩, h1, rfl, h2, h3⟩ := zam hp
 exact zch rfl rfl (znz rfl rfl h h1 h2 h3) k
end
theorem vdn_nl (σ : St) (s sz : Nat) (vs : List V) (ds : List D) : VDn σ (.one (.nl s) :: vs) (.one (.pin (.slice none 0 0) (.sl sz [])) :: ds) = VDn σ vs ds := propext ⟨fun h => by
 obtain ⟨d, ds', e, _, h⟩ := h
 obtain ⟨rfl, rfl⟩ := List.cons.inj e
 exact h, fun h => ⟨_, _, rfl, Or.inr ⟨_, _, rfl, rfl⟩, h⟩⟩
theorem vdn_t (σ : St) (t : T) (vs : List V) (ds : List D) : VDn σ (.one (.t t) :: vs) (.one t :: ds) = VDn σ vs ds := propext ⟨fun h => by
 obtain ⟨d, ds', e, _, h⟩ := h
 obtain ⟨rfl, rfl⟩ := List.cons.inj e
 exact h, fun h => ⟨_, _, rfl, Or.inl rfl, h⟩⟩
theorem zx4 (σ : St) : VDn σ [] [] = True := by unfold VDn; simp
end Go.Proofs.Yteeaofpphmhjdaa
namespace Go.Proofs
open Go.Shelf
set_option maxRecDepth 100000
def Try.laysSF_ren : Go.Shelf.Ren := ⟨fun | 6 => 61 | 15 => 107 | 14 => 106 | 28 => 127 | 29 => 128 | 20 => 119 | 21 => 120 | 22 => 121 | 23 => 122 | 24 => 123 | 25 => 124 | 26 => 125 | 27 => 126 | 46 => 132 | 47 => 133 | 48 => 134 | 49 => 135 | 50 => 136 | 57 => 137 | n => n, fun | 22 => 27 | 24 => 3 | 25 => 74 | 3 => 3 | 39 => 113 | 0 => 0 | 53 => 127 | 55 => 58 | 4 => 4 | 46 => 121 | 45 => 120 | 50 => 37 | 5 => 5 | 9 => 9 | 66 => 130 | 70 => 134 | 76 => 136 | 77 => 75 | n => n, fun | n => n⟩
theorem Try.laysSF : Go.Proofs.SlLaysF.n6 Try.prog Try.laysSF_ren := {
 mixed := by kernel_rfl
 f6 := ⟨Try.f61.name, by decide, Try.func61.trans (congrArg some (by kernel_rfl))⟩
 f14 := ⟨Try.f106.name, by decide, Try.func106.trans (congrArg some (by kernel_rfl))⟩
 f15 := Try.func107.trans (congrArg some (by kernel_rfl))
 f20 := ⟨Try.f119.name, by decide, Try.func119.trans (congrArg some (by kernel_rfl))⟩
 f21 := ⟨Try.f120.name, by decide, Try.func120.trans (congrArg some (by kernel_rfl))⟩
 f22 := ⟨Try.f121.name, by decide, Try.func121.trans (congrArg some (by kernel_rfl))⟩
 f23 := ⟨Try.f122.name, by decide, Try.func122.trans (congrArg some (by kernel_rfl))⟩
 f24 := ⟨Try.f123.name, by decide, Try.func123.trans (congrArg some (by kernel_rfl))⟩
 f25 := ⟨Try.f124.name, by decide, Try.func124.trans (congrArg some (by kernel_rfl))⟩
 f26 := ⟨Try.f125.name, by decide, Try.func125.trans (congrArg some (by kernel_rfl))⟩
 f27 := ⟨Try.f126.name, by decide, Try.func126.trans (congrArg some (by kernel_rfl))⟩
 f28 := Try.func127.trans (congrArg some (by kernel_rfl))
 f29 := Try.func128.trans (congrArg some (by kernel_rfl))
 f46 := ⟨Try.f132.name, by decide, Try.func132.trans (congrArg some (by kernel_rfl))⟩
 f47 := Try.func133.trans (congrArg some (by kernel_rfl))
 f48 := Try.func134.trans (congrArg some (by kernel_rfl))
 f49 := ⟨Try.f135.name, by decide, Try.func135.trans (congrArg some (by kernel_rfl))⟩
 f50 := ⟨Try.f136.name, by decide, Try.func136.trans (congrArg some (by kernel_rfl))⟩
 f57 := ⟨Try.f137.name, by decide, Try.func137.trans (congrArg some (by kernel_rfl))⟩
 t0 := Try.underlying0
 a0 := Try.isAgg0
 z0 := Try.sizeOf0
 v0 := Try.zeroValue0
 t3 := Try.underlying3
 a3 := Try.isAgg3
 z3 := Try.sizeOf3
 v3 := Try.zeroValue3
 t4 := Try.underlying4
 a4 := Try.isAgg4
 z4 := Try.sizeOf4
 v4 := Try.zeroValue4
 t5 := Try.underlying5
 a5 := Try.isAgg5
 z5 := Try.sizeOf5
 v5 := Try.zeroValue5
 t9 := Try.underlying9
 a9 := Try.isAgg9
 z9 := Try.sizeOf9
 v9 := Try.zeroValue9
 t22 := Try.underlying27
 a22 := Try.isAgg27
 z22 := Try.sizeOf27
 v22 := Try.zeroValue27
 a24 := Try.isAgg3
 z24 := Try.sizeOf3
 t25 := Try.underlying74
 a25 := Try.isAgg74
 z25 := Try.sizeOf74
 v25 := Try.zeroValue74
 t39 := Try.underlying113
 a39 := Try.isAgg113
 z39 := Try.sizeOf113
 v39 := Try.zeroValue113
 t45 := Try.underlying120
 a45 := Try.isAgg120
 z45 := Try.sizeOf120
 v45 := Try.zeroValue120
 t46 := Try.underlying121
 a46 := Try.isAgg121
 z46 := Try.sizeOf121
 v46 := Try.zeroValue121
 t50 := Try.underlying37
 a50 := Try.isAgg37
 z50 := Try.sizeOf37
 v50 := Try.zeroValue37
 t53 := Try.underlying127
 a53 := Try.isAgg127
 z53 := Try.sizeOf127
 v53 := Try.zeroValue127
 t55 := Try.underlying58
 a55 := Try.isAgg58
 z55 := Try.sizeOf58
 v55 := Try.zeroValue58
 t66 := Try.underlying130
 a66 := Try.isAgg130
 z66 := Try.sizeOf130
 v66 := Try.zeroValue130
 t70 := Try.underlying134
 a70 := Try.isAgg134
 z70 := Try.sizeOf134
 v70 := Try.zeroValue134
 t76 := Try.underlying136
 a76 := Try.isAgg136
 z76 := Try.sizeOf136
 v76 := Try.zeroValue136
 t77 := Try.underlying75
 a77 := Try.isAgg75
 z77 := Try.sizeOf75
 v77 := Try.zeroValue75 }
end Go.Proofs
namespace Go.Proofs.Yteeaofpphmhjdaa
set_option linter.unusedSimpArgs false
set_option linter.unusedVariables false
set_option linter.unusedSectionVars false
set_option maxRecDepth 4000
open Go.RowKit
theorem zmk (xs : List Int) (i : Nat) (v : Int) (hi : i < xs.length) : zb8 (xs.map fun s => [T.int .i64 s]) i 0 [.int .i64 v] = (xs.set i v).map fun s => [T.int .i64 s] := by
 unfold zb8 setR
 rw [List.getD_eq_getElem?_getD, List.getElem?_map, List.getElem?_eq_getElem hi]
 simp [List.map_set]
end Go.Proofs.Yteeaofpphmhjdaa
namespace Go.Proofs.Yteeaofpphmhjdaa
set_option linter.unusedSimpArgs false
set_option linter.unusedVariables false
set_option linter.unusedSectionVars false
set_option maxRecDepth 4000
open Go.RowKit
theorem zqu : ∀ {c : List Int}, zc1 (c.map fun s => [T.int .i64 s]) -> ∀ l ∈ c, -9223372036854775808 <= l /\ l <= 9223372036854775807
 | [], _, l, hl => by simp at hl
 | x :: c, h, l, hl => by
  have h' : zok [T.int .i64 x] /\ zc1 (c.map fun s => [T.int .i64 s]) := h
  have m1 : IntKind.min .i64 = -9223372036854775808 := by decide
  have m2 : IntKind.max .i64 = 9223372036854775807 := by decide
  rcases List.mem_cons.1 hl with rfl | hl
  ·have h2 : wfT (T.int .i64 l) := h'.1.1
   unfold wfT at h2
   rw [m1, m2] at h2
   exact h2
  ·exact zqu h'.2 l hl
def abW (n : Int) : Int := if n < 0 then IntKind.i64.wrap (0 - n) else n
theorem zwm {n : Int} (h : -9223372036854775808 < n) (h2 : n <= 9223372036854775807) : abW n = ab n := by
 unfold abW
 split
 ·rw [zaq (by omega) (by omega)]; unfold ab; omega
 ·unfold ab; omega
theorem abW_in {n : Int} (h : -9223372036854775808 <= n) (h2 : n <= 9223372036854775807) : inB (abW n) 1 12 = (decide (0 < ab n) && decide (ab n <= 12)) := by
 by_cases e : n = -9223372036854775808
 ·subst e; decide
 ·rw [zwm (by omega) h2]
  unfold inB
  congr 1
theorem zhv (n : Int) : FC Try.prog 98 [iD n] [iD (abW n)] := by
 refine zay Try.call98 Try.func98 rfl (by kernel_rfl) (zbj (by kernel_rfl)) ?_
 simp -implicitDefEqProofs only [go_sem, Try.results98]
 refine ⟨fun h => ?_, fun h => ?_⟩
 ·have : n < 0 := by simpa using h
  unfold abW; rw [if_pos this]
 ·have : ¬ n < 0 := by simpa using h
  unfold abW; rw [if_neg this]
theorem zj8 (c : List Int) : FC Try.prog 63 [.one (zba c)] [bD (pcl c)] := by
 refine zd2 (fun hw => ?_) Try.call63
 have hl : c.length <= 9223372036854775807 := by have := hw.1.1; simpa using this
 have hwf := zqu hw.1.2
 refine zay Try.call63 Try.func63 rfl (by kernel_rfl) (zbj (by kernel_rfl)) ?_
 simp -implicitDefEqProofs only [go_sem, Try.results63]
 refine zaj (fun k : Nat => hd [(0, vT (zba c)), (3, vI k)] [] []) (fun k => k <= c.length /\ pcl c = zsp (pv c k) (c.drop k) /\ (0 < k -> -12 <= c.getD (k - 1) 0 /\ c.getD (k - 1) 0 <= 12)) (fun k => c.length - k) 0 (zac ?_) ?_ ?_
 ·simp -implicitDefEqProofs only [go_sem]
 ·exact ⟨Nat.zero_le _, rfl, fun h => absurd h (by omega)⟩
 ·intro k ⟨hk, hr, hpr⟩
  by_cases hlt : k < c.length
  ·have hsu := zot c hlt
   have hgd : c.getD k 0 = c[k] := by rw [List.getD_eq_getElem?_getD, List.getElem?_eq_getElem hlt]; rfl
   rw [List.drop_eq_getElem_cons hlt] at hr
   unfold zsp at hr
   have hb := hwf c[k] (List.getElem_mem hlt)
   have HA := zhv c[k]
   have HI := ziw (abW c[k]) 1 12
   rw [abW_in hb.1 hb.2] at HI
   cases h1 : (decide (0 < ab c[k]) && decide (ab c[k] <= 12))
   ·rw [h1] at HI
    have hno : pcl c = false := by
     rw [hr]
     have hpv : 0 <= pv c k := by unfold pv ab; split <;> omega
     rw [Bool.and_eq_false_iff, decide_eq_false_iff_not, decide_eq_false_iff_not] at h1
     rcases h1 with h1 | h1
     ·rw [show decide (pv c k < ab c[k]) = false by simp; omega]; rfl
     ·rw [show decide (ab c[k] <= 12) = false by simpa using h1]; simp
    simp -implicitDefEqProofs only [go_sem, hlt]
    refine drawn (by kernel_rfl) ?_
    simp -implicitDefEqProofs only [go_sem, zaf, hlt]
    refine zc2 (HA) (by simp -implicitDefEqProofs only [go_sem]) ?_
    simp -implicitDefEqProofs only [go_sem]
    refine zc2 (HI) (by simp -implicitDefEqProofs only [go_sem]) ?_
    simp -implicitDefEqProofs only [go_sem]
    refine ⟨by kernel_rfl, ?_⟩
    rw [hno]
   ·rw [h1] at HI
    have hab : 0 < ab c[k] /\ ab c[k] <= 12 := by simpa using h1
    have hin : -12 <= c[k] /\ c[k] <= 12 := (zyz hab).2
    by_cases hk0 : k = 0
    ·have hkf : ((0 : Int) < (k : Int)) = False := by simp; omega
     simp -implicitDefEqProofs only [go_sem, hlt]
     refine drawn (by kernel_rfl) ?_
     simp -implicitDefEqProofs only [go_sem, zaf, hlt, hkf]
     refine zc2 (HA) (by simp -implicitDefEqProofs only [go_sem]) ?_
     simp -implicitDefEqProofs only [go_sem]
     refine zc2 (HI) (by simp -implicitDefEqProofs only [go_sem, hkf]) ?_
     simp -implicitDefEqProofs only [go_sem, hkf]
     refine ⟨by kernel_rfl, ?_⟩
     rw [zav (by omega)]
     refine ⟨k + 1, ⟨hlt, ?_, fun _ => ?_⟩, by omega, zac (by simp -implicitDefEqProofs only [go_sem])⟩
     ·have hpv : pv c k = 0 := by unfold pv; rw [if_pos hk0]
      rw [hr, hsu, hpv, show decide (0 < ab c[k]) = true by simpa using hab.1, show decide (ab c[k] <= 12) = true by simpa using hab.2]; rfl
     ·rw [Nat.add_sub_cancel, hgd]; exact hin
    ·have hkp : (0 : Int) < k := by omega
     have hk1 : k - 1 < c.length := by omega
     have hw1 : IntKind.i64.wrap ((k : Int) - 1) = ((k - 1 : Nat) : Int) := by rw [zaq (by omega) (by omega)]; omega
     have hg1 : c.getD (k - 1) 0 = c[k - 1] := by rw [List.getD_eq_getElem?_getD, List.getElem?_eq_getElem hk1]; rfl
     have hp1 := hpr (by omega)
     rw [hg1] at hp1
     have HB := zhv c[k - 1]
     rw [zwm (by omega) (by omega)] at HB HA
     have hpv : pv c k = ab c[k - 1] := by unfold pv; rw [if_neg hk0, hg1]
     rw [hpv] at hr
     simp -implicitDefEqProofs only [go_sem, hlt]
     refine drawn (by kernel_rfl) ?_
     simp -implicitDefEqProofs only [go_sem, zaf, hlt]
     refine zc2 (zhv c[k]) (by simp -implicitDefEqProofs only [go_sem]) ?_
     simp -implicitDefEqProofs only [go_sem]
     refine zc2 (HI) (by simp -implicitDefEqProofs only [go_sem, hkp, hw1, hk1, hlt, zaf]) ?_
     simp -implicitDefEqProofs only [go_sem, hkp, hw1, hk1, hlt, zaf]
     refine zwj (HB) (by simp -implicitDefEqProofs only [go_sem, hlt, zaf]) ?_
     simp -implicitDefEqProofs only [go_sem, hlt, zaf]
     refine zwj (HA) (by simp -implicitDefEqProofs only [go_sem]) ?_
     simp -implicitDefEqProofs only [go_sem]
     refine ⟨by kernel_rfl, ?_⟩
     rw [zav (by omega)]
     refine ⟨fun h => ?_, fun h => ⟨k + 1, ⟨hlt, ?_, fun _ => ?_⟩, by omega, zac (by simp -implicitDefEqProofs only [go_sem])⟩⟩
     ·have : ¬ ab c[k - 1] < ab c[k] := by simp at h; omega
      rw [hr, show decide (ab c[k - 1] < ab c[k]) = false by simpa using this]; simp
     ·have : ab c[k - 1] < ab c[k] := by simp at h; omega
      rw [hr, hsu, show decide (ab c[k - 1] < ab c[k]) = true by simpa using this, show decide (ab c[k] <= 12) = true by simpa using hab.2]; rfl
     ·rw [Nat.add_sub_cancel, hgd]; exact hin
  ·simp -implicitDefEqProofs only [go_sem, hlt]
   rw [hr, List.drop_of_length_le (by omega)]; rfl
end Go.Proofs.Yteeaofpphmhjdaa
namespace Go.Proofs.Yteeaofpphmhjdaa
set_option linter.unusedSimpArgs false
set_option linter.unusedVariables false
set_option linter.unusedSectionVars false
set_option maxRecDepth 4000
open Go.RowKit
theorem zhm (xs : List (List Int)) (p : List Int -> Bool) (g : FuncId) (caps : List T) (H : ∀ x ∈ xs, FC Try.prog g (.one (zba x) :: caps.map .one) [bD (p x)]) : FC Try.prog 57 [.one (za6 xs), .one (.fn g caps)] [iD (zxd xs p)] := by
 refine zd2 (fun hw => ?_) Try.call57
 have hl : xs.length <= 9223372036854775807 := by simpa [zl1, wfT] using hw.1.1
 refine zay Try.call57 Try.func57 rfl (by kernel_rfl) (zbj (by kernel_rfl)) ?_
 simp -implicitDefEqProofs only [go_sem, Try.results57]
 refine zaj (fun k : Nat => hd [(0, vT (za6 xs)), (1, vT (.fn g caps)), (7, vI xs.length), (8, vI k)] [] []) (fun k => k <= xs.length /\ ∀ x ∈ xs.take k, p x = false) (fun k => xs.length - k) 0 (zac ?_) ?_ ?_
 ·simp -implicitDefEqProofs only [go_sem]
 ·simp
 ·intro k ⟨hk, hr⟩
  by_cases hlt : k < xs.length
  ·simp -implicitDefEqProofs only [go_sem, zaf, hlt, ne_eq]
   refine callF (H xs[k] (List.getElem_mem hlt)) (by simp -implicitDefEqProofs only [go_sem, ne_eq]) ?_
   simp -implicitDefEqProofs only [go_sem, ne_eq]
   refine ⟨fun h => ?_, fun h => ⟨k + 1, ⟨hlt, zg8 hlt hr h⟩, by omega, zac (by simp -implicitDefEqProofs only [go_sem]; rw [zav (by omega)])⟩⟩
   rw [zoj hlt hr h]
  ·simp -implicitDefEqProofs only [go_sem, hlt]
   rw [List.take_of_length_le (by omega)] at hr
   rw [zpf hr]
theorem zff (xs : List (List Int)) (p : List Int -> Bool) (g : FuncId) (caps : List T) (H : ∀ x ∈ xs, FC Try.prog g (.one (zba x) :: caps.map .one) [bD (p x)]) : FC Try.prog 76 [.one (za6 xs), .one (.fn g caps)] [bD (xs.any p)] := by
 refine zay Try.call76 Try.func76 rfl (by kernel_rfl) (zbj (by kernel_rfl)) ?_
 simp -implicitDefEqProofs only [go_sem, Try.results76]
 refine callF (zhm xs p g caps H) (by simp -implicitDefEqProofs only [go_sem]) ?_
 simp -implicitDefEqProofs only [go_sem]
 rw [ztu]
theorem zkj (c : List Int) : FC Try.prog 100 [.one (zba c)] [bD (!pcl c)] := by
 refine zay Try.call100 Try.func100 rfl (by kernel_rfl) (zbj (by kernel_rfl)) ?_
 simp -implicitDefEqProofs only [go_sem, Try.results100]
 refine callF (zci c) (by simp -implicitDefEqProofs only [go_sem]) ?_
 simp -implicitDefEqProofs only [go_sem]
theorem zx2 (S : List (List Int)) : zi8 S = (decide ((S.length : Int) <= 40) && !(S.any fun c => !pcl c)) := by
 unfold zi8
 congr 1
 ·rw [decide_eq_decide]; omega
 ·rw [List.not_any_eq_all_not]; simp
theorem zfb (S : List (List Int)) : FC Try.prog 54 [.one (za6 S)] [bD (zi8 S)] := by
 have H := zff S (fun c => !pcl c) 100 [] fun x _ => zkj x
 rw [zx2]
 refine zay Try.call54 Try.func54 rfl (by kernel_rfl) (zbj (by kernel_rfl)) ?_
 simp -implicitDefEqProofs only [go_sem, Try.results54]
 cases h : decide ((S.length : Int) <= 40)
 ·simp -implicitDefEqProofs only [go_sem, h]
 ·simp -implicitDefEqProofs only [go_sem, h]
  refine callF (H) (by simp -implicitDefEqProofs only [go_sem]) ?_
  simp -implicitDefEqProofs only [go_sem]
theorem ztg (S : List (List Int)) : FC Try.prog 48 [.one (za6 S)] [bD (zi8 S)] := by
 refine zd2 (fun hw => ?_) Try.call48
 have hl : S.length <= 9223372036854775807 := by simpa [zl1, wfT] using hw.1.1
 have hle : ((S.length : Int) <= 40) = (S.length <= 40) := by simp; omega
 refine zay Try.call48 Try.func48 rfl (by kernel_rfl) (zbj (by kernel_rfl)) ?_
 simp -implicitDefEqProofs only [go_sem, Try.results48]
 refine zaj (fun k : Nat => hd [(0, vT (za6 S)), (3, vI k)] [] []) (fun k => k <= S.length /\ k <= 41 /\ ∀ x ∈ S.take k, pcl x = true) (fun k => S.length - k) 0 (zac ?_) ?_ ?_
 ·simp -implicitDefEqProofs only [go_sem]
 ·simp
 ·intro k ⟨hk, hk2, hr⟩
  by_cases hlt : k < S.length
  ·by_cases h40 : (k : Int) <= 40
   ·have HC := zj8 S[k]
    simp -implicitDefEqProofs only [go_sem, hlt, h40, zaf]
    refine callF (HC) (by simp -implicitDefEqProofs only [go_sem]) ?_
    simp -implicitDefEqProofs only [go_sem]
    rw [zav (by omega)]
    refine ⟨fun h => ?_, fun h => ⟨k + 1, ⟨hlt, by omega, fun x hx => ?_⟩, by omega, zac (by simp -implicitDefEqProofs only [go_sem])⟩⟩
    ·have hf : pcl S[k] = false := by simpa using h
     have : zi8 S = false := by
      rw [<- Bool.not_eq_true]
      intro hp
      rw [zhw hp (List.getElem_mem hlt)] at hf; cases hf
     rw [this]
    ·rw [List.take_succ_eq_append_getElem hlt] at hx
     rcases List.mem_append.1 hx with hx | hx
     ·exact hr x hx
     ·rw [List.mem_singleton.1 hx]; simpa using h
   ·have : zi8 S = false := by
     unfold zi8
     rw [show decide (S.length <= 40) = false by simp; omega]; rfl
    have h40' : ((S.length : Int) <= 40) = False := by simp; omega
    have h40k : ((k : Int) <= 40) = False := by simp; omega
    simp -implicitDefEqProofs only [go_sem, hlt, h40k, h40']
    rw [this]
  ·rw [List.take_of_length_le (by omega)] at hr
   have hall : S.all pcl = true := List.all_eq_true.2 hr
   simp -implicitDefEqProofs only [go_sem, hlt]
   unfold zi8
   rw [hall, Bool.and_true]
   have : decide ((S.length : Int) <= 40) = decide (S.length <= 40) := by rw [decide_eq_decide]; omega
   rw [this]
theorem zh4 (xs : List Int) (s : Int) : FC Try.prog 99 [.one (zba xs), iD s] [bD (xs.contains s)] := by
 refine zd2 (fun hw => ?_) Try.call99
 have hl : xs.length <= 9223372036854775807 := by simpa [zl1, wfT] using hw.1.1
 refine zay Try.call99 Try.func99 rfl (by kernel_rfl) (zbj (by kernel_rfl)) ?_
 simp -implicitDefEqProofs only [go_sem, Try.results99]
 refine zaj (fun k : Nat => hd [(0, vT (zba xs)), (1, vT (.int .i64 s)), (5, vI k)] [] []) (fun k => k <= xs.length /\ s ∉ xs.take k) (fun k => xs.length - k) 0 (zac ?_) ?_ ?_
 ·simp -implicitDefEqProofs only [go_sem]
 ·simp
 ·intro k ⟨hk, hr⟩
  by_cases hlt : k < xs.length
  ·simp -implicitDefEqProofs only [go_sem, zaf, hlt]
   refine ⟨fun h => ?_, fun h => ?_⟩
   ·have e : xs[k] = s := beq_iff_eq.1 h
    have hm : s ∈ xs := e ▸ List.getElem_mem hlt
    rw [show xs.contains s = true by simpa using hm]
   ·have e : xs[k] ≠ s := fun e => by simp [e] at h
    rw [zav (by omega)]
    exact ⟨k + 1, ⟨hlt, zd6 hlt hr e⟩, by omega, zac (by simp -implicitDefEqProofs only [go_sem])⟩
  ·simp -implicitDefEqProofs only [go_sem, hlt]
   rw [List.take_of_length_le (by omega)] at hr
   rw [show xs.contains s = false by simpa using hr]
theorem zo8 : ∀ xs : List Int, flR (xs.map fun s => [T.int .i64 s]) = true
 | [] => rfl
 | a :: xs => by rw [List.map_cons]; unfold flR; rw [zo8 xs]; rfl
attribute [go_sem] zo8
theorem zyi (xs : List Int) (hl : xs.length <= 4294967296) : FC Try.prog 64 [.one (zba xs)] [.one (zba xs)] := by
 refine zay Try.call64 Try.func64 rfl (by kernel_rfl) (zbj (by kernel_rfl)) ?_
 simp -implicitDefEqProofs only [go_sem, Try.results64]
 refine zb4 (by simp -implicitDefEqProofs only [go_sem]) ?_
 simp -implicitDefEqProofs only [go_sem]
 refine apD true (by simp -implicitDefEqProofs only [go_sem, ne_eq, List.length_map, Nat.zero_add, hl]) ?_
 simp -implicitDefEqProofs only [go_sem, ne_eq, List.length_map, Nat.zero_add, hl]
theorem zny (xs : List Int) : ∀ c ∈ (xs.map fun s => [T.int .i64 s]).flatten, c.flat = true := fun c hc => by
 obtain ⟨r, hr, hc⟩ := List.mem_flatten.1 hc
 obtain ⟨s, _, rfl⟩ := List.mem_map.1 hr
 rw [List.mem_singleton.1 hc]; rfl
set_option maxHeartbeats 1000000 in
theorem zt4 : CloneOf Try.prog 56 1 8 := by
 have t22 := Try.underlying27
 have q22 : ∀ (w : World) (a : Option Addr) (n c n' c' : Nat), (binOp .eql 27 (.slice a n c) (.slice none n' c')).run Try.prog w = .ok (.bool a.isNone) w := fun w a n c n' c' => Lib.run_eql_slice_nil w _ _ a n c n' c' t22
 have u22 : ∀ w, Sem.run Try.prog (underlying 27) w = .ok (TypeDesc.slice 3) w := run_underlying t22
 refine ⟨Try.call56, fun ad n c news w hl hn hbig hc h1 => ?_, fun n c w => ?_⟩
 ·have A : Aside (∀ j u, news[j]? = some u -> w.cell? (ad.add j) = some u) := hc
  clear hc
  obtain ⟨i0, z, hi, hz0, hzs, hz1, hz2⟩ := zyf (P := Try.prog) (t := 3) (n := 1) (b := 8) (z := [.t (.int .i64 0)]) (by kernel_rfl) (by kernel_rfl) (by kernel_rfl) rfl
  go_enter Try.func56, Try.ntmps56
  go_wp2_with (at_builtin; refine wpList_append_own _ rfl _ _ 27 rfl w.heap.size 3 i0 z 1 8 t22 hi hz0 hz1 hz2 hzs (by decide) _ _ _ rfl (World.ownsRow_made w #[] 0 (Nat.le_refl _) (Nat.zero_le _) (by simp)) ad n c news rfl ?qc1 ?qc2 ?qc3 ?qc4 ?qc5 ?qc6 ?_)
  case qc1 => exact hl
  case qc2 =>
   intro j u hj
   exact Lib.cell?_alloc_some _ (A.out j u hj)
  case qc3 => exact h1
  case qc4 => rw [Nat.zero_add]; exact hn
  case qc5 => rw [Nat.zero_add]; exact hbig
  case qc6 => simp
  intro v' w1 hown hgrow hnil
  go_wp2
  go_ret
  refine ⟨_, v', rfl, by simpa using hown, hnil, ?_⟩
  exact ((Below.refl _ w).alloc (Nat.le_refl _) _).grown hgrow (by simp) (by intro k hk; simp [Value.ownBlock] at hk; omega)
 ·go_enter Try.func56, Try.ntmps56
  go_wp2
  go_ret
  exact ⟨rfl, rfl⟩
theorem zt9 (xs : List Int) (hs : xs.length <= 1099511627776) : FC Try.prog 56 [.one (zba xs)] [.one (zba xs)] :=
 ztr zt4 _ (by simp; omega) (zny xs)
end Go.Proofs.Yteeaofpphmhjdaa
namespace Go.Proofs.Yteeaofpphmhjdaa
set_option linter.unusedSimpArgs false
set_option linter.unusedVariables false
set_option linter.unusedSectionVars false
set_option maxRecDepth 4000
open Go.RowKit
abbrev Sm (c : List Int) : Prop := ∀ l ∈ c, -1073741824 <= l /\ l <= 1073741824
theorem zil {c : List Int} (h : pcl c = true) : Sm c := fun l hl => by have := zyz (zkb h hl); omega
end Go.Proofs.Yteeaofpphmhjdaa
namespace Go.Proofs.Yteeaofpphmhjdaa
set_option linter.unusedSimpArgs false
set_option linter.unusedVariables false
set_option linter.unusedSectionVars false
set_option maxRecDepth 4000
open Go.RowKit Go.Sort Go.Proofs
def zwe (x : Int) : Int := max x (wrap64 (-x))
def cmp3 (a b : Int) : Int := if a < b then -1 else if b < a then 1 else 0
def cfV (x y : Int) : Int := cmp3 (zwe x) (zwe y)
theorem zpb {x : Int} (h : -1073741824 <= x /\ x <= 1073741824) : zwe x = ab x := by
 have : wrap64 (-x) = -x := by unfold wrap64; omega
 unfold zwe ab
 rw [this]
theorem zl3 (x y : Int) : ltOf cfV x y = decide (zwe x < zwe y) := by
 unfold ltOf cfV cmp3
 split
 ·rename_i h; simp [h]
 ·rename_i h; split <;> simp [h]
theorem swoV : SWO (ltOf cfV) where
 irrefl x := by rw [zl3]; simp
 trans x y z h1 h2 := by rw [zl3] at *; simp at *; omega
 ntrans x y z h1 h2 := by rw [zl3] at *; simp at *; omega
theorem zlk {a b : Int} (h : a = b) : Ending.returned (.int .i64 a) = .returned (.int .i64 b) := by rw [h]
set_option maxHeartbeats 400000 in
theorem zn5 (x : Int) (w : World) :
  Calls Try.prog 96 #[.int .i64 x] w fun e w' => e = .returned (.int .i64 (zwe x)) /\ w' = w := by
 go_enter Try.func96, Try.ntmps96
 go_wp2
 all_goals (go_ret; refine ⟨zlk ?_, rfl⟩; unfold zwe; omega)
set_option maxHeartbeats 400000 in
theorem zsq (x y : Int) (w : World) :
  Calls Try.prog 108 #[.int .i64 x, .int .i64 y] w fun e w' => e = .returned (.int .i64 (cmp3 x y)) /\ w' = w := by
 have hx : (x != x) = false := by simp
 have hy : (y != y) = false := by simp
 go_enter Try.func108, Try.ntmps108
 go_wp2
 all_goals (go_ret; refine ⟨zlk ?_, rfl⟩; unfold cmp3; first | (rw [if_pos (by omega)]; done) | (rw [if_neg (by omega), if_pos (by omega)]; done) | (rw [if_neg (by omega), if_neg (by omega)]; done))
set_option maxHeartbeats 400000 in
theorem zi5 (x y : Int) (w : World) :
  Calls Try.prog 62 #[.int .i64 x, .int .i64 y] w fun e w' => e = .returned (.int .i64 (cfV x y)) /\ w' = w := by
 go_enter Try.func62, Try.ntmps62
 go_wp2_with (first | (go_at_call 96; refine (zn5 _ _).mono ?_; rintro e w' ⟨rfl, hw⟩; rw [hw]; clear hw) | (go_at_call 108; refine (zsq _ _ _).mono ?_; rintro e w' ⟨rfl, hw⟩; rw [hw]; clear hw))
 go_ret
 exact ⟨rfl, rfl⟩
theorem zlg {w : World} : ∀ {ss : List Int} {vs : List Value} {fps : List Nat}, zao w (ss.map (T.int .i64)) vs fps -> vs = ss.map (Value.int .i64) /\ fps = [] /\ ∀ s ∈ ss, IntKind.min .i64 <= s /\ s <= IntKind.max .i64
 | [], vs, fps, h => ⟨h.1, h.2, by simp⟩
 | s :: ss, vs, fps, h => by
  obtain ⟨v, vs', f1, f2, rfl, rfl, h1, h2⟩ := h
  unfold zap at h1
  obtain ⟨rfl, k1, k1', rfl⟩ := h1
  obtain ⟨rfl, rfl, k2⟩ := zlg h2
  exact ⟨rfl, rfl, fun x hx => (List.mem_cons.1 hx).elim (fun e => e ▸ ⟨k1, k1'⟩) (k2 x)⟩
theorem zmp {w : World} : ∀ {ss : List Int}, (∀ s ∈ ss, IntKind.min .i64 <= s /\ s <= IntKind.max .i64) -> zao w (ss.map (T.int .i64)) (ss.map (Value.int .i64)) []
 | [], _ => ⟨rfl, rfl⟩
 | s :: ss, h => ⟨_, _, [], [], rfl, rfl, by unfold zap; exact ⟨rfl, (h s (by simp)).1, (h s (by simp)).2, rfl⟩, zmp fun x hx => h x (by simp [hx])⟩
theorem zjg (ss : List Int) : (ss.map fun s => [T.int .i64 s]).flatten = ss.map (T.int .i64) := by induction ss <;> simp_all
theorem zpj (ss : List Int) : lens 1 (ss.map fun s => [T.int .i64 s]) := fun r hr => by obtain ⟨s, _, rfl⟩ := List.mem_map.1 hr; rfl
theorem zr6 {xs ys : List Int} {d' : Array Int} (hp : PermIn 0 xs.toArray.size xs.toArray d') (hs : SortedIn (ltOf cfV) 0 xs.toArray.size d') (hxy : xs.Perm ys) (hy : Ris ys) (hb : Sm ys) : d'.toList = ys := by
 obtain ⟨p1, _, p3⟩ := hp
 have hsz : d'.size = xs.length := by rw [p1]; simp
 have e1 : (d'.extract 0 xs.toArray.size).toList = d'.toList := by simp [<- p1]
 have e2 : (xs.toArray.extract 0 xs.toArray.size).toList = xs := by simp
 rw [e1, e2] at p3
 have hpy := p3.trans hxy
 refine zoc hpy hy (List.pairwise_iff_getElem.2 fun i j hi hj hij => ?_)
 have hj' : j < d'.size := by simpa using hj
 have hi' : i < d'.size := by simpa using hi
 have h := hs i j (Nat.zero_le _) hij (by rw [<- p1]; exact hj')
 rw [zl3, getElem!_pos d' j hj', getElem!_pos d' i hi', decide_eq_false_iff_not] at h
 have m1 : d'[i] ∈ ys := hpy.mem_iff.1 (by rw [<- Array.getElem_toList hi']; exact List.getElem_mem _)
 have m2 : d'[j] ∈ ys := hpy.mem_iff.1 (by rw [<- Array.getElem_toList hj']; exact List.getElem_mem _)
 rw [zpb (hb _ m1), zpb (hb _ m2)] at h
 rw [Array.getElem_toList, Array.getElem_toList]
 omega
set_option maxHeartbeats 1000000 in
theorem zo7 (p : Option Addr) (cap : Nat) (fv : Value) (w : World) :
  Calls Try.prog 119 #[.slice p 0 cap, .int .i64 0, .int .i64 0, fv] w fun e w' => e = .returned (.tuple #[]) /\ w' = w := by
 go_enter Try.func119, Try.ntmps119
 go_wp2
 refine wp_loop_rounds 1 ?_
 rw [rounds_succ]
 go_wp2
 go_end0
 exact ⟨rfl, rfl⟩
set_option maxHeartbeats 2000000 in
theorem zq4 (p : Option Addr) (cap : Nat) (lim : Int) (fv : Value) (w : World) :
  Calls Try.prog 106 #[.slice p 0 cap, .int .i64 0, .int .i64 0, .int .i64 lim, fv] w fun e w' => e = .returned (.tuple #[]) /\ w' = w := by
 go_enter Try.func106, Try.ntmps106
 go_wp2
 refine wp_loop_rounds 1 ?_
 rw [rounds_succ]
 go_wp2_with (go_at_call 119; refine (zo7 p cap fv _).mono ?_; rintro e w' ⟨rfl, rfl⟩)
 (try simp only [Exit.inBlock, Exit.then]); refine bodyPost_ret (results_none rfl _ _ _) rfl ?_
 exact ⟨rfl, rfl⟩
set_option maxHeartbeats 2000000 in
theorem zof (p : Option Addr) (cap : Nat) (fv : Value) (w : World) :
  Calls Try.prog 61 #[.slice p 0 cap, fv] w fun e w' => e = .returned (.tuple #[]) /\ w' = w := by
 have hl : ∀ W, Calls Try.prog 107 #[.int .u64 0] W fun e w' => e = .returned (.int .i64 (Lib.bitLen 0 : Nat)) /\ w' = W := fun W =>
  Any.bits_Len (SlLaysF0.n15.bits (P := Try.prog) (ρ := Try.laysSF_ren) { Try.laysSF with }) 0 W (by omega) (by omega)
 go_enter Try.func61, Try.ntmps61
 go_wp2_with (first | (go_at_call 107; refine (hl _).mono ?_; rintro e w' ⟨rfl, rfl⟩) | (go_at_call 106; refine (zq4 p cap _ fv _).mono ?_; rintro e w' ⟨rfl, rfl⟩))
 go_end0
 exact ⟨rfl, rfl⟩
set_option maxHeartbeats 1000000 in
theorem zyq (xs ys : List Int) (hp : xs.Perm ys) (hr : Ris ys) (hb : Sm ys) (hl : xs.length < 4611686018427387904) : IC Try.prog 61 [] (.one (zba xs)) [.one (.fn 62 [])] (.one (zba ys)) [] := by
 refine ⟨Try.call61, fun w us1 v us2 fp tp h1 hg h2 hn => ?_⟩
 rw [show us1 = [] from h1]
 obtain ⟨u, us, e0, h2, h3⟩ := h2
 rw [show us = [] from h3] at e0
 subst e0
 have h2 : zag w _ (T.fn 62 []) u := h2
 unfold zag at h2
 obtain ⟨cs, rfl, h4⟩ := h2
 rw [show cs = [] by unfold zaa at h4; exact h4]
 have hlen : ys.length = xs.length := hp.length_eq.symm
 have eg : ∀ args w, (callFunc 62 args).run Try.prog w = .ok (.enter 62 args) w := enters_of Try.func62 (by kernel_rfl) rfl
 obtain ⟨hg, _⟩ := hg
 unfold zap at hg
 obtain ⟨ao, cap, rfl, q1, q2, q3⟩ := hg
 rw [List.length_map] at q1 ⊢
 rcases q3 with ⟨rfl, rfl, q3, rfl⟩ | ⟨b, cells, ty, fps, rfl, rfl, q3, q4, q5⟩
 ·have hs : xs = [] := List.map_eq_nil_iff.1 q3
  subst hs
  have hy : ys = [] := List.length_eq_zero_iff.1 hlen
  subst hy
  refine (zof none 0 _ w).mono ?_
  rintro e w' ⟨rfl, rfl⟩
  refine ⟨[], [], [], rfl, ⟨_, [], [], [], [], [], rfl, rfl, rfl, ⟨?_, rfl⟩, rfl, rfl, rfl⟩, List.nodup_nil, by simp, Bk.refl _ _⟩
  unfold zap
  exact ⟨none, 0, by simp, by simp, by simp, Or.inl ⟨rfl, rfl, by simp, rfl⟩⟩
 ·obtain ⟨_, vs, k1, k2, k3⟩ := q5.vals
  rw [zjg] at k3
  obtain ⟨rfl, rfl, k4⟩ := zlg k3
  have hsz : xs.length <= cells.size := by omega
  have ht : cells.toList.take xs.length = xs.map (Value.int .i64) := by
   apply List.ext_getElem?
   intro j
   by_cases hj : j < xs.length
   ·rw [List.getElem?_take_of_lt hj, Array.getElem?_toList]
    have := k2 j _ (List.getElem?_eq_getElem (by simpa using hj))
    rw [Nat.zero_add] at this
    rw [this, List.getElem?_eq_getElem (by simpa using hj)]
   ·rw [List.getElem?_take_eq_none (by omega), List.getElem?_eq_none (by simp; omega)]
  have hH := holds_of_blockI q3 ht
  have hcmp : CmpReads Try.prog 62 #[] (Value.int .i64) cfV b 0 xs.toArray.size w := fun m os dk _ x y => (zi5 x y _).mono fun e w' ⟨he, hw⟩ => ⟨he, 0, hw⟩
  have hC := Any.slices_SortFunc Try.laysSF (Value.int .i64) (fun _ => rfl) cfV swoV 62 #[] b 0 cap xs.toArray w eg hcmp.lays hH (Array.getElem?_eq_some_iff.1 q3).1 (by simpa using hl)
  refine Calls.mono (show Calls Try.prog 61 _ w _ from hC) ?_
  rintro e w' ⟨rfl, d', n, os, hp', hs', rfl⟩
  have hd : d'.toList = ys := zr6 hp' hs' hp hr hb
  have hd2 : d' = ys.toArray := by rw [<- hd]
  subst hd2
  have hgr := grownBy_sortedI (w := w) (g := b) (n := n) (os := os) ys.toArray
  have htk := take_putCellsI cells ys (by omega)
  refine ⟨[], [b], [b], rfl, ⟨_, [], [b], [], [b], [], rfl, rfl, rfl, ⟨?_, rfl⟩, rfl, rfl, rfl⟩, by simp, fun x hx => Or.inl hx, ⟨hgr.os, hgr.tape, hgr.output, hgr.size, fun k hk => hgr.block k hk.1 fun e => hk.2 (by cases e; simp)⟩⟩
  unfold zap
  refine ⟨_, cap, by rw [List.length_map, hlen], by rw [List.length_map, hlen]; exact q1, q2, Or.inr ⟨b, _, ty, [], rfl, rfl, heap_sortedI _ q3, by simp [putCells, q4], ?_⟩⟩
  refine zad.of_vals (zpj _) (by rw [zjg]; exact zmp fun s hs => k4 s (hp.mem_iff.2 hs)) fun j u hu => ?_
  rw [<- htk, List.getElem?_take] at hu
  split at hu
  ·simpa using hu
  ·cases hu
end Go.Proofs.Yteeaofpphmhjdaa
namespace Go.Proofs.Yteeaofpphmhjdaa
set_option linter.unusedSimpArgs false
set_option linter.unusedVariables false
set_option linter.unusedSectionVars false
set_option maxRecDepth 4000
open Go.RowKit
set_option maxRecDepth 100000 in
theorem zsl (n : Nat) (hn : n <= 1099511627776) : FC Try.prog 130 [.one (.pin (.slice none 0 0) (.sl 1 [])), iD n] [.one (.sl 1 [])] := by
 refine ⟨Try.call130, fun w vs fp tp hv hnd => ?_⟩
 obtain ⟨v1, _, rfl, h1, hv⟩ := hv
 obtain ⟨v2, _, rfl, h2, hv⟩ := hv
 obtain ⟨rfl, rfl, rfl⟩ := hv
 have e1 : v1 = .slice none 0 0 := by
  have h : zag w (fun b => b < w.heap.size /\ ¬b ∈ []) (.pin (.slice none 0 0) (.sl 1 [])) v1 := h1
  unfold zag at h; exact h.1
 have e2 : v2 = .int .i64 n := by
  have h : zag w (fun b => b < w.heap.size /\ ¬b ∈ []) (.int .i64 n) v2 := h2
  unfold zag at h; exact h.1
 clear h1 h2
 subst e1 e2
 obtain ⟨i, hi, hz, hs, hby⟩ : ∃ i, Try.prog.info? 3 = some i /\ i.zero = some (.int .i64 0) /\ i.size = 1 /\ i.bytes = 8 := ⟨_, rfl, rfl, rfl, rfl⟩
 have g1 : ¬ ((n : Int) < 0) := by omega
 have g2 : wrap64 ((0 : Int) - 0) = 0 := by unfold wrap64; omega
 have g3 : wrap64 ((n : Int) - 0) = n := by unfold wrap64; omega
 by_cases h0 : n = 0
 ·subst h0
  go_enter Try.func130, Try.ntmps130
  go_wp2
  go_ret
  refine ⟨[.slice none 0 0], rfl, [], ⟨_, _, [], [], [], _, [], rfl, rfl, rfl, ⟨?_, rfl⟩, rfl, rfl, rfl⟩, List.nodup_nil, by simp, Bk.refl _ _⟩
  unfold zap
  exact ⟨none, 0, rfl, Nat.le_refl _, by simp, Or.inl ⟨rfl, rfl, rfl, rfl⟩⟩
 ·have g4 : (n : Int) > 0 := by omega
  have hrz := fun ty => Lib.run_append_nil_zeros (P := Try.prog) w 27 3 ty 3 i (.int .i64 0) .i64 .i64 Try.underlying27 Try.underlying3 hi hz n (by omega) (by omega) (by omega) (by rw [hby]; omega)
  go_enter Try.func130, Try.ntmps130
  go_wp2_with (at_builtin; refine Lib.wpList_append_run _ rfl _ _ _ _ rfl _ _ rfl rfl _ _ (hrz _) ?_)
  go_ret
  have hge := grownCap_ge w n 0 3
  have hle := grownCap_le_maxLen w n 0 3 (by unfold maxLen; omega)
  generalize grownCap w n 0 3 = G at hge hle ⊢
  refine ⟨[.slice (some ⟨w.heap.size, 0, none⟩) 0 G], rfl, [w.heap.size], ⟨_, _, [], [w.heap.size], [], _, [], rfl, rfl, rfl, ⟨?_, rfl⟩, rfl, rfl, rfl⟩, by simp, by simp, ⟨rfl, rfl, rfl, ?_, fun k hk => ?_⟩⟩
  ·unfold zap
   refine ⟨_, G, rfl, Nat.zero_le _, by unfold maxLen at hle; omega, Or.inr ⟨w.heap.size, Builtin.zeroCells #[.int .i64 0] n ++ Builtin.zeroCells #[.int .i64 0] (G - n), 3, [], rfl, rfl, ?_, ?_, by unfold zad; rfl⟩⟩
   ·show (w.heap.push _)[w.heap.size]? = _
    simp
   ·simp [size_zeroCells]; omega
  ·show w.heap.size <= (w.heap.push _).size
   rw [Array.size_push]; omega
  ·show (w.heap.push _)[k]? = _
   have hk : k < w.heap.size := by simpa using hk
   rw [Array.getElem?_push_lt hk, Array.getElem?_eq_getElem hk]
def zt3 (A B : List Int) : Nat -> Nat
 | 0 => 0
 | 1 => A.length
 | _ => A.length + B.length
def zto (A B : List Int) : Nat -> List Int
 | 0 => []
 | 1 => A
 | _ => A ++ B
theorem zs4 (A B : List Int) : zt3 A B 0 = 0 := rfl
theorem zpa (A B : List Int) : zt3 A B 1 = A.length := rfl
theorem zpm (A B : List Int) : zt3 A B 2 = A.length + B.length := rfl
theorem zqw (A B : List Int) : zto A B 0 = [] := rfl
theorem zrk (A B : List Int) : zto A B 1 = A := rfl
theorem zru (A B : List Int) : zto A B 2 = A ++ B := rfl
set_option maxHeartbeats 1000000 in
theorem zk2 (A B : List Int) (hA : A.length + B.length <= 4194304) : FC Try.prog 114 [.one (.sl 1 [[zba A], [zba B]])] [.one (zba (A ++ B))] := by
 have hG := zsl (A.length + B.length) (by omega)
 have w1 : IntKind.i64.wrap ((A.length : Int) + (B.length : Int)) = ((A.length + B.length : Nat) : Int) := by rw [zaq (by omega) (by omega)]; omega
 have w0 : IntKind.i64.wrap (0 + (A.length : Int)) = ((A.length : Nat) : Int) := by rw [zaq (by omega) (by omega)]; omega
 have u1 : IntKind.i64.wrap 1 = 1 := rfl
 have u2 : IntKind.i64.wrap 2 = 2 := rfl
 have ha1 : A.length <= 4294967296 := by omega
 have ha2 : A.length + B.length <= 4294967296 := by omega
 refine zay Try.call114 Try.func114 rfl (by kernel_rfl) (zbj (by kernel_rfl)) ?_
 simp -implicitDefEqProofs only [go_sem, Try.results114]
 refine zaj (fun k : Nat => hd [(0, vT (.sl 1 [[zba A], [zba B]])), (3, vI (zt3 A B k)), (9, vT (.sl 1 [[zba A], [zba B]])), (10, vI 2), (11, vI k)] [] []) (fun k => k <= 2) (fun k => 2 - k) 0 (zac ?_) (Nat.zero_le _) ?_
 ·simp -implicitDefEqProofs only [go_sem, zs4]
 ·intro k hk
  rcases (by omega : k = 0 \/ k = 1 \/ k = 2) with rfl | rfl | rfl
  ·simp -implicitDefEqProofs only [go_sem, zs4, w0]
   refine ⟨1, by omega, by omega, zac ?_⟩
   simp -implicitDefEqProofs only [go_sem, zpa, u1]
  ·simp -implicitDefEqProofs only [go_sem, zpa, w1]
   refine ⟨2, by omega, by omega, zac ?_⟩
   simp -implicitDefEqProofs only [go_sem, zpm, u2]
  ·simp -implicitDefEqProofs only [go_sem, zpm]
   refine callFn hG (by simp -implicitDefEqProofs only [go_sem, vdn_nl, vdn_t, zx4]) ?_
   simp -implicitDefEqProofs only [go_sem]
   refine zaj (fun k : Nat => hd [(6, .one (.ow 768 0)), (25, vT (.sl 1 [[zba A], [zba B]])), (26, vI 2), (27, vI k)] [] [(768, ⟨true, 1, (zto A B k).map fun s => [.int .i64 s], 0, true⟩)]) (fun k => k <= 2) (fun k => 2 - k) 0 (zac ?_) (Nat.zero_le _) ?_
   ·simp -implicitDefEqProofs only [go_sem, zqw, List.map_nil]
   ·intro k hk
    rcases (by omega : k = 0 \/ k = 1 \/ k = 2) with rfl | rfl | rfl
    ·simp -implicitDefEqProofs only [go_sem, zqw, List.map_nil]
     refine apD true (by simp -implicitDefEqProofs only [go_sem, ne_eq, List.length_map, ha1, Nat.zero_add]) ?_
     simp -implicitDefEqProofs only [go_sem, ne_eq, List.length_map, ha1, Nat.zero_add]
     refine ⟨1, by omega, by omega, zac ?_⟩
     simp -implicitDefEqProofs only [go_sem, zrk, u1]
    ·simp -implicitDefEqProofs only [go_sem, zrk]
     refine apD true (by simp -implicitDefEqProofs only [go_sem, ne_eq, List.length_map, ha2]) ?_
     simp -implicitDefEqProofs only [go_sem, ne_eq, List.length_map, ha2]
     refine ⟨2, by omega, by omega, zac ?_⟩
     simp -implicitDefEqProofs only [go_sem, zru, u2, List.map_append]
    ·simp -implicitDefEqProofs only [go_sem, zru]
end Go.Proofs.Yteeaofpphmhjdaa
namespace Go.Proofs.Yteeaofpphmhjdaa
set_option linter.unusedSimpArgs false
set_option linter.unusedVariables false
set_option linter.unusedSectionVars false
set_option maxRecDepth 4000
open Go.RowKit
set_option maxHeartbeats 1000000 in
theorem zvx (c : List Int) (x : Int) (hc : Sm c) (hx : -1073741824 <= x /\ x <= 1073741824) (hl : c.length <= 4294967290) : FC Try.prog 66 [.one (zba c), iD x] [.one (zba (zgh c x))] := by
 have HX := zlr x (by omega)
 refine zay Try.call66 Try.func66 rfl (by kernel_rfl) (zbj (by kernel_rfl)) ?_
 simp -implicitDefEqProofs only [go_sem, Try.results66]
 refine zaj (fun k : Nat => hd [(0, vT (zba c)), (1, vI x), (5, vI k)] [] []) (fun k => k <= c.length /\ zgh c x = c.take k ++ zgh (c.drop k) x) (fun k => c.length - k) 0 (zac ?_) ?_ ?_
 ·simp -implicitDefEqProofs only [go_sem]
 ·simp
 ·intro k ⟨hk, hr⟩
  have fin : zgh (c.drop k) x = x :: c.drop k -> zgh c x = c.take k ++ [x] ++ c.drop k := fun e => by rw [hr, e]; simp
  have hl0 : min k c.length <= 4294967296 := by omega
  have hl1 : min k c.length <= 4294967295 := by omega
  have hl2 : min k c.length + 1 <= 4294967295 := by omega
  have hl3 : min k c.length + 1 + (c.length - k) <= 4294967296 := by omega
  by_cases hlt : k < c.length
  ·have HA := zlr c[k] (by have := hc _ (List.getElem_mem hlt); omega)
   rw [List.drop_eq_getElem_cons hlt] at hr fin
   by_cases hab : ab c[k] < ab x
   ·have hab' : (ab c[k] < ab x) = True := by simpa using hab
    simp -implicitDefEqProofs only [go_sem, hlt, zaf]
    refine callF (HA) (by simp -implicitDefEqProofs only [go_sem]) ?_
    simp -implicitDefEqProofs only [go_sem]
    refine callF (HX) (by simp -implicitDefEqProofs only [go_sem, hab']) ?_
    simp -implicitDefEqProofs only [go_sem, hab']
    rw [zav (by omega)]
    refine ⟨k + 1, ⟨hlt, ?_⟩, by omega, zac (by simp -implicitDefEqProofs only [go_sem])⟩
    rw [hr, show zgh (c[k] :: c.drop (k + 1)) x = c[k] :: zgh (c.drop (k + 1)) x by rw [zgh, if_pos hab], List.take_succ_eq_append_getElem hlt, List.append_assoc]
    rfl
   ·have hab' : (ab c[k] < ab x) = False := by simpa using hab
    have hf := fin (by rw [zgh, if_neg hab])
    rw [<- List.drop_eq_getElem_cons hlt] at hf
    rw [hf]
    simp -implicitDefEqProofs only [go_sem, hlt, zaf]
    refine callF (HA) (by simp -implicitDefEqProofs only [go_sem]) ?_
    simp -implicitDefEqProofs only [go_sem]
    refine callF (HX) (by simp -implicitDefEqProofs only [go_sem, hab']) ?_
    simp -implicitDefEqProofs only [go_sem, hab']
    refine drawn (by kernel_rfl) ?_
    simp -implicitDefEqProofs only [go_sem]
    refine zdd (by simp -implicitDefEqProofs only [go_sem, hk, <- List.map_take]) ?_
    simp -implicitDefEqProofs only [go_sem, hk, <- List.map_take]
    refine zw3 true (by simp -implicitDefEqProofs only [go_sem, ne_eq, List.length_map, List.length_take, Nat.zero_add, hl0]) ?_
    simp -implicitDefEqProofs only [go_sem, ne_eq, List.length_map, List.length_take, Nat.zero_add, hl0]
    refine zdd (by simp -implicitDefEqProofs only [go_sem]) ?_
    simp -implicitDefEqProofs only [go_sem]
    refine zw3 true (by simp -implicitDefEqProofs only [go_sem, ne_eq, List.length_map, List.length_append, List.length_take, hl1]) ?_
    simp -implicitDefEqProofs only [go_sem, ne_eq, List.length_map, List.length_append, List.length_take, hl1]
    refine ⟨hk, ?_⟩
    rw [<- List.map_take, List.take_length, <- List.map_drop]
    refine zw3 true (by simp -implicitDefEqProofs only [go_sem, ne_eq, List.length_map, List.length_append, List.length_take, List.length_cons, List.length_nil, List.length_drop, hl3]) ?_
    simp -implicitDefEqProofs only [go_sem, ne_eq, List.length_map, List.length_append, List.length_take, List.length_cons, List.length_nil, List.length_drop, hl3]
    refine ⟨by kernel_rfl, ?_⟩
    rw [List.map_append, List.map_append]
    rfl
  ·have hf := fin (by rw [List.drop_of_length_le (by omega)]; rfl)
   rw [hf]
   simp -implicitDefEqProofs only [go_sem, hlt]
   refine drawn (by kernel_rfl) ?_
   simp -implicitDefEqProofs only [go_sem]
   refine zdd (by simp -implicitDefEqProofs only [go_sem, hk, <- List.map_take]) ?_
   simp -implicitDefEqProofs only [go_sem, hk, <- List.map_take]
   refine zw3 true (by simp -implicitDefEqProofs only [go_sem, ne_eq, List.length_map, List.length_take, Nat.zero_add, hl0]) ?_
   simp -implicitDefEqProofs only [go_sem, ne_eq, List.length_map, List.length_take, Nat.zero_add, hl0]
   refine zdd (by simp -implicitDefEqProofs only [go_sem]) ?_
   simp -implicitDefEqProofs only [go_sem]
   refine zw3 true (by simp -implicitDefEqProofs only [go_sem, ne_eq, List.length_map, List.length_append, List.length_take, hl1]) ?_
   simp -implicitDefEqProofs only [go_sem, ne_eq, List.length_map, List.length_append, List.length_take, hl1]
   refine ⟨hk, ?_⟩
   rw [<- List.map_take, List.take_length, <- List.map_drop]
   refine zw3 true (by simp -implicitDefEqProofs only [go_sem, ne_eq, List.length_map, List.length_append, List.length_take, List.length_cons, List.length_nil, List.length_drop, hl3]) ?_
   simp -implicitDefEqProofs only [go_sem, ne_eq, List.length_map, List.length_append, List.length_take, List.length_cons, List.length_nil, List.length_drop, hl3]
   refine ⟨by kernel_rfl, ?_⟩
   rw [List.map_append, List.map_append]
   rfl
theorem zh0 (p : Int -> Bool) (xs : List Int) {k : Nat} (h : k < xs.length) : (xs.take (k + 1)).filter p = (xs.take k).filter p ++ if p xs[k] = true then [xs[k]] else [] := by
 rw [List.take_succ_eq_append_getElem h, List.filter_append]
 congr 1
 rw [List.filter_cons]
 split <;> simp
set_option maxHeartbeats 2000000 in
theorem zim (a b : List Int) (v : Int) (ha : Sm a) (hb : Sm b) (hv : -1073741824 <= v /\ v <= 1073741824) (hl : a.length + b.length <= 1073741824) : FC Try.prog 112 [.one (zba a), .one (zba b), iD v] [.one (zba (zfl a b v).1), bD (zfl a b v).2] := by
 have H1 := zh4 a v
 have H2 := zh4 b (-v)
 have hwn : IntKind.i64.wrap (0 - v) = -v := by rw [zaq (by omega) (by omega)]; omega
 unfold zfl
 cases h1 : a.contains v
 ·rw [h1] at H1
  rw [Bool.false_and, if_neg (by simp)]
  refine zay Try.call112 Try.func112 rfl (by kernel_rfl) (zbj (by kernel_rfl)) ?_
  simp -implicitDefEqProofs only [go_sem, Try.results112]
  refine callF (H1) (by simp -implicitDefEqProofs only [go_sem]) ?_
  simp -implicitDefEqProofs only [go_sem]
  refine zb4 (by simp -implicitDefEqProofs only [go_sem]) ?_
  simp -implicitDefEqProofs only [go_sem]
 ·rw [h1] at H1
  cases h2 : b.contains (-v)
  ·rw [h2] at H2
   rw [Bool.and_false, if_neg (by simp)]
   refine zay Try.call112 Try.func112 rfl (by kernel_rfl) (zbj (by kernel_rfl)) ?_
   simp -implicitDefEqProofs only [go_sem, Try.results112]
   refine callF (H1) (by simp -implicitDefEqProofs only [go_sem]) ?_
   simp -implicitDefEqProofs only [go_sem]
   rw [hwn]
   refine callF (H2) (by simp -implicitDefEqProofs only [go_sem]) ?_
   simp -implicitDefEqProofs only [go_sem]
   refine zb4 (by simp -implicitDefEqProofs only [go_sem]) ?_
   simp -implicitDefEqProofs only [go_sem]
  ·rw [h2] at H2
   rw [Bool.and_self, if_pos rfl]
   obtain ⟨R, hR⟩ : ∃ R, zon v (a.filter fun x => !(x == v)) b = R := ⟨_, rfl⟩
   rw [hR]
   refine zay Try.call112 Try.func112 rfl (by kernel_rfl) (zbj (by kernel_rfl)) ?_
   simp -implicitDefEqProofs only [go_sem, Try.results112]
   refine callF (H1) (by simp -implicitDefEqProofs only [go_sem]) ?_
   simp -implicitDefEqProofs only [go_sem]
   rw [hwn]
   refine callF (H2) (by simp -implicitDefEqProofs only [go_sem]) ?_
   simp -implicitDefEqProofs only [go_sem]
   refine zb4 (by simp -implicitDefEqProofs only [go_sem]) ?_
   simp -implicitDefEqProofs only [go_sem]
   refine zaj (fun k : Nat => hd [(0, vT (zba a)), (1, vT (zba b)), (2, vI v), (8, .one (.ow 736 ((a.take k).filter fun x => !(x == v)).length)), (9, vI k)] [] [(736, ⟨true, 1, ((a.take k).filter fun x => !(x == v)).map fun s => [.int .i64 s], ((a.take k).filter fun x => !(x == v)).length, true⟩)]) (fun k => k <= a.length) (fun k => a.length - k) 0 (zac ?_) (Nat.zero_le _) ?_
   ·simp -implicitDefEqProofs only [go_sem]
    rfl
   ·intro k hk
    have hfl := List.length_filter_le (fun x => !(x == v)) (a.take k)
    rw [List.length_take] at hfl
    by_cases hlt : k < a.length
    ·have hs := zh0 (fun x => !(x == v)) a hlt
     have hol : ((a.take k).filter fun x => !(x == v)).length <= 4294967295 := by omega
     cases hx : a[k] == v
     ·have hx' : (a[k] != v) = true := by unfold bne; rw [hx]; rfl
      rw [hx, Bool.not_false, if_pos rfl] at hs
      simp -implicitDefEqProofs only [go_sem, hlt, zaf, hx']
      refine zb4 (by simp -implicitDefEqProofs only [go_sem]) ?_
      simp -implicitDefEqProofs only [go_sem]
      refine apD true (by simp -implicitDefEqProofs only [go_sem, ne_eq, List.length_map, hol]) ?_
      simp -implicitDefEqProofs only [go_sem, ne_eq, List.length_map, hol]
      rw [zav (by omega)]
      refine ⟨k + 1, hlt, by omega, zac ?_⟩
      simp -implicitDefEqProofs only [go_sem]
      rw [hs, List.map_append, List.length_append]
      rfl
     ·have hx' : (a[k] != v) = false := by unfold bne; rw [hx]; rfl
      rw [hx, Bool.not_true, if_neg (by simp), List.append_nil] at hs
      simp -implicitDefEqProofs only [go_sem, hlt, zaf, hx']
      rw [zav (by omega)]
      refine ⟨k + 1, hlt, by omega, zac ?_⟩
      simp -implicitDefEqProofs only [go_sem]
      rw [hs]
    ·have hkn : k = a.length := by omega
     subst hkn
     rw [List.take_length] at hfl ⊢
     have hsm : Sm (a.filter fun x => !(x == v)) := fun l hl => ha l (List.mem_filter.1 hl).1
     generalize (a.filter fun x => !(x == v)) = F at hfl hsm hR ⊢
     simp -implicitDefEqProofs only [go_sem, hlt]
     refine zaj (fun x : Nat × Nat × List Int => hd [(1, vT (zba b)), (2, vI v), (8, .one (.ow 736 x.2.1)), (10, vI x.1)] [] [(736, ⟨true, 1, x.2.2.map fun s => [.int .i64 s], x.2.1, true⟩)]) (fun x => x.1 <= b.length /\ zon v x.2.2 (b.drop x.1) = R /\ Sm x.2.2 /\ x.2.2.length <= a.length + x.1) (fun x => b.length - x.1) (0, F.length, F) (zac ?_) ?_ ?_
     ·simp -implicitDefEqProofs only [go_sem]
     ·exact ⟨Nat.zero_le _, hR, hsm, by simp only; omega⟩
     ·rintro ⟨j, gn, out⟩ ⟨hj, hr, hso, hlo⟩
      simp only at hj hr hso hlo
      by_cases hjl : j < b.length
      ·rw [List.drop_eq_getElem_cons hjl, zon] at hr
       have hbj := hb _ (List.getElem_mem hjl)
       have HA := zh4 out b[j]
       have HB := zh4 out (-b[j])
       have hwb : IntKind.i64.wrap (0 - b[j]) = -b[j] := by rw [zaq (by omega) (by omega)]; omega
       have HP := zvx out b[j] hso hbj (by omega)
       have hwj : IntKind.i64.wrap ((j : Int) + 1) = ((j + 1 : Nat) : Int) := zav (by omega)
       cases e1 : b[j] == -v
       ·rw [e1, Bool.false_or] at hr
        cases e2 : out.contains b[j]
        ·rw [e2, if_neg (by simp)] at hr
         rw [e2] at HA
         cases e3 : out.contains (-b[j])
         ·rw [e3, if_neg (by simp)] at hr
          rw [e3] at HB
          simp -implicitDefEqProofs only [go_sem, hjl, zaf]
          rw [hwn]
          simp -implicitDefEqProofs only [go_sem, e1, hjl, zaf]
          refine callF (HA) (by simp -implicitDefEqProofs only [go_sem, hjl, zaf]) ?_
          simp -implicitDefEqProofs only [go_sem, hjl, zaf]
          rw [hwb]
          refine callF (HB) (by simp -implicitDefEqProofs only [go_sem, hjl, zaf]) ?_
          simp -implicitDefEqProofs only [go_sem, hjl, zaf]
          refine callF (HP) (by simp -implicitDefEqProofs only [go_sem]) ?_
          simp -implicitDefEqProofs only [go_sem]
          rw [hwj]
          refine ⟨(j + 1, 0, zgh out b[j]), ⟨hjl, hr, ?_, ?_⟩, by simp only; omega, ztw 736 2464 ?_⟩
          ·intro l hl
           rcases zhp.1 hl with rfl | hl
           ·exact hbj
           ·exact hso l hl
          ·simp only; rw [zka]; omega
          ·simp -implicitDefEqProofs only [go_sem]
         ·rw [e3, if_pos rfl] at hr
          rw [e3] at HB
          subst hr
          simp -implicitDefEqProofs only [go_sem, hjl, zaf]
          rw [hwn]
          simp -implicitDefEqProofs only [go_sem, e1, hjl, zaf]
          refine callF (HA) (by simp -implicitDefEqProofs only [go_sem, hjl, zaf]) ?_
          simp -implicitDefEqProofs only [go_sem, hjl, zaf]
          rw [hwb]
          refine callF (HB) (by simp -implicitDefEqProofs only [go_sem]) ?_
          simp -implicitDefEqProofs only [go_sem]
          refine zb4 (by simp -implicitDefEqProofs only [go_sem]) ?_
          simp -implicitDefEqProofs only [go_sem]
        ·rw [e2, if_pos rfl] at hr
         rw [e2] at HA
         simp -implicitDefEqProofs only [go_sem, hjl, zaf]
         rw [hwn]
         simp -implicitDefEqProofs only [go_sem, e1, hjl, zaf]
         refine callF (HA) (by simp -implicitDefEqProofs only [go_sem]) ?_
         simp -implicitDefEqProofs only [go_sem]
         rw [hwj]
         refine ⟨(j + 1, gn, out), ⟨hjl, hr, hso, by simp only; omega⟩, by simp only; omega, zac ?_⟩
         simp -implicitDefEqProofs only [go_sem]
       ·rw [e1, Bool.true_or, if_pos rfl] at hr
        simp -implicitDefEqProofs only [go_sem, hjl, zaf]
        rw [hwn]
        simp -implicitDefEqProofs only [go_sem, e1]
        rw [hwj]
        refine ⟨(j + 1, gn, out), ⟨hjl, hr, hso, by simp only; omega⟩, by simp only; omega, zac ?_⟩
        simp -implicitDefEqProofs only [go_sem]
      ·rw [List.drop_of_length_le (by omega)] at hr
       have hr : (out, true) = R := hr
       subst hr
       simp -implicitDefEqProofs only [go_sem, hjl]
end Go.Proofs.Yteeaofpphmhjdaa
namespace Go.Proofs.Yteeaofpphmhjdaa
set_option linter.unusedSimpArgs false
set_option linter.unusedVariables false
set_option linter.unusedSectionVars false
set_option maxRecDepth 4000
open Go.RowKit
def rsO (a b : List Int) (v : Int) : List Int × Bool := if (pcl a && pcl b && inB v 1 12) = true then zfl a b v else ([], false)
theorem zji {a b : List Int} {v : Int} (h : (pcl a && pcl b && inB v 1 12 && a.contains v && b.contains (-v)) = false) : rsO a b v = ([], false) := by
 unfold rsO zfl
 split
 next h1 =>
  rw [h1, Bool.true_and] at h
  rw [if_neg (by rw [h]; simp)]
 next => rfl
set_option maxHeartbeats 2000000 in
theorem zj2 (a b : List Int) (v : Int) (hl : a.length + b.length <= 1073741824) : FC Try.prog 82 [.one (zba a), .one (zba b), iD v] [.one (zba (rsO a b v).1), bD (rsO a b v).2] := by
 have H1 := zci a
 have H2 := zci b
 have H3 := ze6 v
 have H4 := zb6 a v
 have H5 := zb6 b (-v)
 cases h1 : pcl a
 ·rw [zji (by rw [h1]; rfl)]
  rw [h1] at H1
  refine zay Try.call82 Try.func82 rfl (by kernel_rfl) (zbj (by kernel_rfl)) ?_
  simp -implicitDefEqProofs only [go_sem, Try.results82]
  refine callF (H1) (by simp -implicitDefEqProofs only [go_sem]) ?_
  simp -implicitDefEqProofs only [go_sem]
 ·rw [h1] at H1
  cases h2 : pcl b
  ·rw [zji (by rw [h1, h2]; rfl)]
   rw [h2] at H2
   refine zay Try.call82 Try.func82 rfl (by kernel_rfl) (zbj (by kernel_rfl)) ?_
   simp -implicitDefEqProofs only [go_sem, Try.results82]
   refine callF (H1) (by simp -implicitDefEqProofs only [go_sem]) ?_
   simp -implicitDefEqProofs only [go_sem]
   refine callF (H2) (by simp -implicitDefEqProofs only [go_sem]) ?_
   simp -implicitDefEqProofs only [go_sem]
  ·rw [h2] at H2
   cases h3 : inB v 1 12
   ·rw [zji (by rw [h1, h2, h3]; rfl)]
    rw [h3] at H3
    refine zay Try.call82 Try.func82 rfl (by kernel_rfl) (zbj (by kernel_rfl)) ?_
    simp -implicitDefEqProofs only [go_sem, Try.results82]
    refine callF (H1) (by simp -implicitDefEqProofs only [go_sem]) ?_
    simp -implicitDefEqProofs only [go_sem]
    refine callF (H2) (by simp -implicitDefEqProofs only [go_sem]) ?_
    simp -implicitDefEqProofs only [go_sem]
    refine callF (H3) (by simp -implicitDefEqProofs only [go_sem]) ?_
    simp -implicitDefEqProofs only [go_sem]
   ·rw [h3] at H3
    have hv : 1 <= v /\ v <= 12 := by unfold inB at h3; simpa using h3
    have hwn : IntKind.i64.wrap (0 - v) = -v := by rw [zaq (by omega) (by omega)]; omega
    cases h4 : a.contains v
    ·rw [zji (by rw [h1, h2, h3, h4]; rfl)]
     rw [h4] at H4
     refine zay Try.call82 Try.func82 rfl (by kernel_rfl) (zbj (by kernel_rfl)) ?_
     simp -implicitDefEqProofs only [go_sem, Try.results82]
     refine callF (H1) (by simp -implicitDefEqProofs only [go_sem]) ?_
     simp -implicitDefEqProofs only [go_sem]
     refine callF (H2) (by simp -implicitDefEqProofs only [go_sem]) ?_
     simp -implicitDefEqProofs only [go_sem]
     refine callF (H3) (by simp -implicitDefEqProofs only [go_sem]) ?_
     simp -implicitDefEqProofs only [go_sem]
     refine callF (H4) (by simp -implicitDefEqProofs only [go_sem]) ?_
     simp -implicitDefEqProofs only [go_sem]
    ·rw [h4] at H4
     cases h5 : b.contains (-v)
     ·rw [zji (by rw [h1, h2, h3, h4, h5]; rfl)]
      rw [h5] at H5
      refine zay Try.call82 Try.func82 rfl (by kernel_rfl) (zbj (by kernel_rfl)) ?_
      simp -implicitDefEqProofs only [go_sem, Try.results82]
      refine callF (H1) (by simp -implicitDefEqProofs only [go_sem]) ?_
      simp -implicitDefEqProofs only [go_sem]
      refine callF (H2) (by simp -implicitDefEqProofs only [go_sem]) ?_
      simp -implicitDefEqProofs only [go_sem]
      refine callF (H3) (by simp -implicitDefEqProofs only [go_sem]) ?_
      simp -implicitDefEqProofs only [go_sem]
      refine callF (H4) (by simp -implicitDefEqProofs only [go_sem]) ?_
      simp -implicitDefEqProofs only [go_sem]
      rw [hwn]
      refine callF (H5) (by simp -implicitDefEqProofs only [go_sem]) ?_
      simp -implicitDefEqProofs only [go_sem]
     ·rw [h5] at H5
      have hO : rsO a b v = zfl a b v := by unfold rsO; rw [h1, h2, h3]; rfl
      rw [hO]
      have hres := zua h1 h2 hv.1 (List.contains_iff_mem.1 h4) (List.contains_iff_mem.1 h5)
      have hpc := zl6 h1 h2 v
      have hC := zk2 a b (by have := zef h1; have := zef h2; omega)
      have hla := zef h1
      have hlb := zef h2
      have hsm : Sm (a ++ b) := fun l hl => by
       rcases List.mem_append.1 hl with hl | hl
       ·exact zil h1 l hl
       ·exact zil h2 l hl
      have hlen : (a ++ b).length <= 24 := by simp; omega
      obtain ⟨R, hR⟩ : ∃ R, zse v [] (a ++ b) = R := ⟨_, rfl⟩
      rw [hR] at hres
      generalize a ++ b = C at hC hsm hlen hR
      refine zay Try.call82 Try.func82 rfl (by kernel_rfl) (zbj (by kernel_rfl)) ?_
      simp -implicitDefEqProofs only [go_sem, Try.results82]
      refine callF (H1) (by simp -implicitDefEqProofs only [go_sem]) ?_
      simp -implicitDefEqProofs only [go_sem]
      refine callF (H2) (by simp -implicitDefEqProofs only [go_sem]) ?_
      simp -implicitDefEqProofs only [go_sem]
      refine callF (H3) (by simp -implicitDefEqProofs only [go_sem]) ?_
      simp -implicitDefEqProofs only [go_sem]
      refine callF (H4) (by simp -implicitDefEqProofs only [go_sem]) ?_
      simp -implicitDefEqProofs only [go_sem]
      rw [hwn]
      refine callF (H5) (by simp -implicitDefEqProofs only [go_sem]) ?_
      simp -implicitDefEqProofs only [go_sem]
      refine zb4 (by simp -implicitDefEqProofs only [go_sem]) ?_
      simp -implicitDefEqProofs only [go_sem]
      refine zx5 (by simp -implicitDefEqProofs only [go_sem]) ?_
      simp -implicitDefEqProofs only [go_sem]
      refine callF (hC) (by simp -implicitDefEqProofs only [go_sem]) ?_
      simp -implicitDefEqProofs only [go_sem]
      refine zaj (fun x : Nat × List Int => hd [(2, vI v), (8, .one (.ow 1184 x.2.length)), (41, .one (.ow 1312 0)), (42, vI C.length), (43, vI x.1)] [] [(1184, ⟨true, 1, x.2.map fun s => [.int .i64 s], x.2.length, true⟩), (1312, ⟨true, 1, C.map fun s => [.int .i64 s], 0, true⟩)]) (fun x => x.1 <= C.length /\ zse v x.2 (C.drop x.1) = R /\ x.2.length <= x.1) (fun x => C.length - x.1) (0, []) (zac ?_) ?_ ?_
      ·simp -implicitDefEqProofs only [go_sem]
      ·exact ⟨Nat.zero_le _, hR, Nat.le_refl _⟩
      ·rintro ⟨j, out⟩ ⟨hj, hr, hlo⟩
       simp only at hj hr hlo
       by_cases hjl : j < C.length
       ·rw [List.drop_eq_getElem_cons hjl, zse] at hr
        have hcj := hsm _ (List.getElem_mem hjl)
        have HA := zb6 out C[j]
        have HB := zb6 out (-C[j])
        have hwb : IntKind.i64.wrap (0 - C[j]) = -C[j] := by rw [zaq (by omega) (by omega)]; omega
        have hwj : IntKind.i64.wrap ((j : Int) + 1) = ((j + 1 : Nat) : Int) := zav (by omega)
        have hol : out.length <= 4294967295 := by omega
        cases e1 : C[j] == v
        ·cases e2 : C[j] == -v
         ·rw [e1, e2, Bool.false_or, Bool.false_or] at hr
          cases e3 : out.contains C[j]
          ·rw [e3, if_neg (by simp)] at hr
           rw [e3] at HA
           cases e4 : out.contains (-C[j])
           ·rw [e4, if_neg (by simp)] at hr
            rw [e4] at HB
            simp -implicitDefEqProofs only [go_sem, hjl, zaf, e1]
            rw [hwn]
            simp -implicitDefEqProofs only [go_sem, e2]
            refine callF (HA) (by simp -implicitDefEqProofs only [go_sem]) ?_
            simp -implicitDefEqProofs only [go_sem]
            rw [hwb]
            refine callF (HB) (by simp -implicitDefEqProofs only [go_sem]) ?_
            simp -implicitDefEqProofs only [go_sem]
            refine zb4 (by simp -implicitDefEqProofs only [go_sem]) ?_
            simp -implicitDefEqProofs only [go_sem]
            refine apD true (by simp -implicitDefEqProofs only [go_sem, ne_eq, List.length_map, hol]) ?_
            simp -implicitDefEqProofs only [go_sem, ne_eq, List.length_map, hol]
            rw [hwj]
            refine ⟨(j + 1, out ++ [C[j]]), ⟨hjl, hr, by simp; omega⟩, by simp only; omega, zac ?_⟩
            simp -implicitDefEqProofs only [go_sem]
            rw [List.map_append]
            rfl
           ·rw [e4, if_pos rfl] at hr
            rw [e4] at HB
            subst hr
            have hres : zfl a b v = ([], false) := hres
            rw [hres]
            simp -implicitDefEqProofs only [go_sem, hjl, zaf, e1]
            rw [hwn]
            simp -implicitDefEqProofs only [go_sem, e2]
            refine callF (HA) (by simp -implicitDefEqProofs only [go_sem]) ?_
            simp -implicitDefEqProofs only [go_sem]
            rw [hwb]
            refine callF (HB) (by simp -implicitDefEqProofs only [go_sem]) ?_
            simp -implicitDefEqProofs only [go_sem]
          ·rw [e3, if_pos rfl] at hr
           rw [e3] at HA
           simp -implicitDefEqProofs only [go_sem, hjl, zaf, e1]
           rw [hwn]
           simp -implicitDefEqProofs only [go_sem, e2]
           refine callF (HA) (by simp -implicitDefEqProofs only [go_sem]) ?_
           simp -implicitDefEqProofs only [go_sem]
           rw [hwj]
           refine ⟨(j + 1, out), ⟨hjl, hr, by simp only; omega⟩, by simp only; omega, zac ?_⟩
           simp -implicitDefEqProofs only [go_sem]
         ·rw [e1, e2, Bool.false_or, Bool.true_or, if_pos rfl] at hr
          simp -implicitDefEqProofs only [go_sem, hjl, zaf, e1]
          rw [hwn]
          simp -implicitDefEqProofs only [go_sem, e2]
          rw [hwj]
          refine ⟨(j + 1, out), ⟨hjl, hr, by simp only; omega⟩, by simp only; omega, zac ?_⟩
          simp -implicitDefEqProofs only [go_sem]
        ·rw [e1, Bool.true_or, Bool.true_or, if_pos rfl] at hr
         simp -implicitDefEqProofs only [go_sem, hjl, zaf, e1]
         rw [hwj]
         refine ⟨(j + 1, out), ⟨hjl, hr, by simp only; omega⟩, by simp only; omega, zac ?_⟩
         simp -implicitDefEqProofs only [go_sem]
       ·rw [List.drop_of_length_le (by omega)] at hr
        have hr : some out = R := hr
        subst hr
        obtain ⟨o, ho, hpo, hro⟩ := (show ∃ o, zfl a b v = (o, true) /\ out.Perm o /\ Ris o from hres)
        rw [ho] at hpc ⊢
        have HS := zyq out o hpo hro (zil hpc) (by omega)
        simp -implicitDefEqProofs only [go_sem, hjl]
        refine callIs (HS) (by simp -implicitDefEqProofs only [go_sem]) (by simp -implicitDefEqProofs only [go_sem]) rfl ?_
        simp -implicitDefEqProofs only [go_sem]
end Go.Proofs.Yteeaofpphmhjdaa
namespace Go.Proofs.Yteeaofpphmhjdaa
set_option linter.unusedSimpArgs false
set_option linter.unusedVariables false
set_option linter.unusedSectionVars false
set_option maxRecDepth 4000
open Go.RowKit
def zgg : Int -> Nat -> Int × Nat
 | o0, k => (((k : Nat) : Int), (k + 1))
def zcd : List Int -> Nat -> List Int × Nat
 | [], k => ([], k)
 | a :: xs, k => ((zgg a k).1 :: (zcd xs (zgg a k).2).1, (zcd xs (zgg a k).2).2)
def zir : Int -> Nat
 | _ => 1 + 1
def zh5 : List Int -> Nat
 | [] => 0
 | a :: xs => zir a + zh5 xs
theorem zv2 : ∀ (a : Int) (k : Nat), k <= (zgg a k).2 /\ (zgg a k).2 <= k + zir a
 | o0, k => by simp only [zgg, zir]; omega
theorem zep : ∀ (xs : List Int) (k : Nat), k <= (zcd xs k).2 /\ (zcd xs k).2 <= k + zh5 xs
 | [], k => ⟨Nat.le_refl _, Nat.le_refl _⟩
 | a :: xs, k => by have h1 := zv2 a k; have h2 := zep xs (zgg a k).2; simp only [zcd, zh5]; omega
theorem zia : ∀ xs : List Int, xs.length <= zh5 xs
 | [] => Nat.le_refl _
 | a :: xs => by
  have := zia xs
  have : 1 <= zir a := by simp only [zir]; omega
  simp only [List.length_cons, zh5]; omega
theorem zkf (xs : List Int) :
  ∀ k : Nat, 0 < k -> k + zh5 xs <= 4611686018427387904 -> IC Try.prog 40 [] (.one (zba xs)) [iD k] (.one (zba (zcd xs k).1)) [iD (zcd xs k).2] := by
 intro k h0 hk
 refine zsi Try.call40 Try.func40 rfl (by kernel_rfl) (by simp only [zdj, rd, List.map_cons, List.map_nil, List.nil_append, List.length_cons, List.length_nil, Try.ntmps40]; omega) (by simp only [Try.ntmps40]; omega) (fun vs => ?_)
 simp -implicitDefEqProofs only [go_sem, Try.results40, zwc, znm, zdj, PI]
 refine zaj (fun (x : List Int × List Int × Nat) => hd [(0, .one (.ow 0 0)), (1000000, .one (.ow 0 0)), (1, vI x.2.2), (5, vI x.1.length)] [] [(0, ⟨true, 1, x.1.map (fun s => [T.int .i64 s]) ++ zdn vs x.1.length (x.2.1.map (fun s => [T.int .i64 s])), 0, true⟩)])
  (fun x => (zcd xs k).1 = x.1 ++ (zcd x.2.1 x.2.2).1 /\ (zcd xs k).2 = (zcd x.2.1 x.2.2).2 /\ 0 < x.2.2 /\ x.2.2 + zh5 x.2.1 <= 4611686018427387904 /\ x.1.length + x.2.1.length = xs.length /\ ∀ a ∈ x.2.1, a ∈ xs) (fun x => x.2.1.length) ([], xs, k) (zac ?_) ?_ ?_
 ·simp -implicitDefEqProofs only [go_sem]
 ·exact ⟨rfl, rfl, h0, hk, by simp, fun _ h => h⟩
 ·intro ⟨dn, rest, kk⟩ ⟨h1, h2, h3, h4, h6, h5⟩
  simp only at h1 h2 h3 h4 h5 h6
  cases rest with
  | nil =>
   simp only [zcd, List.append_nil] at h1 h2
   simp -implicitDefEqProofs only [go_sem, h1, h2]
  | cons o0 rest =>
   simp only [zcd, zgg, zh5, zir] at h1 h2 h4
   have w0 : IntKind.i64.wrap (((kk : Nat) : Int) + 1) = ((kk + 1 : Nat) : Int) := zav (by omega)
   have hln := zia xs
   rw [List.length_cons] at h6
   have wl : IntKind.i64.wrap ((dn.length : Int) + 1) = ((dn.length + 1 : Nat) : Int) := zav (by omega)
   simp -implicitDefEqProofs only [go_sem, List.map_cons]
   refine zcm (by simp -implicitDefEqProofs only [go_sem, implies_true, w0]) ?_
   simp -implicitDefEqProofs only [go_sem, implies_true, w0]
   refine ⟨(dn ++ [((kk : Nat) : Int)], rest, (kk + 1)), ⟨by simpa using h1, h2, by show 0 < (kk + 1); omega, by show (kk + 1) + zh5 rest <= _; omega, by simp; omega, fun b hb => h5 b (by simp [hb])⟩, by simp, zac ?_⟩
   simp -implicitDefEqProofs only [go_sem, wl, List.map_cons, List.map_append, List.append_assoc]
theorem zgr (xs : List Int) (k : Nat) (h0 : 0 < k) (hk : k + zh5 xs <= 4611686018427387904) : IC Try.prog 40 [] (.one (zba xs)) [iD k] (.one (zba (zcd xs k).1)) [iD (zcd xs k).2] := zkf xs k h0 hk
theorem zk1 (xs : List Int) :
  ∀ k : Nat, 0 < k -> k + zh5 xs <= 4611686018427387904 -> FC Try.prog 41 [.one (zba (zcd xs k).1), iD k] [iD (zcd xs k).2] := by
 intro k h0 hk
 refine zay Try.call41 Try.func41 rfl (by kernel_rfl) (zbj (by kernel_rfl)) ?_
 simp -implicitDefEqProofs only [go_sem, Try.results41]
 refine zaj (fun (x : List Int × List Int × Nat) => hd [(0, vT (.sl 1 (x.1.map (fun s => [T.int .i64 s]) ++ (zcd x.2.1 x.2.2).1.map (fun s => [T.int .i64 s])))), (1, vI x.2.2), (5, vI x.1.length)] [] [])
  (fun x => (zcd xs k).1 = x.1 ++ (zcd x.2.1 x.2.2).1 /\ (zcd xs k).2 = (zcd x.2.1 x.2.2).2 /\ 0 < x.2.2 /\ x.2.2 + zh5 x.2.1 <= 4611686018427387904 /\ x.1.length + x.2.1.length = xs.length /\ ∀ a ∈ x.2.1, a ∈ xs) (fun x => x.2.1.length) ([], xs, k) (zac ?_) ?_ ?_
 ·simp -implicitDefEqProofs only [go_sem]
 ·exact ⟨rfl, rfl, h0, hk, by simp, fun _ h => h⟩
 ·intro ⟨dn, rest, kk⟩ ⟨h1, h2, h3, h4, h6, h5⟩
  simp only at h1 h2 h3 h4 h5 h6
  cases rest with
  | nil =>
   simp only [zcd, List.append_nil] at h1 h2
   simp -implicitDefEqProofs only [go_sem, h2, zcd]
  | cons o0 rest =>
   simp only [zcd, zgg, zh5, zir] at h1 h2 h4
   have w0 : IntKind.i64.wrap (((kk : Nat) : Int) + 1) = ((kk + 1 : Nat) : Int) := zav (by omega)
   have hln := zia xs
   rw [List.length_cons] at h6
   have wl : IntKind.i64.wrap ((dn.length : Int) + 1) = ((dn.length + 1 : Nat) : Int) := zav (by omega)
   simp -implicitDefEqProofs only [go_sem, zcd, zgg, List.map_cons]
   simp only [bne_self_eq_false]
   simp -implicitDefEqProofs only [go_sem, w0]
   refine ⟨(dn ++ [((kk : Nat) : Int)], rest, (kk + 1)), ⟨by simpa using h1, h2, by show 0 < (kk + 1); omega, by show (kk + 1) + zh5 rest <= _; omega, by simp; omega, fun b hb => h5 b (by simp [hb])⟩, by simp, zac ?_⟩
   simp -implicitDefEqProofs only [go_sem, wl, List.map_cons, List.map_append, List.append_assoc]
theorem zn6 (xs : List Int) (k : Nat) (h0 : 0 < k) (hk : k + zh5 xs <= 4611686018427387904) : FC Try.prog 41 [.one (zba (zcd xs k).1), iD k] [iD (zcd xs k).2] := zk1 xs k h0 hk
theorem zll (xs ys : List Int) : FC Try.prog 35 [.one (zba xs), .one (zba ys)] [bD (same xs ys)] := by
 refine zd2 (fun hw => ?_) Try.call35
 have hl : xs.length <= 9223372036854775807 := by simpa [zl1, wfT] using hw.1.1
 have hl2 : ys.length <= 9223372036854775807 := by simpa [zl1, wfT] using hw.2.1.1
 refine zay Try.call35 Try.func35 rfl (by kernel_rfl) (zbj (by kernel_rfl)) ?_
 simp -implicitDefEqProofs only [go_sem, Try.results35]
 refine ⟨fun h => ?_, fun h => ?_⟩
 ·rw [zb2.2 (by rintro rfl; simp at h)]
 ·have hlen : xs.length = ys.length := by simp at h; omega
  refine zaj (fun k : Nat => hd [(0, vT (zba xs)), (1, vT (zba ys)), (4, vB false), (5, vI k)] [] []) (fun k => k <= xs.length /\ same xs ys = same (xs.drop k) (ys.drop k)) (fun k => xs.length - k) 0 (zac ?_) ?_ ?_
  ·simp -implicitDefEqProofs only [go_sem]
  ·simp
  ·intro k ⟨hk, hr⟩
   by_cases hlt : k < xs.length
   ·have hk2 : k < ys.length := by omega
    simp -implicitDefEqProofs only [go_sem, List.length_map, hlt]
    refine drawn (by kernel_rfl) ?_
    simp -implicitDefEqProofs only [go_sem, List.length_map, zaf, hlt, hk2]
    refine ⟨by kernel_rfl, fun h => ?_, fun h => ?_⟩
    ·rw [hr, List.drop_eq_getElem_cons hlt, List.drop_eq_getElem_cons hk2, zcl, show same xs[k] ys[k] = false from zb2.2 (by simpa using h)]; rfl
    ·rw [List.drop_eq_getElem_cons hlt, List.drop_eq_getElem_cons hk2, zcl, show same xs[k] ys[k] = true from zb0.2 (by simpa using h), Bool.true_and] at hr
     rw [zav (by omega)]
     exact ⟨k + 1, ⟨by omega, hr⟩, by omega, zac (by simp -implicitDefEqProofs only [go_sem])⟩
   ·simp -implicitDefEqProofs only [go_sem, List.length_map, hlt]
    rw [hr, List.drop_of_length_le (by omega), List.drop_of_length_le (by omega), zvq]
theorem zld : ∀ xs : List Int, zh5 xs = 2 * xs.length
 | [] => rfl
 | a :: xs => by rw [zh5, zld xs, zir, List.length_cons]; omega
end Go.Proofs.Yteeaofpphmhjdaa
namespace Go.Proofs.Yteeaofpphmhjdaa
set_option linter.unusedSimpArgs false
set_option linter.unusedVariables false
set_option linter.unusedSectionVars false
set_option maxRecDepth 4000
open Go.RowKit
def Ps.wt (s : Ps) : Nat := s.c.length
def zb3 (xs : List (List Int)) : Nat := xs.length + (xs.map List.length).sum
def zaw (xs : List Ps) : Nat := xs.length + (xs.map Ps.wt).sum
theorem zm5 (xs : List Int) (l : Int) (h0 : 0 <= l) (h1 : l <= 1048576) : FC Try.prog 86 [.one (zba xs), iD l] [iD (szR xs.length l)] := by
 refine zd2 (fun hw => ?_) Try.call86
 have hl : xs.length <= 9223372036854775807 := by have := hw.1.1; simpa using this
 refine zay Try.call86 Try.func86 rfl (by kernel_rfl) (zbj (by kernel_rfl)) ?_
 simp -implicitDefEqProofs only [go_sem, Try.results86]
 rw [zaq (by omega) (by omega)]
 refine ⟨fun h => ?_, fun h => ?_⟩
 ·rw [zeq (by simp at h; omega)]
 ·rw [zs3 (by simp at h; omega)]
theorem zjw (a : Ps) (l : Int) (h0 : 0 <= l) (h1 : l <= 1048576) : FC Try.prog 87 [psD a, iD l] [iD (szR a.wt l)] := by
 have H := zm5 a.c l h0 h1
 unfold Ps.wt
 simp only [psD, zaz]
 refine zay Try.call87 Try.func87 rfl (by kernel_rfl) (zbj (by kernel_rfl)) ?_
 simp -implicitDefEqProofs only [go_sem, Try.results87]
 refine callF (H) (by simp -implicitDefEqProofs only [go_sem]) ?_
 simp -implicitDefEqProofs only [go_sem]
 refine ⟨fun h => ?_, fun h => ?_⟩
 ·have := zku h0 (by simpa using h)
  rw [zeq (by omega)]
 ·trivial
theorem zmo (xs : List Int) (hs : xs.length <= 1048576) : FC Try.prog 91 [.one (zba xs)] [.one (zba xs)] := by
 refine zay Try.call91 Try.func91 rfl (by kernel_rfl) (zbj (by kernel_rfl)) ?_
 simp -implicitDefEqProofs only [go_sem, Try.results91]
 refine zn9 (by simp -implicitDefEqProofs only [go_sem]; omega) ?_
 simp -implicitDefEqProofs only [go_sem]
 refine zaj (fun k : Nat => hd [(0, vT (zba xs)), (3, .one (.ow 224 0)), (4, vI k)] [] [(224, ⟨true, 1, (xs.take k).map (fun s => [.int .i64 s]) ++ List.replicate (xs.length - k) [T.int .i64 0], 0, true⟩)]) (fun k => k <= xs.length) (fun k => xs.length - k) 0 (zac ?_) (Nat.zero_le _) ?_
 ·simp -implicitDefEqProofs only [go_sem]
  simp
 ·intro k hk
  by_cases hlt : k < xs.length
  ·have hlen : ((xs.take k).map (fun s => [T.int .i64 s]) ++ List.replicate (xs.length - k) [T.int .i64 0]).length = xs.length := by simp; omega
   have hlt2 : k < k + (xs.length - k) := by omega
   simp -implicitDefEqProofs only [go_sem, List.length_map, zaf, hlt, hlen, List.length_append, List.length_take, List.length_replicate, Nat.min_eq_left hk, hlt2]
   refine zcm (by simp -implicitDefEqProofs only [go_sem]; simp) ?_
   simp -implicitDefEqProofs only [go_sem]
   rw [zav (by omega)]
   refine ⟨k + 1, by omega, by omega, zac ?_⟩
   simp -implicitDefEqProofs only [go_sem]
   have hf := zfr ((xs.take k).map fun s => [T.int .i64 s]) xs.length k [T.int .i64 0] [T.int .i64 xs[k]] (by simp; omega) hlt (by simp)
   rw [hf, List.take_succ_eq_append_getElem hlt, List.map_append, List.map_singleton]
  ·simp -implicitDefEqProofs only [go_sem, List.length_map, hlt]
   simp [List.take_of_length_le (show xs.length <= k by omega), show xs.length - k = 0 by omega]
theorem zjt (a : Ps) (hs : a.wt <= 1048576) : FC Try.prog 92 [psD a] [psD a] := by
 have H := zmo a.c hs
 simp only [psD, zaz]
 refine zay Try.call92 Try.func92 rfl (by kernel_rfl) (zbj (by kernel_rfl)) ?_
 simp -implicitDefEqProofs only [go_sem, Try.results92]
 refine callF (H) (by simp -implicitDefEqProofs only [go_sem]) ?_
 simp -implicitDefEqProofs only [go_sem]
theorem zin (a b : Ps) : FC Try.prog 93 [psD a, psD b] [bD (same a b)] := by
 have H := zll a.c b.c
 simp only [psD, zaz]
 obtain ⟨l1, r1, p1, c1⟩ := a
 obtain ⟨l2, r2, p2, c2⟩ := b
 simp only at H ⊢
 refine zay Try.call93 Try.func93 rfl (by kernel_rfl) (zbj (by kernel_rfl)) ?_
 simp -implicitDefEqProofs only [go_sem, Try.results93]
 refine ⟨fun h1 => ?_, fun h1 => ⟨fun h2 => ?_, fun h2 => ⟨fun h3 => ?_, fun h3 => ?_⟩⟩⟩
 ·rw [zb2.2 (by rintro e; cases e; simp at h1)]
 ·rw [zb2.2 (by rintro e; cases e; simp at h2)]
 ·rw [zb2.2 (by rintro e; cases e; simp at h3)]
 ·refine callF (H) (by simp -implicitDefEqProofs only [go_sem]) ?_
  simp -implicitDefEqProofs only [go_sem]
  refine ⟨fun h4 => ?_, fun h4 => ?_⟩
  ·rw [zb2.2 (by rintro e; cases e; simp [za1] at h4)]
  ·rw [zb0.2 (by simp [zb0] at h1 h2 h3 h4 ⊢; exact ⟨h1, h2, h3, h4⟩)]
theorem zo2 (xs : List (List Int)) (l : Int) (h0 : 0 <= l) (h1 : l <= 1048576) : FC Try.prog 30 [.one (za6 xs), iD l] [iD (szR (zb3 xs) l)] := by
 refine zd2 (fun hw => ?_) Try.call30
 have hl : xs.length <= 9223372036854775807 := by simpa [zl1, wfT] using hw.1.1
 refine zay Try.call30 Try.func30 rfl (by kernel_rfl) (zbj (by kernel_rfl)) ?_
 simp -implicitDefEqProofs only [go_sem, Try.results30]
 rw [zaq (by omega) (by omega)]
 have hW : zb3 xs = xs.length + (xs.map List.length).sum := rfl
 refine ⟨fun h => ?_, fun h => ?_⟩
 ·rw [zeq (by simp at h; omega)]
 ·have hlen : (xs.length : Int) <= l := by simp at h; omega
  refine zaj (fun k : Nat => hd [(0, vT (za6 xs)), (1, vI (l - xs.length - zkp List.length xs k)), (5, vI k)] [] []) (fun k => k <= xs.length /\ 0 <= l - xs.length - zkp List.length xs k) (fun k => xs.length - k) 0 (zac ?_) ?_ ?_
  ·simp -implicitDefEqProofs only [go_sem]
   simp [zd4]
  ·simpa [zd4] using hlen
  ·intro k ⟨hk, hp⟩
   by_cases hlt : k < xs.length
   ·have hs := zis List.length xs k hlt
    have hs2 := zss List.length xs (k + 1)
    simp -implicitDefEqProofs only [go_sem, List.length_map, zaf, hlt]
    refine callF (zm5 xs[k] (l - xs.length - zkp List.length xs k) hp (by omega)) (by simp -implicitDefEqProofs only [go_sem]) ?_
    simp -implicitDefEqProofs only [go_sem]
    refine ⟨fun h => ?_, fun h => ?_⟩
    ·have := zku hp (by simpa using h)
     rw [zeq (by omega)]
    ·obtain ⟨h2, h3⟩ := zhc (by simpa using h)
     rw [zav (by omega)]
     exact ⟨k + 1, ⟨hlt, by omega⟩, by omega, zac (by simp -implicitDefEqProofs only [go_sem]; rw [h3]; congr 1; omega)⟩
   ·simp -implicitDefEqProofs only [go_sem, List.length_map, hlt]
    have hall := zlm List.length xs k (by omega)
    rw [hall, zs3 (by omega)]; congr 1; omega
set_option maxHeartbeats 400000 in
theorem zps (xs : List (List Int)) (hs : zb3 xs <= 1048576) : FC Try.prog 33 [.one (za6 xs)] [.one (za6 xs)] := by
 have hW : zb3 xs = xs.length + (xs.map List.length).sum := rfl
 refine zay Try.call33 Try.func33 rfl (by kernel_rfl) (zbj (by kernel_rfl)) ?_
 simp -implicitDefEqProofs only [go_sem, Try.results33]
 refine zn9 (by simp -implicitDefEqProofs only [go_sem]; omega) ?_
 simp -implicitDefEqProofs only [go_sem]
 refine zaj (fun k : Nat => hd [(0, vT (za6 xs)), (3, .one (.ow 224 0)), (4, vI k)] [] [(224, ⟨true, 1, (xs.take k).map (fun s => [zba s]) ++ List.replicate (xs.length - k) [T.sl 1 []], 0, true⟩)]) (fun k => k <= xs.length) (fun k => xs.length - k) 0 (zac ?_) (Nat.zero_le _) ?_
 ·simp -implicitDefEqProofs only [go_sem]
  simp
 ·intro k hk
  by_cases hlt : k < xs.length
  ·have hlen : ((xs.take k).map (fun s => [zba s]) ++ List.replicate (xs.length - k) [T.sl 1 []]).length = xs.length := by simp; omega
   have hlt2 : k < k + (xs.length - k) := by omega
   have hmw := zrj List.length xs xs[k] (List.getElem_mem hlt)
   simp -implicitDefEqProofs only [go_sem, List.length_map, zaf, hlt]
   refine callF (zmo xs[k] (by omega)) (by simp -implicitDefEqProofs only [go_sem, hlen, hlt, List.length_append, List.length_map, List.length_take, List.length_replicate, Nat.min_eq_left hk, hlt2]) ?_
   simp -implicitDefEqProofs only [go_sem, hlen, hlt, List.length_append, List.length_map, List.length_take, List.length_replicate, Nat.min_eq_left hk, hlt2]
   refine zcm (by simp -implicitDefEqProofs only [go_sem]; simp) ?_
   simp -implicitDefEqProofs only [go_sem]
   rw [zav (by omega)]
   refine ⟨k + 1, by omega, by omega, zac ?_⟩
   simp -implicitDefEqProofs only [go_sem]
   have hf := zfr ((xs.take k).map (fun s => [zba s])) xs.length k [T.sl 1 []] [zba xs[k]] (by simp; omega) hlt (by simp)
   rw [hf, List.take_succ_eq_append_getElem hlt, List.map_append, List.map_singleton]
  ·simp -implicitDefEqProofs only [go_sem, List.length_map, hlt]
   simp [List.take_of_length_le (show xs.length <= k by omega), show xs.length - k = 0 by omega]
theorem zhr (xs : List Ps) (l : Int) (h0 : 0 <= l) (h1 : l <= 1048576) : FC Try.prog 31 [.one (psS xs), iD l] [iD (szR (zaw xs) l)] := by
 refine zd2 (fun hw => ?_) Try.call31
 have hl : xs.length <= 9223372036854775807 := by simpa [zl1, wfT] using hw.1.1
 refine zay Try.call31 Try.func31 rfl (by kernel_rfl) (zbj (by kernel_rfl)) ?_
 simp -implicitDefEqProofs only [go_sem, Try.results31]
 rw [zaq (by omega) (by omega)]
 have hW : zaw xs = xs.length + (xs.map Ps.wt).sum := rfl
 refine ⟨fun h => ?_, fun h => ?_⟩
 ·rw [zeq (by simp at h; omega)]
 ·have hlen : (xs.length : Int) <= l := by simp at h; omega
  refine zaj (fun k : Nat => hd [(0, vT (psS xs)), (1, vI (l - xs.length - zkp Ps.wt xs k)), (5, vI k)] [] []) (fun k => k <= xs.length /\ 0 <= l - xs.length - zkp Ps.wt xs k) (fun k => xs.length - k) 0 (zac ?_) ?_ ?_
  ·simp -implicitDefEqProofs only [go_sem]
   simp [zd4]
  ·simpa [zd4] using hlen
  ·intro k ⟨hk, hp⟩
   by_cases hlt : k < xs.length
   ·have hs := zis Ps.wt xs k hlt
    have hs2 := zss Ps.wt xs (k + 1)
    simp -implicitDefEqProofs only [go_sem, List.length_map, zaf, hlt, zaz]
    refine callF (zjw xs[k] (l - xs.length - zkp Ps.wt xs k) hp (by omega)) (by simp -implicitDefEqProofs only [go_sem, zaz]) ?_
    simp -implicitDefEqProofs only [go_sem, zaz]
    refine ⟨fun h => ?_, fun h => ?_⟩
    ·have := zku hp (by simpa using h)
     rw [zeq (by omega)]
    ·obtain ⟨h2, h3⟩ := zhc (by simpa using h)
     rw [zav (by omega)]
     exact ⟨k + 1, ⟨hlt, by omega⟩, by omega, zac (by simp -implicitDefEqProofs only [go_sem]; rw [h3]; congr 1; omega)⟩
   ·simp -implicitDefEqProofs only [go_sem, List.length_map, hlt]
    have hall := zlm Ps.wt xs k (by omega)
    rw [hall, zs3 (by omega)]; congr 1; omega
set_option maxHeartbeats 400000 in
theorem zhk (xs : List Ps) (hs : zaw xs <= 1048576) : FC Try.prog 34 [.one (psS xs)] [.one (psS xs)] := by
 have hW : zaw xs = xs.length + (xs.map Ps.wt).sum := rfl
 refine zay Try.call34 Try.func34 rfl (by kernel_rfl) (zbj (by kernel_rfl)) ?_
 simp -implicitDefEqProofs only [go_sem, Try.results34]
 refine zn9 (by simp -implicitDefEqProofs only [go_sem]; omega) ?_
 simp -implicitDefEqProofs only [go_sem]
 refine zaj (fun k : Nat => hd [(0, vT (psS xs)), (3, .one (.ow 224 0)), (4, vI k)] [] [(224, ⟨true, 4, (xs.take k).map psC ++ List.replicate (xs.length - k) [T.int .i64 0, T.int .i64 0, T.int .i64 0, T.sl 1 []], 0, true⟩)]) (fun k => k <= xs.length) (fun k => xs.length - k) 0 (zac ?_) (Nat.zero_le _) ?_
 ·simp -implicitDefEqProofs only [go_sem]
  simp
 ·intro k hk
  by_cases hlt : k < xs.length
  ·have hlen : ((xs.take k).map psC ++ List.replicate (xs.length - k) [T.int .i64 0, T.int .i64 0, T.int .i64 0, T.sl 1 []]).length = xs.length := by simp; omega
   have hlt2 : k < k + (xs.length - k) := by omega
   have hmw := zrj Ps.wt xs xs[k] (List.getElem_mem hlt)
   simp -implicitDefEqProofs only [go_sem, List.length_map, zaf, hlt, zaz]
   refine callF (zjt xs[k] (by omega)) (by simp -implicitDefEqProofs only [go_sem, hlen, hlt, List.length_append, List.length_map, List.length_take, List.length_replicate, Nat.min_eq_left hk, hlt2, zaz]) ?_
   simp -implicitDefEqProofs only [go_sem, hlen, hlt, List.length_append, List.length_map, List.length_take, List.length_replicate, Nat.min_eq_left hk, hlt2, zaz]
   refine zcm (by simp -implicitDefEqProofs only [go_sem]; simp) ?_
   simp -implicitDefEqProofs only [go_sem]
   rw [zav (by omega)]
   refine ⟨k + 1, by omega, by omega, zac ?_⟩
   simp -implicitDefEqProofs only [go_sem]
   have hf := zfr ((xs.take k).map psC) xs.length k [T.int .i64 0, T.int .i64 0, T.int .i64 0, T.sl 1 []] (psC xs[k]) (by simp; omega) hlt (by simp [zaz])
   simp only [zaz] at hf
   rw [hf, List.take_succ_eq_append_getElem hlt, List.map_append, List.map_singleton]
   rfl
  ·simp -implicitDefEqProofs only [go_sem, List.length_map, hlt]
   simp [List.take_of_length_le (show xs.length <= k by omega), show xs.length - k = 0 by omega]
theorem zq9 (xs ys : List (List Int)) : FC Try.prog 36 [.one (za6 xs), .one (za6 ys)] [bD (same xs ys)] := by
 refine zd2 (fun hw => ?_) Try.call36
 have hl : xs.length <= 9223372036854775807 := by simpa [zl1, wfT] using hw.1.1
 by_cases hne : xs.length = ys.length
 ·have hni : ((xs.length : Int) != (ys.length : Int)) = false := by rw [hne]; simp
  refine zay Try.call36 Try.func36 rfl (by kernel_rfl) (zbj (by kernel_rfl)) ?_
  simp -implicitDefEqProofs only [go_sem, Try.results36, hni]
  refine zaj (fun k : Nat => hd [(0, vT (za6 xs)), (1, vT (za6 ys)), (5, vI k)] [] []) (fun k => k <= xs.length /\ same xs ys = same (xs.drop k) (ys.drop k)) (fun k => xs.length - k) 0 (zac ?_) ?_ ?_
  ·simp -implicitDefEqProofs only [go_sem]
  ·simp
  ·intro k ⟨hk, hr⟩
   by_cases hlt : k < xs.length
   ·have hlt2 : k < ys.length := by omega
    have hwk : IntKind.i64.wrap ((k : Int) + 1) = ((k + 1 : Nat) : Int) := zav (by omega)
    have HE := zll xs[k] ys[k]
    rw [List.drop_eq_getElem_cons hlt, List.drop_eq_getElem_cons hlt2, zcl] at hr
    simp -implicitDefEqProofs only [go_sem, hlt]
    refine drawn (by kernel_rfl) ?_
    simp -implicitDefEqProofs only [go_sem, zaf, hlt, hlt2]
    refine zc2 (HE) (by simp -implicitDefEqProofs only [go_sem]) ?_
    simp -implicitDefEqProofs only [go_sem]
    refine ⟨by kernel_rfl, ?_⟩
    rw [hwk]
    refine ⟨fun h => ?_, fun h => ⟨k + 1, ⟨hlt, ?_⟩, by omega, zac (by simp -implicitDefEqProofs only [go_sem])⟩⟩
    ·rw [hr, show same xs[k] ys[k] = false by simpa using h, Bool.false_and]
    ·rw [hr, show same xs[k] ys[k] = true by simpa using h, Bool.true_and]
   ·simp -implicitDefEqProofs only [go_sem, hlt]
    rw [hr, List.drop_of_length_le (by omega), List.drop_of_length_le (by omega), za1]
 ·have hni : ((xs.length : Int) != (ys.length : Int)) = true := by simp; omega
  refine zay Try.call36 Try.func36 rfl (by kernel_rfl) (zbj (by kernel_rfl)) ?_
  simp -implicitDefEqProofs only [go_sem, Try.results36, hni]
  rw [zb2.2 (fun e => hne (by rw [e]))]
theorem zdu (xs ys : List Ps) : FC Try.prog 37 [.one (psS xs), .one (psS ys)] [bD (same xs ys)] := by
 refine zd2 (fun hw => ?_) Try.call37
 have hl : xs.length <= 9223372036854775807 := by simpa [zl1, wfT] using hw.1.1
 by_cases hne : xs.length = ys.length
 ·have hni : ((xs.length : Int) != (ys.length : Int)) = false := by rw [hne]; simp
  refine zay Try.call37 Try.func37 rfl (by kernel_rfl) (zbj (by kernel_rfl)) ?_
  simp -implicitDefEqProofs only [go_sem, Try.results37, hni]
  refine zaj (fun k : Nat => hd [(0, vT (psS xs)), (1, vT (psS ys)), (5, vI k)] [] []) (fun k => k <= xs.length /\ same xs ys = same (xs.drop k) (ys.drop k)) (fun k => xs.length - k) 0 (zac ?_) ?_ ?_
  ·simp -implicitDefEqProofs only [go_sem]
  ·simp
  ·intro k ⟨hk, hr⟩
   by_cases hlt : k < xs.length
   ·have hlt2 : k < ys.length := by omega
    have hwk : IntKind.i64.wrap ((k : Int) + 1) = ((k + 1 : Nat) : Int) := zav (by omega)
    have HE := zin xs[k] ys[k]
    rw [List.drop_eq_getElem_cons hlt, List.drop_eq_getElem_cons hlt2, zcl] at hr
    simp -implicitDefEqProofs only [go_sem, hlt]
    refine drawn (by kernel_rfl) ?_
    simp -implicitDefEqProofs only [go_sem, zaf, hlt, hlt2, zaz]
    refine zc2 (HE) (by simp -implicitDefEqProofs only [go_sem, zaz]) ?_
    simp -implicitDefEqProofs only [go_sem, zaz]
    refine ⟨by kernel_rfl, ?_⟩
    rw [hwk]
    refine ⟨fun h => ?_, fun h => ⟨k + 1, ⟨hlt, ?_⟩, by omega, zac (by simp -implicitDefEqProofs only [go_sem])⟩⟩
    ·rw [hr, show same xs[k] ys[k] = false by simpa using h, Bool.false_and]
    ·rw [hr, show same xs[k] ys[k] = true by simpa using h, Bool.true_and]
   ·simp -implicitDefEqProofs only [go_sem, hlt]
    rw [hr, List.drop_of_length_le (by omega), List.drop_of_length_le (by omega), za1]
 ·have hni : ((xs.length : Int) != (ys.length : Int)) = true := by simp; omega
  refine zay Try.call37 Try.func37 rfl (by kernel_rfl) (zbj (by kernel_rfl)) ?_
  simp -implicitDefEqProofs only [go_sem, Try.results37, hni]
  rw [zb2.2 (fun e => hne (by rw [e]))]
end Go.Proofs.Yteeaofpphmhjdaa
