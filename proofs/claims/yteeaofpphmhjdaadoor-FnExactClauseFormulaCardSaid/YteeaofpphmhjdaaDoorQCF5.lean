/-
  The walk over plain data, and contracts of functions of the program and of its laws.
  Conditions: those that each theorem names.
-/
import Derived.Test.YteeaofpphmhjdaaDoorQCF4
import Derived.MapKept
import Derived.Lib.SliceRun
import Derived.Deep.LoopGhost
namespace Go.Proofs.YteeaofpphmhjdaaDoor
set_option linter.unusedSimpArgs false
set_option linter.unusedVariables false
set_option linter.unusedSectionVars false
set_option maxRecDepth 4000
open Go.RowKit
structure OF where
 op : Int
 name : Str
 a : Option Addr × Nat × Nat
 var : Str
 p : Option Addr × Nat × Nat
def ofC (x : OF) : List T := [.int .i64 x.op, .str x.name, .vs x.a.1 x.a.2.1 x.a.2.2, .str x.var, .vs x.p.1 x.p.2.1 x.p.2.2]
theorem zck (x : OF) : ofC x = [.int .i64 x.op, .str x.name, .vs x.a.1 x.a.2.1 x.a.2.2, .str x.var, .vs x.p.1 x.p.2.1 x.p.2.2] := rfl
def jnC (op : Int) : List OF -> List T
 | [] => []
 | [x] => ofC x
 | x :: xs => [.int .i64 op, .str [], .sl 2 [], .str [], .sl 5 [ofC x, jnC op xs]]
theorem zgs (op : Int) (x : OF) {xs : List OF} (h : xs ≠ []) : jnC op (x :: xs) = [.int .i64 op, .str [], .sl 2 [], .str [], .sl 5 [ofC x, jnC op xs]] := by
 cases xs with
 | nil => exact absurd rfl h
 | cons y ys => rfl
theorem zog (op : Int) (x y : OF) : FC Tryd.prog 40 [iD op, .agg (ofC x), .agg (ofC y)] [.agg [.int .i64 op, .str [], .sl 2 [], .str [], .sl 5 [ofC x, ofC y]]] := by
 simp only [zck]
 refine zbh Tryd.call40 Tryd.func40 rfl (by kernel_rfl) (zcr (by kernel_rfl)) ?_
 simp -implicitDefEqProofs only [go_sem, Tryd.results40]
 refine zcq (by simp -implicitDefEqProofs only [go_sem]) ?_
 simp -implicitDefEqProofs only [go_sem]
theorem zn1 (op o2 : Int) (x : OF) (R : List (List T)) : GC Tryd.prog 40 [(false, iD op), (false, .agg (ofC x)), (true, .agg [.int .i64 o2, .str [], .sl 2 [], .str [], .sl 5 R])] [.agg [.int .i64 op, .str [], .sl 2 [], .str [], .sl 5 [ofC x, [.int .i64 o2, .str [], .sl 2 [], .str [], .sl 5 R]]]] := by
 simp only [zck]
 refine zta Tryd.call40 Tryd.func40 rfl (by kernel_rfl) (by simp only [List.length_cons, List.length_nil, Tryd.ntmps40]; omega) (by simp [zb7, T.isPin]) ?_
 simp -implicitDefEqProofs only [go_sem, Tryd.results40]
 refine zcq (by simp -implicitDefEqProofs only [go_sem]) ?_
 simp -implicitDefEqProofs only [go_sem]
def cbH (op : Int) (xs : List OF) (z : OF) : Nat -> St
 | 0 => hd [(3, .one (.bx 3 0)), (6, .one (.bx 6 0)), (7, .one (.bx 7 0)), (25, .one (.fn 43 [25]))]
   [(3, [.t (.int .i64 op)]), (6, [.t (.int .i64 0), .t (.str []), .nl 2, .t (.str []), .nl 5]), (7, (ofC (xs.getD (xs.length - 1) z)).map .t), (25, [.rn (.sl 5 ((xs.map ofC).take (xs.length - 1)))])] []
 | k + 1 => hd [(3, .one (.bx 3 0)), (6, .one (.bx 6 0)), (7, .one (.bx 7 0)), (25, .one (.fn 43 [25]))]
   [(3, [.t (.int .i64 op)]), (6, [.t (.int .i64 0), .t (.str []), .nl 2, .t (.str []), .nl 5]), (7, [.t (.int .i64 op), .t (.str []), .ow 994 0, .t (.str []), .ow 996 0]), (25, [.rn (.sl 5 ((xs.map ofC).take (xs.length - 1)))])]
   [(994, ⟨true, 2, [], 0, true⟩), (996, ⟨true, 5, [ofC (xs.getD (xs.length - 1 - 1 - k) z), jnC op (xs.drop (xs.length - 1 - k))], 0, true⟩)]
set_option maxHeartbeats 1000000 in
theorem zga (op : Int) (xs : List OF) (z : OF) : FC Tryd.prog 29 [iD op, .one (.sl 5 (xs.map ofC)), .agg (ofC z)] [.agg (if xs = [] then ofC z else jnC op xs)] := by
 cases hx : xs with
 | nil =>
  simp only [if_true, List.map_nil, ofC]
  refine zmo Tryd.call29 Tryd.func29 rfl rfl (by kernel_rfl) (zcr (by kernel_rfl)) ?_
  simp -implicitDefEqProofs only [go_sem, Tryd.results29]
 | cons x0 r0 =>
  rw [<- hx]
  have hne : xs ≠ [] := by rw [hx]; simp
  have hn : 0 < xs.length := by rw [hx]; simp
  refine zk2 (fun hw => ?_) Tryd.call29
  have hl : xs.length <= 9223372036854775807 := by simpa [zph, wfT] using hw.2.1.1
  clear hw hx
  have e0 : ((xs.length : Int) == 0) = false := by simp; omega
  have e1 : IntKind.i64.wrap ((xs.length : Int) - 1) = ((xs.length - 1 : Nat) : Int) := by rw [zbs (by omega) (by omega)]; omega
  have hi : xs.length - 1 < xs.length := by omega
  rw [if_neg hne]
  simp only [ofC]
  refine zmo Tryd.call29 Tryd.func29 rfl rfl (by kernel_rfl) (zcr (by kernel_rfl)) ?_
  simp -implicitDefEqProofs only [go_sem, Tryd.results29, e0, e1, hi, zaz, List.length_map, zck]
  refine ⟨by omega, ?_⟩
  refine callB (sz := 5) (rows := (xs.map ofC).take (xs.length - 1)) zfy (by simp -implicitDefEqProofs only [go_sem]) ?_
  simp -implicitDefEqProofs only [go_sem]
  have hlen : ((xs.map ofC).take (xs.length - 1)).length = xs.length - 1 := by simp
  have hlast : xs.getD (xs.length - 1) z = xs[xs.length - 1] := by simp [hi]
  refine loopB zg9 Tryd.call43 25 (cbH op xs z) ((xs.map ofC).take (xs.length - 1)) (by kernel_rfl) rfl (fun k => by cases k <;> exact ⟨rfl, rfl⟩) (fun k => by cases k <;> exact ⟨rfl, rfl, rfl, rfl, rfl, rfl, rfl, trivial⟩) (zah (by simp -implicitDefEqProofs only [go_sem, hlast, zck])) ?_ ?_
  ·intro k hk
   rw [hlen] at hk ⊢
   have hrow : ((xs.map ofC).take (xs.length - 1)).getD (xs.length - 1 - 1 - k) [] = ofC (xs.getD (xs.length - 1 - 1 - k) z) := by
    have h1 : xs.length - 1 - 1 - k < xs.length - 1 := by omega
    have h2 : xs.length - 1 - 1 - k < xs.length := by omega
    simp [List.getD, List.getElem?_take, h1, h2]
   rw [hrow]
   have hd1 : xs.drop (xs.length - 1) = [xs.getD (xs.length - 1) z] := by
    rw [List.drop_eq_getElem_cons hi, List.drop_of_length_le (by omega), hlast]
   cases k with
   | zero =>
    simp only [cbH, zsy, if_true, Nat.sub_zero]
    simp -implicitDefEqProofs only [go_sem, zck, zsy, T.toN]
    refine callF (zog op (xs.getD (xs.length - 1 - 1) z) (xs.getD (xs.length - 1) z)) (by simp -implicitDefEqProofs only [go_sem, zck]) ?_
    simp -implicitDefEqProofs only [go_sem, zck]
    refine zah ?_
    rw [hd1]
    simp -implicitDefEqProofs only [go_sem, jnC, zck]
   | succ k =>
    have hdk : xs.drop (xs.length - 1 - (k + 1)) = xs.getD (xs.length - 1 - 1 - k) z :: xs.drop (xs.length - 1 - k) := by
     have h1 : xs.length - 1 - (k + 1) < xs.length := by omega
     rw [List.drop_eq_getElem_cons h1, show xs.length - 1 - (k + 1) + 1 = xs.length - 1 - k by omega]
     congr 1
     rw [show xs.length - 1 - 1 - k = xs.length - 1 - (k + 1) by omega]
     simp [h1]
    have hdn : xs.drop (xs.length - 1 - k) ≠ [] := by
     intro e
     have := congrArg List.length e
     simp at this; omega
    simp only [cbH, zsy, if_true]
    rw [hdk, zgs op _ hdn]
    generalize xs.getD (xs.length - 1 - 1 - (k + 1)) z = x
    generalize xs.getD (xs.length - 1 - 1 - k) z = y
    generalize jnC op (xs.drop (xs.length - 1 - k)) = J
    simp -implicitDefEqProofs only [go_sem, zck x, T.toN]
    refine zus [(28, vI op), (29, .agg ((ofC x).map .t)), (30, .agg [.t (.int .i64 op), .t (.str []), .ow 994 0, .t (.str []), .ow 996 0])]
     [(3, .one (.bx 3 0)), (6, .one (.bx 6 0)), (7, .one (.bx 7 0)), (25, .one (.fn 43 [25]))] []
     [(3, [.t (.int .i64 op)]), (6, [.t (.int .i64 0), .t (.str []), .nl 2, .t (.str []), .nl 5]), (7, [.any, .any, .any, .any, .any]), (25, [.rn (.sl 5 ((xs.map ofC).take (xs.length - 1)))])]
     [(994, ⟨true, 2, [], 0, true⟩), (996, ⟨true, 5, [ofC y, J], 0, true⟩)] [] [] (zn1 op op x [ofC y, J]) (by simp -implicitDefEqProofs only [go_sem, zck x]) (by simp -implicitDefEqProofs only [go_sem]) (by simp -implicitDefEqProofs only [go_sem, zck x]) (by simp -implicitDefEqProofs only [go_sem]) ?_
    simp -implicitDefEqProofs only [go_sem]
    refine zah ?_
    simp -implicitDefEqProofs only [go_sem, zck x]
  ·rw [hlen]
   cases hm : xs.length - 1 with
   | zero =>
    have hx1 : xs = [xs.getD (xs.length - 1) z] := by
     rw [hlast]
     have : xs.length = 1 := by omega
     match xs, this with
     | [x], _ => rfl
    rw [hm] at hx1
    rw [hx1]
    generalize xs.getD 0 z = x
    show ex _ _ _ _ (cbH op [x] z 0)
    simp only [cbH]
    simp -implicitDefEqProofs only [go_sem, jnC, zck, Tryd.results29]
   | succ m =>
    have h0 : 0 < xs.length := hn
    have hx2 : jnC op xs = [.int .i64 op, .str [], .sl 2 [], .str [], .sl 5 [ofC (xs.getD 0 z), jnC op (xs.drop 1)]] := by
     match xs, hm with
     | x :: r, hm =>
      rw [zgs op x (by intro e; rw [e] at hm; simp at hm)]
      rfl
    rw [hx2]
    simp only [cbH]
    rw [show xs.length - 1 - 1 - m = 0 by omega, show xs.length - 1 - m = 1 by omega]
    generalize xs.getD 0 z = x
    generalize jnC op (xs.drop 1) = J
    simp -implicitDefEqProofs only [go_sem, Tryd.results29]
end Go.Proofs.YteeaofpphmhjdaaDoor
namespace Go.Proofs.YteeaofpphmhjdaaDoor
set_option linter.unusedSimpArgs false
set_option linter.unusedVariables false
set_option linter.unusedSectionVars false
set_option maxRecDepth 4000
open Go.RowKit
def zb5 (op : Int) : List Fm -> Fm -> Fm
 | [], z => z
 | [x], _ => x
 | x :: xs, z => mkF op [x, zb5 op xs z]
theorem zd8 (op : Int) (x : Fm) {xs : List Fm} (h : xs ≠ []) (z : Fm) : zb5 op (x :: xs) z = mkF op [x, zb5 op xs z] := by
 cases xs with
 | nil => exact absurd rfl h
 | cons y ys => rfl
theorem of_fm {w : World} {x : Fm} {vs : List Value} {f : List Nat} (h : zai w (fmC x) vs f) : ∃ y : OF, (∀ A : Nat -> Prop, zaa w A (ofC y) vs) /\ ∀ w' : World, (∀ b ∈ f, w'.heap[b]? = w.heap[b]?) -> ze5 w' (ofC y) (fmC x) f := by
 rw [zao] at h ⊢
 obtain ⟨v1, _, f1, _, rfl, rfl, h1, h⟩ := h
 obtain ⟨v2, _, f2, _, rfl, rfl, h2, h⟩ := h
 obtain ⟨v3, _, f3, _, rfl, rfl, h3, h⟩ := h
 obtain ⟨v4, _, f4, _, rfl, rfl, h4, h⟩ := h
 obtain ⟨v5, _, f5, _, rfl, rfl, h5, h⟩ := h
 obtain ⟨rfl, rfl⟩ := h
 unfold zaj at h1 h2 h4
 obtain ⟨rfl, n1, n2, rfl⟩ := h1
 obtain ⟨rfl, n3, rfl⟩ := h2
 obtain ⟨rfl, n4, rfl⟩ := h4
 have g3 := h3
 have g5 := h5
 unfold zaj at g3 g5
 obtain ⟨a3, c3, rfl, _⟩ := g3
 obtain ⟨a5, c5, rfl, _⟩ := g5
 refine ⟨⟨x.op, x.atom.name, (a3, (x.atom.args.map tmC).length, c3), x.var, (a5, (x.parts.map fmC).length, c5)⟩, fun A => ?_, fun w' hs => ?_⟩
 ·unfold ofC
  simp only [zaa, zag]
  exact ⟨_, _, rfl, ⟨rfl, n1, n2⟩, _, _, rfl, ⟨rfl, n3⟩, _, _, rfl, rfl, _, _, rfl, ⟨rfl, n4⟩, _, _, rfl, rfl, rfl⟩
 ·unfold ofC
  simp only [ze5, GrT]
  refine ⟨_, _, [], _, rfl, rfl, ⟨rfl, rfl⟩, _, _, [], _, rfl, rfl, ⟨rfl, rfl⟩, _, _, f3, _, rfl, rfl, zaj.keep _ _ _ h3 fun b hb => hs b (by simp [hb]), _, _, [], _, rfl, rfl, ⟨rfl, rfl⟩, _, _, f5, _, rfl, rfl, zaj.keep _ _ _ h5 fun b hb => hs b (by simp [hb]), rfl, rfl⟩
theorem zsl {w : World} {cells : Array Value} {b : Nat} {ty : TypeId} (hc : w.heap[b]? = some (.cells cells ty (0, 0))) : ∀ {xs : List Fm} {o : Nat} {fps : List Nat}, zac w cells o 5 (xs.map fmC) fps →
  ∃ ys : List OF, ys.length = xs.length /\ (∀ A : Nat -> Prop, zae w A b o 5 (ys.map ofC)) /\ ∀ w' : World, (∀ b ∈ fps, w'.heap[b]? = w.heap[b]?) -> zbc w' (ys.map ofC) (xs.map fmC) fps
 | [], o, fps, h => by
  rw [List.map_nil] at h
  unfold zac at h
  subst h
  exact ⟨[], rfl, fun A => by rw [List.map_nil]; unfold zae; trivial, fun w' _ => by rw [List.map_nil, List.map_nil]; unfold zbc; exact ⟨rfl, rfl⟩⟩
 | x :: xs, o, fps, h => by
  rw [List.map_cons] at h
  unfold zac at h
  obtain ⟨h1, f1, f2, rfl, h2, h3⟩ := h
  obtain ⟨vs, k1, k2, k3⟩ := h2.vals
  obtain ⟨y, l1, l2⟩ := of_fm k3
  obtain ⟨ys, m1, m2, m3⟩ := zsl hc h3
  refine ⟨y :: ys, by simp [m1], fun A => ?_, fun w' hs => ?_⟩
  ·rw [List.map_cons]
   unfold zae
   refine ⟨rfl, zav.mk fun j c hj => ?_, m2 A⟩
   obtain ⟨v, q1, q2⟩ := (l1 A).at j c hj
   exact ⟨v, by simp [World.cell?, hc, k2 j v q1], q2⟩
  ·rw [List.map_cons, List.map_cons]
   unfold zbc
   exact ⟨_, _, f1, f2, rfl, rfl, l2 w' fun b hb => hs b (by simp [hb]), m3 w' fun b hb => hs b (by simp [hb])⟩
theorem zm4 {w : World} (op : Int) (z : Fm) : ∀ {xs : List Fm} {ys : List OF} {fps : List Nat}, xs ≠ [] -> zbc w (ys.map ofC) (xs.map fmC) fps -> ze5 w (jnC op ys) (fmC (zb5 op xs z)) fps
 | [], _, _, h, _ => absurd rfl h
 | x :: xs, [], _, _, h => by rw [List.map_nil, List.map_cons] at h; unfold zbc at h; exact absurd h.1 (by simp)
 | x :: xs, y :: ys, fps, _, h => by
  rw [List.map_cons, List.map_cons] at h
  unfold zbc at h
  obtain ⟨r', rs', e1, e2, h0, rfl, h1, h2⟩ := h
  simp only [List.cons.injEq] at h0
  obtain ⟨rfl, rfl⟩ := h0
  have hlen := h2.len
  simp only [List.length_map] at hlen
  by_cases hx : xs = []
  ·subst hx
   have hy : ys = [] := List.length_eq_zero_iff.1 (by simpa using hlen.symm)
   subst hy
   rw [List.map_nil, List.map_nil] at h2
   unfold zbc at h2
   rw [h2.2, List.append_nil]
   exact h1
  ·have hy : ys ≠ [] := fun e => hx (List.length_eq_zero_iff.1 (by rw [hlen, e]; rfl))
   rw [zgs op y hy, zd8 op x hx, zb8, List.map_cons, List.map_cons, List.map_nil]
   have h3 := zm4 op z hx h2
   simp only [ze5, GrT, zbc]
   exact ⟨_, _, [], _, rfl, rfl, ⟨rfl, rfl⟩, _, _, [], _, rfl, rfl, ⟨rfl, rfl⟩, _, _, [], _, rfl, rfl, ⟨[], rfl, rfl, rfl⟩, _, _, [], _, rfl, rfl, ⟨rfl, rfl⟩, _, _, e1 ++ e2, [], rfl, by simp, ⟨_, rfl, _, _, e1, e2, rfl, rfl, h1, _, _, e2, [], rfl, by simp, h3, rfl, rfl⟩, rfl, rfl⟩
theorem zk0 (op : Int) (xs : List Fm) (z : Fm) : GC Tryd.prog 29 [(false, iD op), (true, .one (fmS xs)), (true, fmD z)] [fmD (zb5 op xs z)] := by
 refine ziv Tryd.call29 fun w vs fp tp hv hn => ?_
 obtain ⟨v1, _, rfl, h1, hv⟩ := hv
 obtain ⟨v2, _, f2, _, t2, _, rfl, rfl, rfl, h2, hv⟩ := hv
 obtain ⟨v3, _, f3, _, t3, _, rfl, rfl, rfl, h3, hv⟩ := hv
 obtain ⟨rfl, rfl, rfl⟩ := hv
 obtain ⟨a, rfl, h3⟩ := h3
 have h2 : zaj w (fmS xs) v2 f2 := h2.1
 have h3 : zai w (fmC z) a f3 := zai.of_g h3
 obtain ⟨y, k1, k2⟩ := of_fm h3
 have hlt3 : ∀ b ∈ f3, b < w.heap.size := zai.lt h3
 have hlt2 : ∀ b ∈ f2, b < w.heap.size := zaj.lt _ _ _ h2
 have hi : znx w (fun b => b < w.heap.size) (iD op) v1 := by
  have : za2 w (fun b => b < w.heap.size) [iD op] [v1] := za2.keep (fun _ _ => rfl) (fun b hb => hb.1) (⟨v1, [], rfl, h1, rfl⟩ : za2 w (fun b => b < w.heap.size /\ b ∉ f2 ++ (f3 ++ [])) [iD op] [v1])
  obtain ⟨_, _, e, h4, _⟩ := this
  cases e; exact h4
 obtain ⟨n1, n2, -⟩ := List.nodup_append.1 hn
 rw [List.append_nil] at n2
 have hS : ∃ (ys : List OF) (f : List Nat), ys.length = xs.length /\ f.Nodup /\ (∀ b ∈ f, b ∈ f2) /\ zag w (fun b => b < w.heap.size) (.sl 5 (ys.map ofC)) v2 /\ ∀ w' : World, (∀ b ∈ f, w'.heap[b]? = w.heap[b]?) -> zbc w' (ys.map ofC) (xs.map fmC) f := by
  unfold fmS at h2
  unfold zaj at h2
  obtain ⟨ao, cap, rfl, q1, q2, q3⟩ := h2
  rw [List.length_map] at q1
  rcases q3 with ⟨rfl, rfl, q3, rfl⟩ | ⟨b, cells, ty, fps, rfl, rfl, q3, q4, q5⟩
  ·have hx : xs = [] := by simpa using q3
   subst hx
   refine ⟨[], [], rfl, List.nodup_nil, fun b hb => hb, ?_, fun _ _ => by rw [List.map_nil, List.map_nil]; unfold zbc; exact ⟨rfl, rfl⟩⟩
   unfold zag
   exact ⟨none, 0, rfl, Nat.le_refl _, by simp, Or.inl rfl⟩
  ·obtain ⟨ys, r1, r2, r3⟩ := zsl q3 q5
   refine ⟨ys, fps, r1, (List.nodup_cons.1 n1).2, fun b hb => by simp [hb], ?_, r3⟩
   unfold zag
   exact ⟨_, cap, by rw [List.length_map, List.length_map, r1], by rw [List.length_map, r1]; exact q1, q2, Or.inr ⟨b, 0, rfl, hlt2 b (by simp), r2 _⟩⟩
 obtain ⟨ys, f, r1, r4, r5, r2, r3⟩ := hS
 by_cases hx : xs = []
 ·subst hx
  have hy : ys = [] := List.length_eq_zero_iff.1 (by simpa using r1)
  refine ⟨[iD op, .one (.sl 5 (ys.map ofC)), .agg (ofC y)], _, f3, zga op ys y, ⟨v1, _, rfl, hi, v2, _, rfl, r2, _, _, rfl, ⟨a, rfl, k1 _⟩, rfl⟩, n2, fun b hb => ⟨by simp [hb], hlt3 b hb⟩, fun w' hs => ?_⟩
  rw [if_pos hy]
  exact k2 w' hs
 ·have hy : ys ≠ [] := fun e => hx (List.length_eq_zero_iff.1 (by rw [<- r1, e]; rfl))
  refine ⟨[iD op, .one (.sl 5 (ys.map ofC)), .agg (ofC y)], _, f, zga op ys y, ⟨v1, _, rfl, hi, v2, _, rfl, r2, _, _, rfl, ⟨a, rfl, k1 _⟩, rfl⟩, r4, fun b hb => ⟨by simp [r5 b hb], hlt2 b (r5 b hb)⟩, fun w' hs => ?_⟩
  rw [if_neg hy]
  exact zm4 op z hx (r3 w' hs)
end Go.Proofs.YteeaofpphmhjdaaDoor
namespace Go.Proofs.YteeaofpphmhjdaaDoor
set_option linter.unusedSimpArgs false
set_option linter.unusedVariables false
set_option linter.unusedSectionVars false
set_option maxRecDepth 4000
open Go.RowKit
def jS (op : Int) (xs : List Fm) (J : Fm) (i : Int) (a b : Nat) : St := hd [(0, vT (fmS xs)), (1, .one (.t (.int .i64 op))), (6, .one (.bx 6 0)), (7, .one (.bx 7 0)), (8, .one (.t (.int .i64 i)))]
 [(6, [.t (.int .i64 0), .t (.str []), .nl 2, .t (.str []), .nl 5]), (7, [.t (.int .i64 J.op), .t (.str J.atom.name), .ow a 0, .t (.str J.var), .ow b 0])] [(a, ⟨true, 2, J.atom.args.map tmC, 0, true⟩), (b, ⟨true, 5, J.parts.map fmC, 0, true⟩)]
theorem zuw (op : Int) (xs : List Fm) (J : Fm) (i : Int) : Wk (jS op xs J i 642 644) (jS op xs J i 2002 644) := zjy 642 2002 _ _ _
theorem zte (op : Int) (xs : List Fm) (J : Fm) (i : Int) : Wk (jS op xs J i 2002 644) (jS op xs J i 2002 2000) := zjy 644 2000 _ _ _
theorem zt5 (op : Int) (xs : List Fm) (J : Fm) (i : Int) : Wk (jS op xs J i 2003 1120) (jS op xs J i 2003 2000) := zjy 1120 2000 _ _ _
theorem zuu (op : Int) (xs : List Fm) (J : Fm) (i : Int) : Wk (jS op xs J i 2003 2000) (jS op xs J i 2002 2000) := zjy 2003 2002 _ _ _
theorem mkF_op (o : Int) (ps : List Fm) : (mkF o ps).op = o := rfl
theorem zqu (o : Int) (ps : List Fm) : (mkF o ps).atom.name = [] := rfl
theorem zrm (o : Int) (ps : List Fm) : (mkF o ps).atom.args = [] := rfl
theorem zs4 (o : Int) (ps : List Fm) : (mkF o ps).var = [] := rfl
theorem zmw (o : Int) (ps : List Fm) : (mkF o ps).parts = ps := rfl
theorem zhu (xs : List Fm) (op none : Int) (hs : xs.length <= 1099511627776) (hwt : ∀ k (h : k < xs.length), xs[k].wt <= 1048576) : FC Tryd.prog 25 [.one (fmS xs), iD op, iD none] [fmD (zb5 op xs (mkF none []))] := by
 by_cases hx : xs = []
 ·subst hx
  show FC _ _ _ [fmD (mkF none [])]
  simp only [fmD, zb8, List.map_nil, fmS]
  refine zbh Tryd.call25 Tryd.func25 rfl (by kernel_rfl) (zcr (by kernel_rfl)) ?_
  simp -implicitDefEqProofs only [go_sem, Tryd.results25]
 ·have hn : 0 < xs.length := List.length_pos_iff.2 hx
  have e0 : ((xs.length : Int) == 0) = false := by simp; omega
  have e1 : IntKind.i64.wrap ((xs.length : Int) - 1) = ((xs.length - 1 : Nat) : Int) := by rw [zbs (by omega) (by omega)]; omega
  have e2 : IntKind.i64.wrap ((xs.length : Int) - 2) = (xs.length : Int) - 2 := zbs (by omega) (by omega)
  have hi : xs.length - 1 < xs.length := by omega
  have hR : ∃ R, zb5 op xs (mkF none []) = R := ⟨_, rfl⟩
  obtain ⟨R, hR⟩ := hR
  rw [hR]
  simp only [fmD, zao R]
  have hL := zao xs[xs.length - 1]
  refine zbh Tryd.call25 Tryd.func25 rfl (by kernel_rfl) (zcr (by kernel_rfl)) ?_
  simp -implicitDefEqProofs only [go_sem, Tryd.results25, e0, e1, hi, zaz, hL]
  refine callF (zoa xs[xs.length - 1] (hwt _ hi)) (by simp -implicitDefEqProofs only [go_sem, zao xs[xs.length - 1], e2]) ?_
  simp -implicitDefEqProofs only [go_sem, zao xs[xs.length - 1], e2]
  have hd1 : zb5 op (xs.drop (xs.length - 1)) (mkF none []) = xs[xs.length - 1] := by
   rw [List.drop_eq_getElem_cons hi, List.drop_of_length_le (by omega)]; rfl
  refine zax (fun k : Nat => jS op xs (zb5 op (xs.drop (xs.length - 1 - k)) (mkF none [])) ((xs.length : Int) - 2 - k) 2002 2000) (fun k => k <= xs.length - 1) (fun k => xs.length - 1 - k) 0 (Wk.trans ?_ ((zuw _ _ _ _).trans (zte _ _ _ _))) (Nat.zero_le _) ?_
  ·rw [Nat.sub_zero, hd1]
   unfold jS
   refine zah ?_
   simp -implicitDefEqProofs only [go_sem]
   simp
  ·intro k hk
   by_cases hlt : k < xs.length - 1
   ·obtain ⟨m, hm⟩ : ∃ m, xs.length - 2 - k = m := ⟨_, rfl⟩
    have hml : m < xs.length := by omega
    have hge : ((0 : Int) <= (m : Int)) = True := by simp
    have hdk : zb5 op (xs.drop (xs.length - 1 - (k + 1))) (mkF none []) = mkF op [xs[m], zb5 op (xs.drop (xs.length - 1 - k)) (mkF none [])] := by
     rw [show xs.length - 1 - (k + 1) = m by omega, List.drop_eq_getElem_cons hml, show m + 1 = xs.length - 1 - k by omega]
     refine zd8 op _ ?_ _
     intro e
     have := congrArg List.length e
     simp at this; omega
    have hwm := hwt m hml
    have hnx : Wk (jS op xs (zb5 op (xs.drop (xs.length - 1 - (k + 1))) (mkF none [])) ((xs.length : Int) - 2 - ((k + 1 : Nat) : Int)) 2003 1120) (jS op xs (zb5 op (xs.drop (xs.length - 1 - (k + 1))) (mkF none [])) ((xs.length : Int) - 2 - ((k + 1 : Nat) : Int)) 2002 2000) := (zt5 _ _ _ _).trans (zuu _ _ _ _)
    have e3 : IntKind.i64.wrap ((m : Int) - 1) = (xs.length : Int) - 2 - ((k + 1 : Nat) : Int) := by rw [zbs (by omega) (by omega)]; omega
    rw [show (xs.length : Int) - 2 - (k : Int) = (m : Int) by omega]
    generalize hJ : zb5 op (xs.drop (xs.length - 1 - k)) (mkF none []) = J at hdk ⊢
    generalize hX : xs[m] = x at hdk hwm
    have hxE := zao x
    unfold jS
    simp -implicitDefEqProofs only [go_sem, hge, zaz, hml, hX, hxE]
    refine drawn (by kernel_rfl) ?_
    simp -implicitDefEqProofs only [go_sem, zaz, hml, hX, hxE]
    refine zbz (zoa x hwm) (by simp -implicitDefEqProofs only [go_sem, hxE]) ?_
    simp -implicitDefEqProofs only [go_sem, hxE]
    refine zhf (by simp -implicitDefEqProofs only [go_sem]) ?_
    simp -implicitDefEqProofs only [go_sem]
    refine ⟨by kernel_rfl, k + 1, by omega, by omega, Wk.trans ?_ hnx⟩
    rw [hdk]
    unfold jS
    refine zah ?_
    simp -implicitDefEqProofs only [go_sem, e3, mkF_op, zqu, zrm, zs4, zmw, List.map_cons, List.map_nil, hxE]
    rw [zao J]
   ·have hk2 : k = xs.length - 1 := by omega
    subst hk2
    have hlt0 : ((xs.length : Int) - 2 - ((xs.length - 1 : Nat) : Int)) = -1 := by omega
    rw [Nat.sub_self, List.drop_zero, hR, hlt0]
    unfold jS
    simp -implicitDefEqProofs only [go_sem]
end Go.Proofs.YteeaofpphmhjdaaDoor
namespace Go.Proofs.YteeaofpphmhjdaaDoor
set_option linter.unusedSimpArgs false
set_option linter.unusedVariables false
set_option linter.unusedSectionVars false
set_option maxRecDepth 4000
open Go.RowKit
variable {P : Program}
attribute [go_sem] List.flatten_cons List.flatten_nil
end Go.Proofs.YteeaofpphmhjdaaDoor
namespace Go.Proofs.YteeaofpphmhjdaaDoor
set_option linter.unusedSimpArgs false
set_option linter.unusedVariables false
set_option linter.unusedSectionVars false
set_option maxRecDepth 4000
open Go.RowKit
variable {P : Program}
section
variable {ks : List Fr} {Q : Exit -> St -> Prop} {σ : St} {ops : Array Oper} {os : List Oper} {L : List (List Ky × List Ky)} {ty : TypeId} {ps : String} {af : Array Edge} {d : Nat} {x : Operand} {asx : Array Operand} {ts : Array TypeId} {f : FuncId} {res : List (Bool × D)}
theorem zsj {ds0 res0 : List D} {gR : List Ky} (h : FC P f ds0 res0) (hp : zam (zat (σ.get P 0 x)) fun p => p.1 = f /\ VDs σ (σ.gets P asx ts ++ p.2) ds0 /\ zd4 d 0 (zaq res0) σ.ev)
  (k : exd P ops os (L ++ [(gR ++ (zak (x :: asx.toList) ++ (vsK σ (σ.gets P asx ts ++ ztx (zat (σ.get P 0 x))) ++ eK (owL d 0 (zaq res0)))), dK (some d) ++ eK (owL d 0 (zaq res0)))]) ks Q (σ.callF d res0)) :
  zjn P ops ⟨some d, .call ⟨.value x, asx, ts⟩, ty, ps, af, none⟩ os L gR ks Q σ := by
 obtain ⟨⟨f', cvs⟩, h1, rfl, h2, h3⟩ := zan hp
 rw [h1] at k
 exact ztq _ _ _ _ _ _ rfl (zib rfl rfl h h1 h2 h3) k
end
end Go.Proofs.YteeaofpphmhjdaaDoor
namespace Go.Proofs.YteeaofpphmhjdaaDoor
set_option linter.unusedSimpArgs false
set_option linter.unusedVariables false
set_option linter.unusedSectionVars false
set_option maxRecDepth 4000
open Go.RowKit
variable {P : Program} {N : Nat}
attribute [go_sem] Option.bind_some Option.map_some
end Go.Proofs.YteeaofpphmhjdaaDoor
namespace Go.Proofs.YteeaofpphmhjdaaDoor
set_option linter.unusedSimpArgs false
set_option linter.unusedVariables false
set_option linter.unusedSectionVars false
set_option maxRecDepth 4000
open Go.RowKit
theorem zm0 : ∀ {c : List Int}, zcu (c.map fun s => [T.int .i64 s]) -> ∀ l ∈ c, -9223372036854775808 <= l /\ l <= 9223372036854775807
 | [], _, l, hl => by simp at hl
 | x :: c, h, l, hl => by
  have h' : zlw [T.int .i64 x] /\ zcu (c.map fun s => [T.int .i64 s]) := h
  have m1 : IntKind.min .i64 = -9223372036854775808 := by decide
  have m2 : IntKind.max .i64 = 9223372036854775807 := by decide
  rcases List.mem_cons.1 hl with rfl | hl
  ·have h2 : wfT (T.int .i64 l) := h'.1.1
   unfold wfT at h2
   rw [m1, m2] at h2
   exact h2
  ·exact zm0 h'.2 l hl
def abW (n : Int) : Int := if n < 0 then IntKind.i64.wrap (0 - n) else n
theorem zsg {n : Int} (h : -9223372036854775808 < n) (h2 : n <= 9223372036854775807) : abW n = ab n := by
 unfold abW
 split
 ·rw [zbs (by omega) (by omega)]; unfold ab; omega
 ·unfold ab; omega
theorem abW_in {n : Int} (h : -9223372036854775808 <= n) (h2 : n <= 9223372036854775807) : inB (abW n) 1 12 = (decide (0 < ab n) && decide (ab n <= 12)) := by
 by_cases e : n = -9223372036854775808
 ·subst e; decide
 ·rw [zsg (by omega) h2]
  unfold inB
  congr 1
theorem zgt (n : Int) : FC Tryd.prog 23 [iD n] [iD (abW n)] := by
 refine zbh Tryd.call23 Tryd.func23 rfl (by kernel_rfl) (zcr (by kernel_rfl)) ?_
 simp -implicitDefEqProofs only [go_sem, Tryd.results23]
 refine ⟨fun h => ?_, fun h => ?_⟩
 ·have : n < 0 := by simpa using h
  unfold abW; rw [if_pos this]
 ·have : ¬ n < 0 := by simpa using h
  unfold abW; rw [if_neg this]
theorem zi5 (c : List Int) : FC Tryd.prog 12 [.one (zev c)] [bD (pcl c)] := by
 refine zk2 (fun hw => ?_) Tryd.call12
 have hl : c.length <= 9223372036854775807 := by have := hw.1.1; simpa using this
 have hwf := zm0 hw.1.2
 refine zbh Tryd.call12 Tryd.func12 rfl (by kernel_rfl) (zcr (by kernel_rfl)) ?_
 simp -implicitDefEqProofs only [go_sem, Tryd.results12]
 refine zax (fun k : Nat => hd [(0, vT (zev c)), (3, vI k)] [] []) (fun k => k <= c.length /\ pcl c = znl (pv c k) (c.drop k) /\ (0 < k -> -12 <= c.getD (k - 1) 0 /\ c.getD (k - 1) 0 <= 12)) (fun k => c.length - k) 0 (zah ?_) ?_ ?_
 ·simp -implicitDefEqProofs only [go_sem]
 ·exact ⟨Nat.zero_le _, rfl, fun h => absurd h (by omega)⟩
 ·intro k ⟨hk, hr, hpr⟩
  by_cases hlt : k < c.length
  ·have hsu := zm9 c hlt
   have hgd : c.getD k 0 = c[k] := by rw [List.getD_eq_getElem?_getD, List.getElem?_eq_getElem hlt]; rfl
   rw [List.drop_eq_getElem_cons hlt] at hr
   unfold znl at hr
   have hb := hwf c[k] (List.getElem_mem hlt)
   have HA := zgt c[k]
   have HI := l1In_c (abW c[k]) 1 12
   rw [abW_in hb.1 hb.2] at HI
   cases h1 : (decide (0 < ab c[k]) && decide (ab c[k] <= 12))
   ·rw [h1] at HI
    have hno : pcl c = false := by
     rw [hr]
     have hpv : 0 <= pv c k := by unfold pv ab; split <;> omega
     rw [Bool.and_eq_false_iff, decide_eq_false_iff_not, decide_eq_false_iff_not] at h1
     rcases h1 with h1 | h1
     ·rw [show decide (pv c k < ab c[k]) = false by simp; omega]; rfl
     ·rw [show decide (ab c[k] <= 12) = false by simpa using h1]; simp
    simp -implicitDefEqProofs only [go_sem, hlt]
    refine drawn (by kernel_rfl) ?_
    simp -implicitDefEqProofs only [go_sem, zaz, hlt]
    refine zbz (HA) (by simp -implicitDefEqProofs only [go_sem]) ?_
    simp -implicitDefEqProofs only [go_sem]
    refine zbz (HI) (by simp -implicitDefEqProofs only [go_sem]) ?_
    simp -implicitDefEqProofs only [go_sem]
    refine ⟨by kernel_rfl, ?_⟩
    rw [hno]
   ·rw [h1] at HI
    have hab : 0 < ab c[k] /\ ab c[k] <= 12 := by simpa using h1
    have hin : -12 <= c[k] /\ c[k] <= 12 := (zuj hab).2
    by_cases hk0 : k = 0
    ·have hkf : ((0 : Int) < (k : Int)) = False := by simp; omega
     simp -implicitDefEqProofs only [go_sem, hlt]
     refine drawn (by kernel_rfl) ?_
     simp -implicitDefEqProofs only [go_sem, zaz, hlt, hkf]
     refine zbz (HA) (by simp -implicitDefEqProofs only [go_sem]) ?_
     simp -implicitDefEqProofs only [go_sem]
     refine zbz (HI) (by simp -implicitDefEqProofs only [go_sem, hkf]) ?_
     simp -implicitDefEqProofs only [go_sem, hkf]
     refine ⟨by kernel_rfl, ?_⟩
     rw [za4 (by omega)]
     refine ⟨k + 1, ⟨hlt, ?_, fun _ => ?_⟩, by omega, zah (by simp -implicitDefEqProofs only [go_sem])⟩
     ·have hpv : pv c k = 0 := by unfold pv; rw [if_pos hk0]
      rw [hr, hsu, hpv, show decide (0 < ab c[k]) = true by simpa using hab.1, show decide (ab c[k] <= 12) = true by simpa using hab.2]; rfl
     ·rw [Nat.add_sub_cancel, hgd]; exact hin
    ·have hkp : (0 : Int) < k := by omega
     have hk1 : k - 1 < c.length := by omega
     have hw1 : IntKind.i64.wrap ((k : Int) - 1) = ((k - 1 : Nat) : Int) := by rw [zbs (by omega) (by omega)]; omega
     have hg1 : c.getD (k - 1) 0 = c[k - 1] := by rw [List.getD_eq_getElem?_getD, List.getElem?_eq_getElem hk1]; rfl
     have hp1 := hpr (by omega)
     rw [hg1] at hp1
     have HB := zgt c[k - 1]
     rw [zsg (by omega) (by omega)] at HB HA
     have hpv : pv c k = ab c[k - 1] := by unfold pv; rw [if_neg hk0, hg1]
     rw [hpv] at hr
     simp -implicitDefEqProofs only [go_sem, hlt]
     refine drawn (by kernel_rfl) ?_
     simp -implicitDefEqProofs only [go_sem, zaz, hlt]
     refine zbz (zgt c[k]) (by simp -implicitDefEqProofs only [go_sem]) ?_
     simp -implicitDefEqProofs only [go_sem]
     refine zbz (HI) (by simp -implicitDefEqProofs only [go_sem, hkp, hw1, hk1, hlt, zaz]) ?_
     simp -implicitDefEqProofs only [go_sem, hkp, hw1, hk1, hlt, zaz]
     refine zsj (HB) (by simp -implicitDefEqProofs only [go_sem, hlt, zaz]) ?_
     simp -implicitDefEqProofs only [go_sem, hlt, zaz]
     refine zsj (HA) (by simp -implicitDefEqProofs only [go_sem]) ?_
     simp -implicitDefEqProofs only [go_sem]
     refine ⟨by kernel_rfl, ?_⟩
     rw [za4 (by omega)]
     refine ⟨fun h => ?_, fun h => ⟨k + 1, ⟨hlt, ?_, fun _ => ?_⟩, by omega, zah (by simp -implicitDefEqProofs only [go_sem])⟩⟩
     ·have : ¬ ab c[k - 1] < ab c[k] := by simp at h; omega
      rw [hr, show decide (ab c[k - 1] < ab c[k]) = false by simpa using this]; simp
     ·have : ab c[k - 1] < ab c[k] := by simp at h; omega
      rw [hr, hsu, show decide (ab c[k - 1] < ab c[k]) = true by simpa using this, show decide (ab c[k] <= 12) = true by simpa using hab.2]; rfl
     ·rw [Nat.add_sub_cancel, hgd]; exact hin
  ·simp -implicitDefEqProofs only [go_sem, hlt]
   rw [hr, List.drop_of_length_le (by omega)]; rfl
end Go.Proofs.YteeaofpphmhjdaaDoor
namespace Go.Proofs.YteeaofpphmhjdaaDoor
set_option linter.unusedSimpArgs false
set_option linter.unusedVariables false
set_option linter.unusedSectionVars false
set_option maxRecDepth 4000
open Go.RowKit
theorem zue {P : Program} {f : FuncId} {args : List D} {t : T} {v : Value} (hc : zay P f) (hv : ∀ w, zaj w t v []) (h : ∀ w vs, za2 w (· < w.heap.size) args vs -> Calls P f ⟨vs⟩ w fun e w' => e = .returned v /\ Below w.heap.size w w') (htop : ze3 t [] = []) : FC P f args [.one t] := by
 refine ⟨hc, fun w vs fp tp ha hn => ?_⟩
 obtain ⟨hr, rfl, rfl⟩ := zbu ha
 refine (h w vs ?_).mono ?_
 ·simpa using hr
 ·rintro e w' ⟨rfl, hb⟩
  refine ⟨[v], [], [], rfl, ⟨v, [], [], [], [], [], rfl, rfl, rfl, ⟨hv w', htop.symm⟩, rfl, rfl, rfl⟩, List.nodup_nil, by simp, ?_⟩
  exact ⟨hb.os, hb.tape, hb.output, hb.size, fun k hk => hb.block k hk.1⟩
theorem zmi (a : Tm) : GC Tryd.prog 36 [(true, tmD a)] [fmD (.mk 3 a [] [])] := by
 simp only [tmD, zap a, fmD, zf5]
 refine GC_ofN Tryd.call36 Tryd.func36 rfl (by kernel_rfl) (by simp only [List.length_cons, List.length_nil, Tryd.ntmps36]; omega) (by simp [zb7, T.isPin]) ?_
 simp -implicitDefEqProofs only [go_sem, Tryd.results36]
theorem zht : ∀ n : Nat, n < 100 -> (Lib.decDigits n).length <= 2 := by
 intro n hn
 rw [Lib.decDigits]
 split
 ·simp
 ·rw [Lib.decDigits, dif_pos (by omega)]; simp
theorem itoa_c (n : Nat) (hn : n < 100) : FC Tryd.prog 37 [iD n] [.one (.str (Lib.decDigits n))] := by
 refine zue (v := .string ⟨(Lib.decDigits n).toArray⟩) Tryd.call37 (fun w => ?_) (fun w vs h => ?_) rfl
 ·have := zht n hn
  unfold zaj
  exact ⟨rfl, by unfold zda; omega, rfl⟩
 ·obtain ⟨v1, _, rfl, h1, rfl⟩ := h
  unfold znx zag at h1
  rw [h1.1]
  refine (Any.strconv_Itoa_small Tryd.lays171 n hn w).mono ?_
  rintro e w' ⟨rfl, rfl⟩
  exact ⟨rfl, rfl, rfl, rfl, Nat.le_refl _, fun _ _ => rfl⟩
def dgs : List UInt8 := [48, 49, 50, 51, 52, 53, 54, 55, 56, 57]
theorem zsq (n : Nat) (h : n < 10) : ((dgs.take (n + 1)).drop n) = [UInt8.ofNat (48 + n)] := by
 have : n = 0 \/ n = 1 \/ n = 2 \/ n = 3 \/ n = 4 \/ n = 5 \/ n = 6 \/ n = 7 \/ n = 8 \/ n = 9 := by omega
 rcases this with rfl | rfl | rfl | rfl | rfl | rfl | rfl | rfl | rfl | rfl <;> rfl
theorem zkm (n : Nat) (hn : n < 10) : FC Tryd.prog 34 [iD n] [.one (.str (Lib.decDigits n))] := by
 have h0 : ((n : Int) < 0) = False := by simp
 have h1 : ((n : Int) < 10) = True := by simp; omega
 have hw : IntKind.i64.wrap ((n : Int) + 1) = ((n + 1 : Nat) : Int) := za4 (by omega)
 have hd : Lib.decDigits n = [UInt8.ofNat (48 + n)] := by rw [Lib.decDigits, dif_pos hn]
 have hg := zsq n hn
 unfold dgs at hg
 rw [hd]
 refine zbh Tryd.call34 Tryd.func34 rfl (by kernel_rfl) (zcr (by kernel_rfl)) ?_
 simp -implicitDefEqProofs only [go_sem, Tryd.results34, h0, h1]
 rw [hw]
 simp -implicitDefEqProofs only [go_sem]
 exact ⟨⟨by omega, by omega⟩, congrArg T.str hg⟩
theorem zs0 (n : Nat) (hn : n < 100) : FC Tryd.prog 34 [iD n] [.one (.str (Lib.decDigits n))] := by
 by_cases h10 : n < 10
 ·exact zkm n h10
 ·have h0 : ((n : Int) < 0) = False := by simp
  have h1 : ((n : Int) < 10) = False := by simp; omega
  have hq : IntKind.i64.wrap ((n : Int).tdiv 10) = ((n / 10 : Nat) : Int) := by rw [show (n : Int).tdiv 10 = ((n / 10 : Nat) : Int) from rfl]; exact zbs (by omega) (by omega)
  have hr : (n : Int).tmod 10 = ((n % 10 : Nat) : Int) := rfl
  have hw : IntKind.i64.wrap (((n % 10 : Nat) : Int) + 1) = ((n % 10 + 1 : Nat) : Int) := za4 (by omega)
  have H := zkm (n / 10) (by omega)
  have hd : Lib.decDigits n = Lib.decDigits (n / 10) ++ [UInt8.ofNat (48 + n % 10)] := by rw [Lib.decDigits, dif_neg h10]
  have hg := zsq (n % 10) (by omega)
  have hl := zht (n / 10) (by omega)
  unfold dgs at hg
  rw [hd]
  generalize Lib.decDigits (n / 10) = D at H hl ⊢
  refine zbh Tryd.call34 Tryd.func34 rfl (by kernel_rfl) (zcr (by kernel_rfl)) ?_
  simp -implicitDefEqProofs only [go_sem, Tryd.results34, h0, h1]
  refine drawn (by kernel_rfl) ?_
  simp -implicitDefEqProofs only [go_sem, hq, hr]
  refine ⟨by decide, ?_⟩
  refine zbz (H) (by simp -implicitDefEqProofs only [go_sem, hr]) ?_
  simp -implicitDefEqProofs only [go_sem, hr]
  rw [hw, Int.toNat_natCast, hg]
  refine ⟨⟨by decide, by omega, by omega⟩, ⟨by decide, by omega, by omega⟩, ⟨by omega, by omega⟩, ?_, by kernel_rfl, rfl⟩
  simp only [List.length_cons, List.length_nil]
  omega
def zdm (l : Int) : Fm := if l < 0 then mkF 4 [.mk 3 (.mk (118 :: Lib.decDigits (ab l).toNat) []) [] []] else .mk 3 (.mk (118 :: Lib.decDigits (ab l).toNat) []) [] []
set_option maxHeartbeats 1000000 in
theorem zd2 (l : Int) (hl : 0 < ab l /\ ab l <= 12) : FC Tryd.prog 28 [iD l] [fmD (zdm l)] := by
 have hb := zuj hl
 have HB := zeb l (by omega)
 obtain ⟨n, hn⟩ : ∃ n : Nat, ab l = (n : Int) := ⟨(ab l).toNat, by omega⟩
 have HI := itoa_c n (by omega)
 have hdl := zht n (by omega)
 have hln : 1 + (Lib.decDigits n).length <= 9223372036854775807 := by omega
 have HA := zmi (.mk (118 :: Lib.decDigits n) [])
 have HN := not_c (.mk 3 (.mk (118 :: Lib.decDigits n) []) [] [])
 unfold zdm
 rw [hn] at HB ⊢
 rw [Int.toNat_natCast]
 generalize Lib.decDigits n = D at HI HA HN hdl hln ⊢
 simp only [tmD, tmC_mk, fmD, zb8, zf5, List.map_nil, List.map_cons, Tm.name, Tm.args] at HA HN ⊢
 by_cases hneg : l < 0
 ·rw [if_pos hneg]
  simp only [zb8, zf5, List.map_nil, List.map_cons, Tm.name, Tm.args]
  refine zbh Tryd.call28 Tryd.func28 rfl (by kernel_rfl) (zcr (by kernel_rfl)) ?_
  simp -implicitDefEqProofs only [go_sem, Tryd.results28, hneg]
  refine callF (HB) (by simp -implicitDefEqProofs only [go_sem]) ?_
  simp -implicitDefEqProofs only [go_sem]
  refine callF (HI) (by simp -implicitDefEqProofs only [go_sem, hln]) ?_
  simp -implicitDefEqProofs only [go_sem, hln]
  refine zok [0, 2] [8] [] (HA) (by simp -implicitDefEqProofs only [go_sem]) (by simp -implicitDefEqProofs only [go_sem]) (by simp -implicitDefEqProofs only [go_sem]) (by simp -implicitDefEqProofs only [go_sem]) ?_
  simp -implicitDefEqProofs only [go_sem]
  refine ⟨fun _ => ?_, fun h => absurd hneg (by simpa using h)⟩
  refine zus [(12, .agg [.t (.int .i64 3), .t (.str (118 :: D)), .ow 290 0, .t (.str []), .ow 292 0])] [(0, vI l), (2, .one (.bx 2 0)), (3, .one (.bx 3 0))] [] [(2, [.t (.int .i64 0), .t (.str []), .nl 2, .t (.str []), .nl 5]), (3, [.any, .any, .any, .any, .any])] [(290, ⟨true, 2, [], 0, true⟩), (292, ⟨true, 5, [], 0, true⟩)] [] [] HN (by simp -implicitDefEqProofs only [go_sem]) (by simp -implicitDefEqProofs only [go_sem]) (by simp -implicitDefEqProofs only [go_sem]) (by simp -implicitDefEqProofs only [go_sem]) ?_
  simp -implicitDefEqProofs only [go_sem]
  skip
 ·rw [if_neg hneg]
  simp only [zb8, zf5, List.map_nil, List.map_cons, Tm.name, Tm.args]
  refine zbh Tryd.call28 Tryd.func28 rfl (by kernel_rfl) (zcr (by kernel_rfl)) ?_
  simp -implicitDefEqProofs only [go_sem, Tryd.results28, hneg]
  refine callF (HB) (by simp -implicitDefEqProofs only [go_sem]) ?_
  simp -implicitDefEqProofs only [go_sem]
  refine callF (HI) (by simp -implicitDefEqProofs only [go_sem, hln]) ?_
  simp -implicitDefEqProofs only [go_sem, hln]
  refine zok [0, 2] [8] [] (HA) (by simp -implicitDefEqProofs only [go_sem]) (by simp -implicitDefEqProofs only [go_sem]) (by simp -implicitDefEqProofs only [go_sem]) (by simp -implicitDefEqProofs only [go_sem]) ?_
  simp -implicitDefEqProofs only [go_sem]
  refine ⟨fun h => absurd (of_decide_eq_true h) hneg, fun _ => trivial⟩
set_option maxHeartbeats 1000000 in
theorem zih (l : Int) (hl : 0 < ab l /\ ab l <= 12) : FC Tryd.prog 24 [iD l] [fmD (zdm l)] := by
 have hb := zuj hl
 have HB := zrl l (by omega)
 obtain ⟨n, hn⟩ : ∃ n : Nat, ab l = (n : Int) := ⟨(ab l).toNat, by omega⟩
 have HI := zs0 n (by omega)
 have hdl := zht n (by omega)
 have hln : 1 + (Lib.decDigits n).length <= 9223372036854775807 := by omega
 unfold zdm
 rw [hn] at HB ⊢
 rw [Int.toNat_natCast]
 generalize Lib.decDigits n = D at HI hdl hln ⊢
 by_cases hneg : l < 0
 ·rw [if_pos hneg]
  simp only [fmD, zb8, zf5, List.map_nil, List.map_cons, Tm.name, Tm.args]
  refine zbh Tryd.call24 Tryd.func24 rfl (by kernel_rfl) (zcr (by kernel_rfl)) ?_
  simp -implicitDefEqProofs only [go_sem, Tryd.results24, hneg]
  refine callF (HB) (by simp -implicitDefEqProofs only [go_sem]) ?_
  simp -implicitDefEqProofs only [go_sem]
  refine callF (HI) (by simp -implicitDefEqProofs only [go_sem, hln]) ?_
  simp -implicitDefEqProofs only [go_sem, hln]
  refine ⟨fun _ => ?_, fun h => absurd hneg (by simpa using h)⟩
  refine zcq (by simp -implicitDefEqProofs only [go_sem]) ?_
  simp -implicitDefEqProofs only [go_sem]
  skip
 ·rw [if_neg hneg]
  simp only [fmD, zb8, zf5, List.map_nil, List.map_cons, Tm.name, Tm.args]
  refine zbh Tryd.call24 Tryd.func24 rfl (by kernel_rfl) (zcr (by kernel_rfl)) ?_
  simp -implicitDefEqProofs only [go_sem, Tryd.results24, hneg]
  refine callF (HB) (by simp -implicitDefEqProofs only [go_sem]) ?_
  simp -implicitDefEqProofs only [go_sem]
  refine callF (HI) (by simp -implicitDefEqProofs only [go_sem, hln]) ?_
  simp -implicitDefEqProofs only [go_sem, hln]
  refine ⟨fun h => absurd (of_decide_eq_true h) hneg, fun _ => trivial⟩
set_option maxHeartbeats 1000000 in
theorem zfs (c : List Int) (hc : ∀ l ∈ c, 0 < ab l /\ ab l <= 12) (hl : c.length <= 12) : FC Tryd.prog 15 [.one (zev c)] [fmD (zb5 6 (c.map zdm) (mkF 2 []))] := by
 have HJ := zk0 6 (c.map zdm) (mkF 2 [])
 generalize zb5 6 (c.map zdm) (mkF 2 []) = J at HJ ⊢
 simp only [fmD, zb8, List.map_nil, zao J] at HJ ⊢
 refine zjx Tryd.call15 Tryd.func15 rfl (by kernel_rfl) (zcr (by kernel_rfl)) ?_
 simp -implicitDefEqProofs only [go_sem, Tryd.results15]
 refine zcq (by simp -implicitDefEqProofs only [go_sem]) ?_
 simp -implicitDefEqProofs only [go_sem]
 refine zax (fun k : Nat => hd [(2, .one (.bx 2 0)), (3, .one (.ow 192 k)), (7, .one (.rn (zev c))), (8, vI c.length), (9, vI k)] [(2, [.t (.int .i64 0), .t (.str []), .nl 2, .t (.str []), .nl 5])] [(192, ⟨true, 5, ((c.take k).map zdm).map fmC, k, true⟩)]) (fun k => k <= c.length) (fun k => c.length - k) 0 (zah ?_) (Nat.zero_le _) ?_
 ·simp -implicitDefEqProofs only [go_sem]
  skip
 ·intro k hk
  by_cases hlt : k < c.length
  ·have HV := zd2 c[k] (hc _ (List.getElem_mem hlt))
   have hts : ((c.take (k + 1)).map zdm).map fmC = ((c.take k).map zdm).map fmC ++ [fmC (zdm c[k])] := by
    rw [List.take_succ_eq_append_getElem hlt, List.map_append, List.map_append]; rfl
   have hlen : (((c.take k).map zdm).map fmC).length <= 4294967295 := by simp; omega
   generalize ((c.take k).map zdm).map fmC = R at hts hlen ⊢
   generalize zdm c[k] = F at HV hts ⊢
   simp only [fmD, zao F] at HV hts
   simp -implicitDefEqProofs only [go_sem, hlt, zaz]
   refine callF (HV) (by simp -implicitDefEqProofs only [go_sem]) ?_
   simp -implicitDefEqProofs only [go_sem]
   refine zcq (by simp -implicitDefEqProofs only [go_sem]) ?_
   simp -implicitDefEqProofs only [go_sem]
   refine apD true (by simp -implicitDefEqProofs only [go_sem, ne_eq, hlen]) ?_
   simp -implicitDefEqProofs only [go_sem, ne_eq, hlen]
   rw [show IntKind.i64.wrap ((k : Int) + 1) = ((k + 1 : Nat) : Int) from za4 (by omega)]
   refine ⟨k + 1, by omega, by omega, zah ?_⟩
   simp -implicitDefEqProofs only [go_sem]
   rw [<- List.map_map, hts]
  ·have hek : k = c.length := by omega
   subst hek
   rw [List.take_length]
   simp -implicitDefEqProofs only [go_sem, Int.lt_irrefl]
   refine zok [2] [19, 20] [] (HJ) (by simp -implicitDefEqProofs only [go_sem, fmS]) (by simp -implicitDefEqProofs only [go_sem, fmS]) (by simp -implicitDefEqProofs only [go_sem, fmS]) (by simp -implicitDefEqProofs only [go_sem, fmS]) ?_
   simp -implicitDefEqProofs only [go_sem, fmS]
   skip
theorem zul (n : Int) (h : n <= 12) : (Lib.decDigits n.toNat).length <= 2 := zht _ (by omega)
theorem zmq (l : Int) (hl : 0 < ab l /\ ab l <= 12) : (zdm l).wt <= 8 := by
 have := zul (ab l) hl.2
 unfold zdm
 split
 ·unfold mkF
  rw [Fm.wt_eq]
  simp only [Fm.atom, Fm.var, Fm.parts, List.map_cons, List.map_nil, List.sum_cons, List.sum_nil, List.length_cons, List.length_nil]
  rw [Tm.wt_eq, Fm.wt_eq]
  simp only [Fm.atom, Fm.var, Fm.parts, Tm.name, Tm.args, List.map_cons, List.map_nil, List.sum_cons, List.sum_nil, List.length_cons, List.length_nil]
  rw [Tm.wt_eq]
  simp only [Tm.name, Tm.args, List.map_nil, List.sum_nil, List.length_cons, List.length_nil]
  omega
 ·rw [Fm.wt_eq]
  simp only [Fm.atom, Fm.var, Fm.parts, List.map_cons, List.map_nil, List.sum_cons, List.sum_nil, List.length_cons, List.length_nil]
  rw [Tm.wt_eq]
  simp only [Tm.name, Tm.args, List.map_nil, List.sum_nil, List.length_cons, List.length_nil]
  omega
set_option maxHeartbeats 1000000 in
theorem zjm (c : List Int) (hc : ∀ l ∈ c, 0 < ab l /\ ab l <= 12) (hl : c.length <= 12) : FC Tryd.prog 13 [.one (zev c)] [fmD (zb5 6 (c.map zdm) (mkF 2 []))] := by
 have HJ := zhu (c.map zdm) 6 2 (by simp; omega) (fun k h => by
  have hk : k < c.length := by simpa using h
  have := zmq c[k] (hc _ (List.getElem_mem hk))
  simp only [List.getElem_map]
  omega)
 generalize zb5 6 (c.map zdm) (mkF 2 []) = J at HJ ⊢
 simp only [fmD, zao J] at HJ ⊢
 refine zjx Tryd.call13 Tryd.func13 rfl (by kernel_rfl) (zcr (by kernel_rfl)) ?_
 simp -implicitDefEqProofs only [go_sem, Tryd.results13]
 refine zcq (by simp -implicitDefEqProofs only [go_sem]) ?_
 simp -implicitDefEqProofs only [go_sem]
 refine zax (fun k : Nat => hd [(0, .one (.rn (zev c))), (2, .one (.bx 2 0)), (3, .one (.ow 160 k)), (4, vI k)] [(2, [.t (.int .i64 0), .t (.str []), .nl 2, .t (.str []), .nl 5])] [(160, ⟨true, 5, ((c.take k).map zdm).map fmC, k, true⟩)]) (fun k => k <= c.length) (fun k => c.length - k) 0 (zah ?_) (Nat.zero_le _) ?_
 ·simp -implicitDefEqProofs only [go_sem]
  skip
 ·intro k hk
  by_cases hlt : k < c.length
  ·have HV := zih c[k] (hc _ (List.getElem_mem hlt))
   have hts : ((c.take (k + 1)).map zdm).map fmC = ((c.take k).map zdm).map fmC ++ [fmC (zdm c[k])] := by
    rw [List.take_succ_eq_append_getElem hlt, List.map_append, List.map_append]; rfl
   have hlen : (((c.take k).map zdm).map fmC).length <= 4294967295 := by simp; omega
   generalize ((c.take k).map zdm).map fmC = R at hts hlen ⊢
   generalize zdm c[k] = F at HV hts ⊢
   simp only [fmD, zao F] at HV hts
   simp -implicitDefEqProofs only [go_sem, hlt, zaz]
   refine callF (HV) (by simp -implicitDefEqProofs only [go_sem]) ?_
   simp -implicitDefEqProofs only [go_sem]
   refine zcq (by simp -implicitDefEqProofs only [go_sem]) ?_
   simp -implicitDefEqProofs only [go_sem]
   refine apD true (by simp -implicitDefEqProofs only [go_sem, ne_eq, hlen]) ?_
   simp -implicitDefEqProofs only [go_sem, ne_eq, hlen]
   rw [show IntKind.i64.wrap ((k : Int) + 1) = ((k + 1 : Nat) : Int) from za4 (by omega)]
   refine ⟨k + 1, by omega, by omega, zah ?_⟩
   simp -implicitDefEqProofs only [go_sem]
   rw [<- List.map_map, hts]
  ·have hek : k = c.length := by omega
   subst hek
   rw [List.take_length]
   simp -implicitDefEqProofs only [go_sem, Int.lt_irrefl]
   refine callF (HJ) (by simp -implicitDefEqProofs only [go_sem, fmS]) ?_
   simp -implicitDefEqProofs only [go_sem, fmS]
   skip
def zqf (c : List Int) : Fm × Bool := if pcl c = true then (zb5 6 (c.map zdm) (mkF 2 []), true) else (mkF 0 [], false)
theorem zfh {c : List Int} (h : pcl c = true) : (∀ l ∈ c, 0 < ab l /\ ab l <= 12) /\ c.length <= 12 := ⟨fun l hl => zuh h hl, zt0 h⟩
theorem zrx (c : List Int) : FC Tryd.prog 6 [.one (zev c)] [fmD (zqf c).1, bD (zqf c).2] := by
 have H := zfv c
 unfold zqf
 cases h : pcl c
 ·rw [h] at H
  rw [if_neg (by simp)]
  simp only [fmD, zb8, List.map_nil]
  refine zbh Tryd.call6 Tryd.func6 rfl (by kernel_rfl) (zcr (by kernel_rfl)) ?_
  simp -implicitDefEqProofs only [go_sem, Tryd.results6]
  refine callF (H) (by simp -implicitDefEqProofs only [go_sem]) ?_
  simp -implicitDefEqProofs only [go_sem]
 ·rw [h] at H
  rw [if_pos rfl]
  have HC := zfs c (zfh h).1 (zfh h).2
  generalize zb5 6 (c.map zdm) (mkF 2 []) = J at HC ⊢
  simp only [fmD, zao J] at HC ⊢
  refine zbh Tryd.call6 Tryd.func6 rfl (by kernel_rfl) (zcr (by kernel_rfl)) ?_
  simp -implicitDefEqProofs only [go_sem, Tryd.results6]
  refine callF (H) (by simp -implicitDefEqProofs only [go_sem]) ?_
  simp -implicitDefEqProofs only [go_sem]
  refine callF (HC) (by simp -implicitDefEqProofs only [go_sem]) ?_
  simp -implicitDefEqProofs only [go_sem]
theorem zq0 (c : List Int) : FC Tryd.prog 4 [.one (zev c)] [fmD (zqf c).1, bD (zqf c).2] := by
 have H := zi5 c
 unfold zqf
 cases h : pcl c
 ·rw [h] at H
  rw [if_neg (by simp)]
  simp only [fmD, zb8, List.map_nil]
  refine zbh Tryd.call4 Tryd.func4 rfl (by kernel_rfl) (zcr (by kernel_rfl)) ?_
  simp -implicitDefEqProofs only [go_sem, Tryd.results4]
  refine callF (H) (by simp -implicitDefEqProofs only [go_sem]) ?_
  simp -implicitDefEqProofs only [go_sem]
 ·rw [h] at H
  rw [if_pos rfl]
  have HC := zjm c (zfh h).1 (zfh h).2
  generalize zb5 6 (c.map zdm) (mkF 2 []) = J at HC ⊢
  simp only [fmD, zao J] at HC ⊢
  refine zbh Tryd.call4 Tryd.func4 rfl (by kernel_rfl) (zcr (by kernel_rfl)) ?_
  simp -implicitDefEqProofs only [go_sem, Tryd.results4]
  refine callF (H) (by simp -implicitDefEqProofs only [go_sem]) ?_
  simp -implicitDefEqProofs only [go_sem]
  refine callF (HC) (by simp -implicitDefEqProofs only [go_sem]) ?_
  simp -implicitDefEqProofs only [go_sem]
end Go.Proofs.YteeaofpphmhjdaaDoor
namespace Go.Proofs.YteeaofpphmhjdaaDoor
set_option linter.unusedSimpArgs false
set_option linter.unusedVariables false
set_option linter.unusedSectionVars false
set_option maxRecDepth 4000
open Go.RowKit
def mtd : Nat -> Nat -> Str -> Str
 | 0, _, acc => acc
 | fuel + 1, n, acc => if n = 0 then acc else mtd fuel (n / 10) (UInt8.ofNat (48 + n % 10) :: acc)
def mtx (k : Nat) : Str := 109 :: mtd (k + 1) k []
theorem zg7 (fuel n : Nat) (acc : Str) (h : 0 < n) : mtd (fuel + 1) n acc = mtd fuel (n / 10) (UInt8.ofNat (48 + n % 10) :: acc) := by rw [mtd, if_neg (by omega)]
theorem zkl : ∀ (f f' n : Nat) (acc : Str), n < f -> n < f' -> mtd f n acc = mtd f' n acc
 | 0, _, n, _, h, _ => absurd h (by omega)
 | _ + 1, 0, n, _, _, h => absurd h (by omega)
 | f + 1, f' + 1, n, acc, h, h' => by
  by_cases h0 : n = 0
  ·simp [mtd, h0]
  ·rw [zg7 _ _ _ (by omega), zg7 _ _ _ (by omega)]
   exact zkl f f' _ _ (by omega) (by omega)
theorem zt6 {n : Nat} (h : n < 256) : IntKind.u8.wrap (n : Int) = n := by
 have e : IntKind.u8.wrap (n : Int) = (n : Int) % 256 := rfl
 rw [e]; omega
theorem zb4 (k : Nat) (hk0 : 0 < k) (hk : k <= 4611686018427387904) : FC Tryd.prog 32 [iD k] [sD (mtx k)] := by
 have h0 : ((k : Int) <= 0) = False := by simp; omega
 refine zbh Tryd.call32 Tryd.func32 rfl (by kernel_rfl) (zcr (by kernel_rfl)) ?_
 simp -implicitDefEqProofs only [go_sem, Tryd.results32, h0]
 refine zax (fun (x : Nat × Str) => hd [(0, vI x.1), (3, vT (.str x.2))] [] []) (fun x => mtx k = 109 :: mtd (x.1 + 1) x.1 x.2 /\ x.1 * 10 ^ x.2.length <= k /\ x.2.length <= 19) (fun x => x.1) (k, []) (zah ?_) ?_ ?_
 ·simp -implicitDefEqProofs only [go_sem]
 ·exact ⟨rfl, by simp, by simp⟩
 ·intro ⟨n, s⟩ ⟨h1, h2, hl⟩
  have hl : s.length <= 19 := hl
  have hn : n <= k := Nat.le_trans (Nat.le_mul_of_pos_right _ (Nat.pow_pos (by omega))) h2
  have hs : s.length <= 18 \/ n = 0 := by
   by_cases h : n = 0
   ·exact Or.inr h
   ·left
    refine Nat.le_of_not_lt fun hl => ?_
    have : 10 ^ 19 <= 10 ^ s.length := Nat.pow_le_pow_right (by omega) (by omega)
    have : 1 * 10 ^ s.length <= n * 10 ^ s.length := Nat.mul_le_mul_right _ (by omega)
    have h2 : n * 10 ^ s.length <= k := h2
    omega
  by_cases hp : 0 < n
  ·have hp' : ((n : Int) > 0) = True := by simp; omega
   have e1 : (n : Int).tmod 10 = ((n % 10 : Nat) : Int) := by rw [Int.tmod_eq_emod_of_nonneg (by omega)]; omega
   have e2 : (n : Int).tdiv 10 = ((n / 10 : Nat) : Int) := by rw [Int.tdiv_eq_ediv_of_nonneg (by omega)]; omega
   have e3 : IntKind.i64.wrap (48 + ((n % 10 : Nat) : Int)) = ((48 + n % 10 : Nat) : Int) := by rw [zbs (by omega) (by omega)]; omega
   have e4 : IntKind.u8.wrap ((48 + n % 10 : Nat) : Int) = ((48 + n % 10 : Nat) : Int) := zt6 (by omega)
   have e5 : IntKind.i64.wrap ((n / 10 : Nat) : Int) = ((n / 10 : Nat) : Int) := zbs (by omega) (by omega)
   simp -implicitDefEqProofs only [go_sem, hp', e1, e2, e3, e4, e5]
   refine ⟨by omega, ?_⟩
   refine zcq (by simp -implicitDefEqProofs only [go_sem]) ?_
   simp -implicitDefEqProofs only [go_sem]
   have hs' : s.length <= 18 := by omega
   refine ⟨by omega, by omega, (n / 10, UInt8.ofNat (48 + n % 10) :: s), ⟨?_, ?_, show s.length + 1 <= 19 by omega⟩, by omega, zah (by simp -implicitDefEqProofs only [go_sem, e2, e5])⟩
   ·rw [h1]
    show (109 :: mtd (n + 1) n s : Str) = 109 :: mtd (n / 10 + 1) (n / 10) (UInt8.ofNat (48 + n % 10) :: s)
    rw [zg7 _ _ _ hp, zkl n (n / 10 + 1) _ _ (by omega) (by omega)]
   ·show n / 10 * 10 ^ (s.length + 1) <= k
    rw [Nat.pow_succ, Nat.mul_comm _ 10, <- Nat.mul_assoc]
    exact Nat.le_trans (Nat.mul_le_mul_right _ (by omega)) h2
  ·have h0' : n = 0 := by omega
   subst h0'
   simp -implicitDefEqProofs only [go_sem]
   refine ⟨by omega, ?_⟩
   rw [h1]; simp [mtd]
end Go.Proofs.YteeaofpphmhjdaaDoor
namespace Go.Proofs.YteeaofpphmhjdaaDoor
set_option linter.unusedSimpArgs false
set_option linter.unusedVariables false
set_option linter.unusedSectionVars false
set_option maxRecDepth 4000
open Go.RowKit
mutual
def zde : Tm -> Nat -> Tm × Nat
 | .mk n0 s0, k => (.mk (mtx k) (zal s0 (k + 1)).1, (zal s0 (k + 1)).2)
def zal : List Tm -> Nat -> List Tm × Nat
 | [], k => ([], k)
 | a :: xs, k => ((zde a k).1 :: (zal xs (zde a k).2).1, (zal xs (zde a k).2).2)
end
mutual
def zdn : Tm -> Nat
 | .mk n0 s0 => 1 + 1 + zbt s0
def zbt : List Tm -> Nat
 | [] => 0
 | a :: xs => zdn a + zbt xs
end
mutual
theorem znp : ∀ (a : Tm) (k : Nat), k <= (zde a k).2 /\ (zde a k).2 <= k + zdn a
 | .mk n0 s0, k => by have h_s0 := zbv s0 (k + 1); simp only [zde, zdn]; omega
theorem zbv : ∀ (xs : List Tm) (k : Nat), k <= (zal xs k).2 /\ (zal xs k).2 <= k + zbt xs
 | [], k => ⟨Nat.le_refl _, Nat.le_refl _⟩
 | a :: xs, k => by have h1 := znp a k; have h2 := zbv xs (zde a k).2; simp only [zal, zbt]; omega
end
theorem zfp : ∀ xs : List Tm, xs.length <= zbt xs
 | [] => Nat.le_refl _
 | a :: xs => by
  have := zfp xs
  have : 1 <= zdn a := by obtain ⟨n0, s0⟩ := a; simp only [zdn]; omega
  simp only [List.length_cons, zbt]; omega
theorem zes (xs : List Tm) (H : ∀ a ∈ xs, ∀ k : Nat, 0 < k -> k + zbt a.args <= 4611686018427387904 -> IC Tryd.prog 31 [] (.one (tmS a.args)) [iD k] (.one (tmS (zal a.args k).1)) [iD (zal a.args k).2]) :
  ∀ k : Nat, 0 < k -> k + zbt xs <= 4611686018427387904 -> IC Tryd.prog 31 [] (.one (tmS xs)) [iD k] (.one (tmS (zal xs k).1)) [iD (zal xs k).2] := by
 intro k h0 hk
 refine zny Tryd.call31 Tryd.func31 rfl (by kernel_rfl) (by simp only [zb9, rd, List.map_cons, List.map_nil, List.nil_append, List.length_cons, List.length_nil, Tryd.ntmps31]; omega) (by simp only [Tryd.ntmps31]; omega) (fun vs => ?_)
 simp -implicitDefEqProofs only [go_sem, Tryd.results31, zp8, zhd, zb9, PI]
 refine zax (fun (x : List Tm × List Tm × Nat) => hd [(0, .one (.ow 0 0)), (1000000, .one (.ow 0 0)), (1, vI x.2.2), (5, vI x.1.length)] [] [(0, ⟨true, 2, x.1.map tmC ++ zdc vs x.1.length (x.2.1.map tmC), 0, true⟩)])
  (fun x => (zal xs k).1 = x.1 ++ (zal x.2.1 x.2.2).1 /\ (zal xs k).2 = (zal x.2.1 x.2.2).2 /\ 0 < x.2.2 /\ x.2.2 + zbt x.2.1 <= 4611686018427387904 /\ x.1.length + x.2.1.length = xs.length /\ ∀ a ∈ x.2.1, a ∈ xs) (fun x => x.2.1.length) ([], xs, k) (zah ?_) ?_ ?_
 ·simp -implicitDefEqProofs only [go_sem]
 ·exact ⟨rfl, rfl, h0, hk, by simp, fun _ h => h⟩
 ·intro ⟨dn, rest, kk⟩ ⟨h1, h2, h3, h4, h6, h5⟩
  simp only at h1 h2 h3 h4 h5 h6
  cases rest with
  | nil =>
   simp only [zal, List.append_nil] at h1 h2
   simp -implicitDefEqProofs only [go_sem, h1, h2]
  | cons a rest =>
   obtain ⟨n0, s0⟩ := a
   simp only [zal, zde, zbt, zdn] at h1 h2 h4
   have hc_s0 := zbv s0 (kk + 1)
   have w0 : IntKind.i64.wrap (((kk : Nat) : Int) + 1) = ((kk + 1 : Nat) : Int) := za4 (by omega)
   have hln := zfp xs
   rw [List.length_cons] at h6
   have wl : IntKind.i64.wrap ((dn.length : Int) + 1) = ((dn.length + 1 : Nat) : Int) := za4 (by omega)
   simp -implicitDefEqProofs only [go_sem, zap (.mk _ _), Tm.name, Tm.args]
   refine callF (zb4 kk (by omega) (by omega)) (by simp -implicitDefEqProofs only [go_sem, w0]) ?_
   simp -implicitDefEqProofs only [go_sem, w0]
   refine zf1 (by simp -implicitDefEqProofs only [go_sem, implies_true, w0]) ?_
   simp -implicitDefEqProofs only [go_sem, implies_true, w0]
   refine ztr (l := [(0, .one (.ow 0 0)), (1000000, .one (.ow 0 0)), (5, vI dn.length), (24, .one (.cv (vs dn.length 1))), (25, vI ((kk + 1) : Nat))]) (bl := []) (el := [(0, ⟨true, 2, dn.map tmC ++ [.str (mtx kk), .pin (vs dn.length 1) (tmS s0)] :: zdc vs (dn.length + 1) (rest.map tmC), 0, true⟩)]) 0 dn.length 1 (H (.mk n0 s0) (h5 _ (by simp)) (kk + 1) (by omega) (by show (kk + 1) + zbt s0 <= _; omega)) (by simp -implicitDefEqProofs only [go_sem, w0, tmS]) rfl rfl rfl (by simp -implicitDefEqProofs only [go_sem, tmS, Tm.name, Tm.args]) rfl ?_
   simp -implicitDefEqProofs only [go_sem, w0, Tm.name, Tm.args]
   refine ⟨(dn ++ [.mk (mtx kk) (zal s0 (kk + 1)).1], rest, (zal s0 (kk + 1)).2), ⟨by simpa using h1, h2, by show 0 < (zal s0 (kk + 1)).2; omega, by show (zal s0 (kk + 1)).2 + zbt rest <= _; omega, by simp; omega, fun b hb => h5 b (by simp [hb])⟩, by simp, zah ?_⟩
   simp -implicitDefEqProofs only [go_sem, wl, zap (.mk _ _), Tm.name, Tm.args, List.map_append, List.append_assoc]
theorem zfu (xs : List Tm) (k : Nat) (h0 : 0 < k) (hk : k + zbt xs <= 4611686018427387904) : IC Tryd.prog 31 [] (.one (tmS xs)) [iD k] (.one (tmS (zal xs k).1)) [iD (zal xs k).2] :=
 zes xs (fun a _ => zhw (P := fun a => ∀ k : Nat, 0 < k -> k + zbt a.args <= 4611686018427387904 -> IC Tryd.prog 31 [] (.one (tmS a.args)) [iD k] (.one (tmS (zal a.args k).1)) [iD (zal a.args k).2]) (fun n ys ih => zes ys ih) a) k h0 hk
theorem zer (xs : List Tm) (H : ∀ a ∈ xs, ∀ k : Nat, 0 < k -> k + zbt a.args <= 4611686018427387904 -> FC Tryd.prog 33 [.one (tmS (zal a.args k).1), iD k] [iD (zal a.args k).2]) :
  ∀ k : Nat, 0 < k -> k + zbt xs <= 4611686018427387904 -> FC Tryd.prog 33 [.one (tmS (zal xs k).1), iD k] [iD (zal xs k).2] := by
 intro k h0 hk
 refine zbh Tryd.call33 Tryd.func33 rfl (by kernel_rfl) (zcr (by kernel_rfl)) ?_
 simp -implicitDefEqProofs only [go_sem, Tryd.results33]
 refine zax (fun (x : List Tm × List Tm × Nat) => hd [(0, vT (.sl 2 (x.1.map tmC ++ (zal x.2.1 x.2.2).1.map tmC))), (1, vI x.2.2), (5, vI x.1.length)] [] [])
  (fun x => (zal xs k).1 = x.1 ++ (zal x.2.1 x.2.2).1 /\ (zal xs k).2 = (zal x.2.1 x.2.2).2 /\ 0 < x.2.2 /\ x.2.2 + zbt x.2.1 <= 4611686018427387904 /\ x.1.length + x.2.1.length = xs.length /\ ∀ a ∈ x.2.1, a ∈ xs) (fun x => x.2.1.length) ([], xs, k) (zah ?_) ?_ ?_
 ·simp -implicitDefEqProofs only [go_sem]
 ·exact ⟨rfl, rfl, h0, hk, by simp, fun _ h => h⟩
 ·intro ⟨dn, rest, kk⟩ ⟨h1, h2, h3, h4, h6, h5⟩
  simp only at h1 h2 h3 h4 h5 h6
  cases rest with
  | nil =>
   simp only [zal, List.append_nil] at h1 h2
   simp -implicitDefEqProofs only [go_sem, h2, zal]
  | cons a rest =>
   obtain ⟨n0, s0⟩ := a
   simp only [zal, zde, zbt, zdn] at h1 h2 h4
   have hc_s0 := zbv s0 (kk + 1)
   have w0 : IntKind.i64.wrap (((kk : Nat) : Int) + 1) = ((kk + 1 : Nat) : Int) := za4 (by omega)
   have hln := zfp xs
   rw [List.length_cons] at h6
   have wl : IntKind.i64.wrap ((dn.length : Int) + 1) = ((dn.length + 1 : Nat) : Int) := za4 (by omega)
   simp -implicitDefEqProofs only [go_sem, zal, zde, zap (.mk _ _), Tm.name, Tm.args]
   refine drawn (by kernel_rfl) ?_
   simp -implicitDefEqProofs only [go_sem]
   refine zbz (zb4 kk (by omega) (by omega)) (by simp -implicitDefEqProofs only [go_sem, beq_self_eq_true, bne_self_eq_false, w0]) ?_
   simp -implicitDefEqProofs only [go_sem, beq_self_eq_true, bne_self_eq_false, w0]
   refine ⟨by kernel_rfl, ?_⟩
   refine callF (H (.mk n0 s0) (h5 _ (by simp)) (kk + 1) (by omega) (by show (kk + 1) + zbt s0 <= _; omega)) (by simp -implicitDefEqProofs only [go_sem, w0, Tm.name, Tm.args]) ?_
   simp -implicitDefEqProofs only [go_sem, w0, Tm.name, Tm.args]
   refine ⟨(dn ++ [.mk (mtx kk) (zal s0 (kk + 1)).1], rest, (zal s0 (kk + 1)).2), ⟨by simpa using h1, h2, by show 0 < (zal s0 (kk + 1)).2; omega, by show (zal s0 (kk + 1)).2 + zbt rest <= _; omega, by simp; omega, fun b hb => h5 b (by simp [hb])⟩, by simp, zah ?_⟩
   simp -implicitDefEqProofs only [go_sem, wl, zap (.mk _ _), Tm.name, Tm.args, List.map_append, List.append_assoc]
theorem ze7 (xs : List Tm) (k : Nat) (h0 : 0 < k) (hk : k + zbt xs <= 4611686018427387904) : FC Tryd.prog 33 [.one (tmS (zal xs k).1), iD k] [iD (zal xs k).2] :=
 zer xs (fun a _ => zhw (P := fun a => ∀ k : Nat, 0 < k -> k + zbt a.args <= 4611686018427387904 -> FC Tryd.prog 33 [.one (tmS (zal a.args k).1), iD k] [iD (zal a.args k).2]) (fun n ys ih => zer ys ih) a) k h0 hk
mutual
def zdf : Fm -> Nat -> Fm × Nat
 | .mk o0 (.mk n0 s0) v0 p0, k => (.mk ((k : Nat) : Int) (.mk (mtx (k + 1)) (zal s0 ((k + 1) + 1)).1) (mtx (zal s0 ((k + 1) + 1)).2) (za0 p0 ((zal s0 ((k + 1) + 1)).2 + 1)).1, (za0 p0 ((zal s0 ((k + 1) + 1)).2 + 1)).2)
def za0 : List Fm -> Nat -> List Fm × Nat
 | [], k => ([], k)
 | a :: xs, k => ((zdf a k).1 :: (za0 xs (zdf a k).2).1, (za0 xs (zdf a k).2).2)
end
mutual
def zdz : Fm -> Nat
 | .mk o0 (.mk n0 s0) v0 p0 => 1 + 1 + 1 + zbt s0 + 1 + zbw p0
def zbw : List Fm -> Nat
 | [] => 0
 | a :: xs => zdz a + zbw xs
end
mutual
theorem zly : ∀ (a : Fm) (k : Nat), k <= (zdf a k).2 /\ (zdf a k).2 <= k + zdz a
 | .mk o0 (.mk n0 s0) v0 p0, k => by have h_s0 := zbv s0 ((k + 1) + 1); have h_p0 := zco p0 ((zal s0 ((k + 1) + 1)).2 + 1); simp only [zdf, zdz]; omega
theorem zco : ∀ (xs : List Fm) (k : Nat), k <= (za0 xs k).2 /\ (za0 xs k).2 <= k + zbw xs
 | [], k => ⟨Nat.le_refl _, Nat.le_refl _⟩
 | a :: xs, k => by have h1 := zly a k; have h2 := zco xs (zdf a k).2; simp only [za0, zbw]; omega
end
theorem zfd : ∀ xs : List Fm, xs.length <= zbw xs
 | [] => Nat.le_refl _
 | a :: xs => by
  have := zfd xs
  have : 1 <= zdz a := by obtain ⟨o0, ⟨n0, s0⟩, v0, p0⟩ := a; simp only [zdz]; omega
  simp only [List.length_cons, zbw]; omega
theorem zc3 (xs : List Fm) (H : ∀ a ∈ xs, ∀ k : Nat, 0 < k -> k + zbw a.parts <= 4611686018427387904 -> IC Tryd.prog 19 [] (.one (fmS a.parts)) [iD k] (.one (fmS (za0 a.parts k).1)) [iD (za0 a.parts k).2]) :
  ∀ k : Nat, 0 < k -> k + zbw xs <= 4611686018427387904 -> IC Tryd.prog 19 [] (.one (fmS xs)) [iD k] (.one (fmS (za0 xs k).1)) [iD (za0 xs k).2] := by
 intro k h0 hk
 refine zny Tryd.call19 Tryd.func19 rfl (by kernel_rfl) (by simp only [zb9, rd, List.map_cons, List.map_nil, List.nil_append, List.length_cons, List.length_nil, Tryd.ntmps19]; omega) (by simp only [Tryd.ntmps19]; omega) (fun vs => ?_)
 simp -implicitDefEqProofs only [go_sem, Tryd.results19, zp8, zhd, zb9, PI]
 refine zax (fun (x : List Fm × List Fm × Nat) => hd [(0, .one (.ow 0 0)), (1000000, .one (.ow 0 0)), (1, vI x.2.2), (5, vI x.1.length)] [] [(0, ⟨true, 5, x.1.map fmC ++ zdc vs x.1.length (x.2.1.map fmC), 0, true⟩)])
  (fun x => (za0 xs k).1 = x.1 ++ (za0 x.2.1 x.2.2).1 /\ (za0 xs k).2 = (za0 x.2.1 x.2.2).2 /\ 0 < x.2.2 /\ x.2.2 + zbw x.2.1 <= 4611686018427387904 /\ x.1.length + x.2.1.length = xs.length /\ ∀ a ∈ x.2.1, a ∈ xs) (fun x => x.2.1.length) ([], xs, k) (zah ?_) ?_ ?_
 ·simp -implicitDefEqProofs only [go_sem]
 ·exact ⟨rfl, rfl, h0, hk, by simp, fun _ h => h⟩
 ·intro ⟨dn, rest, kk⟩ ⟨h1, h2, h3, h4, h6, h5⟩
  simp only at h1 h2 h3 h4 h5 h6
  cases rest with
  | nil =>
   simp only [za0, List.append_nil] at h1 h2
   simp -implicitDefEqProofs only [go_sem, h1, h2]
  | cons a rest =>
   obtain ⟨o0, ⟨n0, s0⟩, v0, p0⟩ := a
   simp only [za0, zdf, zbw, zdz] at h1 h2 h4
   have hc_s0 := zbv s0 ((kk + 1) + 1)
   have hc_p0 := zco p0 ((zal s0 ((kk + 1) + 1)).2 + 1)
   have w0 : IntKind.i64.wrap (((kk : Nat) : Int) + 1) = ((kk + 1 : Nat) : Int) := za4 (by omega)
   have w1 : IntKind.i64.wrap ((((kk + 1) : Nat) : Int) + 1) = (((kk + 1) + 1 : Nat) : Int) := za4 (by omega)
   have w2 : IntKind.i64.wrap ((((zal s0 ((kk + 1) + 1)).2 : Nat) : Int) + 1) = (((zal s0 ((kk + 1) + 1)).2 + 1 : Nat) : Int) := za4 (by omega)
   have hln := zfd xs
   rw [List.length_cons] at h6
   have wl : IntKind.i64.wrap ((dn.length : Int) + 1) = ((dn.length + 1 : Nat) : Int) := za4 (by omega)
   simp -implicitDefEqProofs only [go_sem, zao (.mk _ _ _ _), Fm.op, Fm.atom, Fm.var, Fm.parts, Tm.name, Tm.args]
   refine zf1 (by simp -implicitDefEqProofs only [go_sem, implies_true, w0, w1, w2]) ?_
   simp -implicitDefEqProofs only [go_sem, implies_true, w0, w1, w2]
   refine callF (zb4 (kk + 1) (by omega) (by omega)) (by simp -implicitDefEqProofs only [go_sem, w0, w1, w2]) ?_
   simp -implicitDefEqProofs only [go_sem, w0, w1, w2]
   refine zf1 (by simp -implicitDefEqProofs only [go_sem, implies_true, w0, w1, w2]) ?_
   simp -implicitDefEqProofs only [go_sem, implies_true, w0, w1, w2]
   refine ztr (l := [(0, .one (.ow 0 0)), (1000000, .one (.ow 0 0)), (5, vI dn.length), (33, .one (.cv (vs dn.length 2))), (34, vI (((kk + 1) + 1) : Nat))]) (bl := []) (el := [(0, ⟨true, 5, dn.map fmC ++ [.int .i64 ((kk : Nat) : Int), .str (mtx (kk + 1)), .pin (vs dn.length 2) (tmS s0), .str v0, .pin (vs dn.length 4) (fmS p0)] :: zdc vs (dn.length + 1) (rest.map fmC), 0, true⟩)]) 0 dn.length 2 (zfu s0 ((kk + 1) + 1) (by omega) (by omega)) (by simp -implicitDefEqProofs only [go_sem, w0, w1, w2, tmS]) rfl rfl rfl (by simp -implicitDefEqProofs only [go_sem, tmS, Fm.op, Fm.atom, Fm.var, Fm.parts, Tm.name, Tm.args]) rfl ?_
   simp -implicitDefEqProofs only [go_sem, w0, w1, w2, Fm.op, Fm.atom, Fm.var, Fm.parts, Tm.name, Tm.args]
   refine callF (zb4 (zal s0 ((kk + 1) + 1)).2 (by omega) (by omega)) (by simp -implicitDefEqProofs only [go_sem, w0, w1, w2]) ?_
   simp -implicitDefEqProofs only [go_sem, w0, w1, w2]
   refine zf1 (by simp -implicitDefEqProofs only [go_sem, implies_true, w0, w1, w2]) ?_
   simp -implicitDefEqProofs only [go_sem, implies_true, w0, w1, w2]
   refine ztr (l := [(0, .one (.ow 0 0)), (1000000, .one (.ow 0 0)), (5, vI dn.length), (48, .one (.cv (vs dn.length 4))), (49, vI (((zal s0 ((kk + 1) + 1)).2 + 1) : Nat))]) (bl := []) (el := [(0, ⟨true, 5, dn.map fmC ++ [.int .i64 ((kk : Nat) : Int), .str (mtx (kk + 1)), tmS (zal s0 ((kk + 1) + 1)).1, .str (mtx (zal s0 ((kk + 1) + 1)).2), .pin (vs dn.length 4) (fmS p0)] :: zdc vs (dn.length + 1) (rest.map fmC), 0, true⟩)]) 0 dn.length 4 (H (.mk o0 (.mk n0 s0) v0 p0) (h5 _ (by simp)) ((zal s0 ((kk + 1) + 1)).2 + 1) (by omega) (by show ((zal s0 ((kk + 1) + 1)).2 + 1) + zbw p0 <= _; omega)) (by simp -implicitDefEqProofs only [go_sem, w0, w1, w2, fmS]) rfl rfl rfl (by simp -implicitDefEqProofs only [go_sem, fmS, Fm.op, Fm.atom, Fm.var, Fm.parts, Tm.name, Tm.args]) rfl ?_
   simp -implicitDefEqProofs only [go_sem, w0, w1, w2, Fm.op, Fm.atom, Fm.var, Fm.parts, Tm.name, Tm.args]
   refine ⟨(dn ++ [.mk ((kk : Nat) : Int) (.mk (mtx (kk + 1)) (zal s0 ((kk + 1) + 1)).1) (mtx (zal s0 ((kk + 1) + 1)).2) (za0 p0 ((zal s0 ((kk + 1) + 1)).2 + 1)).1], rest, (za0 p0 ((zal s0 ((kk + 1) + 1)).2 + 1)).2), ⟨by simpa using h1, h2, by show 0 < (za0 p0 ((zal s0 ((kk + 1) + 1)).2 + 1)).2; omega, by show (za0 p0 ((zal s0 ((kk + 1) + 1)).2 + 1)).2 + zbw rest <= _; omega, by simp; omega, fun b hb => h5 b (by simp [hb])⟩, by simp, zah ?_⟩
   simp -implicitDefEqProofs only [go_sem, wl, zao (.mk _ _ _ _), Fm.op, Fm.atom, Fm.var, Fm.parts, Tm.name, Tm.args, List.map_append, List.append_assoc]
theorem zfz (xs : List Fm) (k : Nat) (h0 : 0 < k) (hk : k + zbw xs <= 4611686018427387904) : IC Tryd.prog 19 [] (.one (fmS xs)) [iD k] (.one (fmS (za0 xs k).1)) [iD (za0 xs k).2] :=
 zc3 xs (fun a _ => zim (P := fun a => ∀ k : Nat, 0 < k -> k + zbw a.parts <= 4611686018427387904 -> IC Tryd.prog 19 [] (.one (fmS a.parts)) [iD k] (.one (fmS (za0 a.parts k).1)) [iD (za0 a.parts k).2]) (fun o b v ps ih => zc3 ps ih) a) k h0 hk
theorem zcx (xs : List Fm) (H : ∀ a ∈ xs, ∀ k : Nat, 0 < k -> k + zbw a.parts <= 4611686018427387904 -> FC Tryd.prog 21 [.one (fmS (za0 a.parts k).1), iD k] [iD (za0 a.parts k).2]) :
  ∀ k : Nat, 0 < k -> k + zbw xs <= 4611686018427387904 -> FC Tryd.prog 21 [.one (fmS (za0 xs k).1), iD k] [iD (za0 xs k).2] := by
 intro k h0 hk
 refine zbh Tryd.call21 Tryd.func21 rfl (by kernel_rfl) (zcr (by kernel_rfl)) ?_
 simp -implicitDefEqProofs only [go_sem, Tryd.results21]
 refine zax (fun (x : List Fm × List Fm × Nat) => hd [(0, vT (.sl 5 (x.1.map fmC ++ (za0 x.2.1 x.2.2).1.map fmC))), (1, vI x.2.2), (5, vI x.1.length)] [] [])
  (fun x => (za0 xs k).1 = x.1 ++ (za0 x.2.1 x.2.2).1 /\ (za0 xs k).2 = (za0 x.2.1 x.2.2).2 /\ 0 < x.2.2 /\ x.2.2 + zbw x.2.1 <= 4611686018427387904 /\ x.1.length + x.2.1.length = xs.length /\ ∀ a ∈ x.2.1, a ∈ xs) (fun x => x.2.1.length) ([], xs, k) (zah ?_) ?_ ?_
 ·simp -implicitDefEqProofs only [go_sem]
 ·exact ⟨rfl, rfl, h0, hk, by simp, fun _ h => h⟩
 ·intro ⟨dn, rest, kk⟩ ⟨h1, h2, h3, h4, h6, h5⟩
  simp only at h1 h2 h3 h4 h5 h6
  cases rest with
  | nil =>
   simp only [za0, List.append_nil] at h1 h2
   simp -implicitDefEqProofs only [go_sem, h2, za0]
  | cons a rest =>
   obtain ⟨o0, ⟨n0, s0⟩, v0, p0⟩ := a
   simp only [za0, zdf, zbw, zdz] at h1 h2 h4
   have hc_s0 := zbv s0 ((kk + 1) + 1)
   have hc_p0 := zco p0 ((zal s0 ((kk + 1) + 1)).2 + 1)
   have w0 : IntKind.i64.wrap (((kk : Nat) : Int) + 1) = ((kk + 1 : Nat) : Int) := za4 (by omega)
   have w1 : IntKind.i64.wrap ((((kk + 1) : Nat) : Int) + 1) = (((kk + 1) + 1 : Nat) : Int) := za4 (by omega)
   have w2 : IntKind.i64.wrap ((((zal s0 ((kk + 1) + 1)).2 : Nat) : Int) + 1) = (((zal s0 ((kk + 1) + 1)).2 + 1 : Nat) : Int) := za4 (by omega)
   have hln := zfd xs
   rw [List.length_cons] at h6
   have wl : IntKind.i64.wrap ((dn.length : Int) + 1) = ((dn.length + 1 : Nat) : Int) := za4 (by omega)
   simp -implicitDefEqProofs only [go_sem, za0, zdf, zao (.mk _ _ _ _), Fm.op, Fm.atom, Fm.var, Fm.parts, Tm.name, Tm.args]
   simp only [bne_self_eq_false]
   simp -implicitDefEqProofs only [go_sem, w0, w1, w2]
   refine drawn (by kernel_rfl) ?_
   simp -implicitDefEqProofs only [go_sem]
   refine zbz (zb4 (kk + 1) (by omega) (by omega)) (by simp -implicitDefEqProofs only [go_sem, beq_self_eq_true, bne_self_eq_false, w0, w1, w2]) ?_
   simp -implicitDefEqProofs only [go_sem, beq_self_eq_true, bne_self_eq_false, w0, w1, w2]
   refine ⟨by kernel_rfl, ?_⟩
   refine callF (ze7 s0 ((kk + 1) + 1) (by omega) (by omega)) (by simp -implicitDefEqProofs only [go_sem, w0, w1, w2, Fm.op, Fm.atom, Fm.var, Fm.parts, Tm.name, Tm.args]) ?_
   simp -implicitDefEqProofs only [go_sem, w0, w1, w2, Fm.op, Fm.atom, Fm.var, Fm.parts, Tm.name, Tm.args]
   refine drawn (by kernel_rfl) ?_
   simp -implicitDefEqProofs only [go_sem]
   refine zbz (zb4 (zal s0 ((kk + 1) + 1)).2 (by omega) (by omega)) (by simp -implicitDefEqProofs only [go_sem, beq_self_eq_true, bne_self_eq_false, w0, w1, w2]) ?_
   simp -implicitDefEqProofs only [go_sem, beq_self_eq_true, bne_self_eq_false, w0, w1, w2]
   refine ⟨by kernel_rfl, ?_⟩
   refine callF (H (.mk o0 (.mk n0 s0) v0 p0) (h5 _ (by simp)) ((zal s0 ((kk + 1) + 1)).2 + 1) (by omega) (by show ((zal s0 ((kk + 1) + 1)).2 + 1) + zbw p0 <= _; omega)) (by simp -implicitDefEqProofs only [go_sem, w0, w1, w2, Fm.op, Fm.atom, Fm.var, Fm.parts, Tm.name, Tm.args]) ?_
   simp -implicitDefEqProofs only [go_sem, w0, w1, w2, Fm.op, Fm.atom, Fm.var, Fm.parts, Tm.name, Tm.args]
   refine ⟨(dn ++ [.mk ((kk : Nat) : Int) (.mk (mtx (kk + 1)) (zal s0 ((kk + 1) + 1)).1) (mtx (zal s0 ((kk + 1) + 1)).2) (za0 p0 ((zal s0 ((kk + 1) + 1)).2 + 1)).1], rest, (za0 p0 ((zal s0 ((kk + 1) + 1)).2 + 1)).2), ⟨by simpa using h1, h2, by show 0 < (za0 p0 ((zal s0 ((kk + 1) + 1)).2 + 1)).2; omega, by show (za0 p0 ((zal s0 ((kk + 1) + 1)).2 + 1)).2 + zbw rest <= _; omega, by simp; omega, fun b hb => h5 b (by simp [hb])⟩, by simp, zah ?_⟩
   simp -implicitDefEqProofs only [go_sem, wl, zao (.mk _ _ _ _), Fm.op, Fm.atom, Fm.var, Fm.parts, Tm.name, Tm.args, List.map_append, List.append_assoc]
theorem zfw (xs : List Fm) (k : Nat) (h0 : 0 < k) (hk : k + zbw xs <= 4611686018427387904) : FC Tryd.prog 21 [.one (fmS (za0 xs k).1), iD k] [iD (za0 xs k).2] :=
 zcx xs (fun a _ => zim (P := fun a => ∀ k : Nat, 0 < k -> k + zbw a.parts <= 4611686018427387904 -> FC Tryd.prog 21 [.one (fmS (za0 a.parts k).1), iD k] [iD (za0 a.parts k).2]) (fun o b v ps ih => zcx ps ih) a) k h0 hk
def zau : Tm -> Nat -> Tm × Nat
 | .mk n0 s0, k => (.mk n0 (zal s0 k).1, (zal s0 k).2)
def zcz : Tm -> Nat
 | .mk n0 s0 => zbt s0
theorem zed : ∀ (a : Tm) (k : Nat), k <= (zau a k).2 /\ (zau a k).2 <= k + zcz a
 | .mk n0 s0, k => by have h0 := zbv s0 k; simp only [zau, zcz]; omega
theorem zlj (a : Tm) (k : Nat) (h0 : 0 < k) (hk : k + zcz a <= 4611686018427387904) : IC Tryd.prog 18 [] (.agg (tmC a)) [iD k] (.agg (tmC (zau a k).1)) [iD (zau a k).2] := by
 obtain ⟨n0, s0⟩ := a
 simp only [zcz] at hk
 have hc0 := zbv s0 k
 simp only [zap (.mk _ _), Tm.name, Tm.args, zau]
 refine IC_of Tryd.call18 Tryd.func18 rfl (by kernel_rfl) (by simp only [zb9, rd, List.map_cons, List.map_nil, List.nil_append, List.length_cons, List.length_nil, Tryd.ntmps18]; omega) (by simp only [Tryd.ntmps18]; omega) ⟨⟨by simp, by simp [T.isPin]⟩, zbx _⟩ trivial ?_
 simp -implicitDefEqProofs only [go_sem, Tryd.results18, zhd, zb9, PI]
 refine zkc (l := [(1000000, .agg [.t (.str n0), .ow 1 0]), (2, .one (.bx 2 0)), (6, .one (.ow 1 0)), (7, vI (k : Nat))]) (bl := [(2, [.t (.str n0), .ow 1 0])]) (el := [(1, ⟨true, 2, (s0).map tmC, 0, true⟩)]) (zfu s0 k (by omega) (by omega)) (by simp -implicitDefEqProofs only [go_sem, zap (.mk _ _), Tm.name, Tm.args, tmS]) rfl rfl rfl (by simp -implicitDefEqProofs only [go_sem, zap (.mk _ _), Tm.name, Tm.args, tmS]) rfl ?_
 simp -implicitDefEqProofs only [go_sem, zap (.mk _ _), Tm.name, Tm.args, tmS]
theorem zlb (a : Tm) (k : Nat) (h0 : 0 < k) (hk : k + zcz a <= 4611686018427387904) : FC Tryd.prog 20 [.agg (tmC (zau a k).1), iD k] [iD (zau a k).2] := by
 obtain ⟨n0, s0⟩ := a
 simp only [zcz] at hk
 have hc0 := zbv s0 k
 simp only [zap (.mk _ _), Tm.name, Tm.args, zau]
 refine zbh Tryd.call20 Tryd.func20 rfl (by kernel_rfl) (zcr (by kernel_rfl)) ?_
 simp -implicitDefEqProofs only [go_sem, Tryd.results20]
 refine callF (ze7 s0 k (by omega) (by omega)) (by simp -implicitDefEqProofs only [go_sem, zap (.mk _ _), Tm.name, Tm.args]) ?_
 simp -implicitDefEqProofs only [go_sem, zap (.mk _ _), Tm.name, Tm.args]
def zaw : Fm -> Nat -> Fm × Nat
 | .mk o0 (.mk n0 s0) v0 p0, k => (.mk o0 (.mk n0 (zau (.mk n0 s0) k).1.args) v0 (za0 p0 (zau (.mk n0 s0) k).2).1, (za0 p0 (zau (.mk n0 s0) k).2).2)
def zbk : Fm -> Nat
 | .mk o0 (.mk n0 s0) v0 p0 => zcz (.mk n0 s0) + zbw p0
theorem zhi : ∀ (a : Fm) (k : Nat), k <= (zaw a k).2 /\ (zaw a k).2 <= k + zbk a
 | .mk o0 (.mk n0 s0) v0 p0, k => by have h0 := zed (.mk n0 s0) k; have h37 := zco p0 (zau (.mk n0 s0) k).2; simp only [zaw, zbk]; omega
theorem zgl (a : Fm) (k : Nat) (h0 : 0 < k) (hk : k + zbk a <= 4611686018427387904) : IC Tryd.prog 10 [] (.agg (fmC a)) [iD k] (.agg (fmC (zaw a k).1)) [iD (zaw a k).2] := by
 obtain ⟨o0, ⟨n0, s0⟩, v0, p0⟩ := a
 simp only [zbk] at hk
 have hc0 := zed (.mk n0 s0) k
 have hc1 := zco p0 (zau (.mk n0 s0) k).2
 simp only [zao (.mk _ _ _ _), zap (.mk _ _), Fm.op, Fm.atom, Fm.var, Fm.parts, Tm.name, Tm.args, zaw, zau]
 refine IC_of Tryd.call10 Tryd.func10 rfl (by kernel_rfl) (by simp only [zb9, rd, List.map_cons, List.map_nil, List.nil_append, List.length_cons, List.length_nil, Tryd.ntmps10]; omega) (by simp only [Tryd.ntmps10]; omega) ⟨⟨by simp, by simp [T.isPin]⟩, zbx _⟩ trivial ?_
 simp -implicitDefEqProofs only [go_sem, Tryd.results10, zhd, zb9, PI]
 refine zkc (l := [(1000000, .agg [.t (.int .i64 o0), .t (.str n0), .ow 2 0, .t (.str v0), .ow 4 0]), (2, .one (.bx 2 0)), (6, .agg [.t (.str n0), .ow 2 0]), (7, vI (k : Nat))]) (bl := [(2, [.t (.int .i64 o0), .t (.str n0), .ow 2 0, .t (.str v0), .ow 4 0])]) (el := [(2, ⟨true, 2, (s0).map tmC, 0, true⟩), (4, ⟨true, 5, (p0).map fmC, 0, true⟩)]) (zlj (.mk n0 s0) k (by omega) (by omega)) (by simp -implicitDefEqProofs only [go_sem, zao (.mk _ _ _ _), zap (.mk _ _), Fm.op, Fm.atom, Fm.var, Fm.parts, Tm.name, Tm.args, zau, tmS]) rfl rfl rfl (by simp -implicitDefEqProofs only [go_sem, zao (.mk _ _ _ _), zap (.mk _ _), Fm.op, Fm.atom, Fm.var, Fm.parts, Tm.name, Tm.args, zau, tmS]) rfl ?_
 simp -implicitDefEqProofs only [go_sem, zao (.mk _ _ _ _), zap (.mk _ _), Fm.op, Fm.atom, Fm.var, Fm.parts, Tm.name, Tm.args, zau, tmS]
 refine zkc (l := [(1000000, .agg [.t (.int .i64 o0), .t (.str n0), .ow 2 0, .t (.str v0), .ow 4 0]), (2, .one (.bx 2 0)), (10, .one (.ow 4 0)), (11, vI ((zau (.mk n0 s0) k).2 : Nat))]) (bl := [(2, [.t (.int .i64 o0), .t (.str n0), .ow 2 0, .t (.str v0), .ow 4 0])]) (el := [(2, ⟨true, 2, ((zal s0 k).1).map tmC, 0, true⟩), (4, ⟨true, 5, (p0).map fmC, 0, true⟩)]) (zfz p0 (zau (.mk n0 s0) k).2 (by omega) (by omega)) (by simp -implicitDefEqProofs only [go_sem, zao (.mk _ _ _ _), zap (.mk _ _), Fm.op, Fm.atom, Fm.var, Fm.parts, Tm.name, Tm.args, zau, fmS]) rfl rfl rfl (by simp -implicitDefEqProofs only [go_sem, zao (.mk _ _ _ _), zap (.mk _ _), Fm.op, Fm.atom, Fm.var, Fm.parts, Tm.name, Tm.args, zau, fmS]) rfl ?_
 simp -implicitDefEqProofs only [go_sem, zao (.mk _ _ _ _), zap (.mk _ _), Fm.op, Fm.atom, Fm.var, Fm.parts, Tm.name, Tm.args, zau, fmS]
theorem zgj (a : Fm) (k : Nat) (h0 : 0 < k) (hk : k + zbk a <= 4611686018427387904) : FC Tryd.prog 11 [.agg (fmC (zaw a k).1), iD k] [iD (zaw a k).2] := by
 obtain ⟨o0, ⟨n0, s0⟩, v0, p0⟩ := a
 simp only [zbk] at hk
 have hc0 := zed (.mk n0 s0) k
 have hc1 := zco p0 (zau (.mk n0 s0) k).2
 simp only [zao (.mk _ _ _ _), zap (.mk _ _), Fm.op, Fm.atom, Fm.var, Fm.parts, Tm.name, Tm.args, zaw]
 refine zbh Tryd.call11 Tryd.func11 rfl (by kernel_rfl) (zcr (by kernel_rfl)) ?_
 simp -implicitDefEqProofs only [go_sem, Tryd.results11]
 refine callF (zlb (.mk n0 s0) k (by omega) (by omega)) (by simp -implicitDefEqProofs only [go_sem, zao (.mk _ _ _ _), zap (.mk _ _), Fm.op, Fm.atom, Fm.var, Fm.parts, Tm.name, Tm.args, zau]) ?_
 simp -implicitDefEqProofs only [go_sem, zao (.mk _ _ _ _), zap (.mk _ _), Fm.op, Fm.atom, Fm.var, Fm.parts, Tm.name, Tm.args, zau]
 refine callF (zfw p0 (zau (.mk n0 s0) k).2 (by omega) (by omega)) (by simp -implicitDefEqProofs only [go_sem, zao (.mk _ _ _ _), zap (.mk _ _), Fm.op, Fm.atom, Fm.var, Fm.parts, Tm.name, Tm.args, zau]) ?_
 simp -implicitDefEqProofs only [go_sem, zao (.mk _ _ _ _), zap (.mk _ _), Fm.op, Fm.atom, Fm.var, Fm.parts, Tm.name, Tm.args, zau]
end Go.Proofs.YteeaofpphmhjdaaDoor
namespace Go.Proofs.YteeaofpphmhjdaaDoor
set_option linter.unusedSimpArgs false
set_option linter.unusedVariables false
set_option linter.unusedSectionVars false
set_option maxRecDepth 4000
open Go.RowKit
set_option maxHeartbeats 400000 in
theorem zkv (xs ys : List Tm) (H : ∀ x ∈ xs, ∀ y, FC Tryd.prog 16 [tmD x, tmD y] [bD (same x y)]) :
  FC Tryd.prog 30 [.one (tmS xs), .one (tmS ys)] [bD (same xs ys)] := by
 refine zk2 (fun hw => ?_) Tryd.call30
 have hl : xs.length <= 9223372036854775807 := by simpa [zph, wfT] using hw.1.1
 have hl2 : ys.length <= 9223372036854775807 := by simpa [zph, wfT] using hw.2.1.1
 refine zbh Tryd.call30 Tryd.func30 rfl (by kernel_rfl) (zcr (by kernel_rfl)) ?_
 simp -implicitDefEqProofs only [go_sem, Tryd.results30]
 refine ⟨fun h => ?_, fun h => ?_⟩
 ·rw [zcd.2 (by rintro rfl; simp at h)]
 ·have hlen : xs.length = ys.length := by simp at h; omega
  refine zax (fun k : Nat => hd [(0, vT (tmS xs)), (1, vT (tmS ys)), (4, vB false), (5, vI k)] [] []) (fun k => k <= xs.length /\ same xs ys = same (xs.drop k) (ys.drop k)) (fun k => xs.length - k) 0 (zah ?_) ?_ ?_
  ·simp -implicitDefEqProofs only [go_sem]
  ·simp
  ·intro k ⟨hk, hr⟩
   by_cases hlt : k < xs.length
   ·have hk2 : k < ys.length := by omega
    simp -implicitDefEqProofs only [go_sem, List.length_map, hlt]
    refine drawn (by kernel_rfl) ?_
    simp -implicitDefEqProofs only [go_sem, List.length_map, zaz, hlt, hk2, zap]
    refine zbz (H xs[k] (List.getElem_mem hlt) ys[k]) (by simp -implicitDefEqProofs only [go_sem, zap]) ?_
    simp -implicitDefEqProofs only [go_sem, zap]
    refine ⟨by kernel_rfl, fun h => ?_, fun h => ?_⟩
    ·rw [hr, List.drop_eq_getElem_cons hlt, List.drop_eq_getElem_cons hk2, zci, show same xs[k] ys[k] = false by simpa using h]; rfl
    ·rw [List.drop_eq_getElem_cons hlt, List.drop_eq_getElem_cons hk2, zci, show same xs[k] ys[k] = true by simpa using h, Bool.true_and] at hr
     rw [za4 (by omega)]
     exact ⟨k + 1, ⟨by omega, hr⟩, by omega, zah (by simp -implicitDefEqProofs only [go_sem])⟩
   ·simp -implicitDefEqProofs only [go_sem, List.length_map, hlt]
    rw [hr, List.drop_of_length_le (by omega), List.drop_of_length_le (by omega), zg0]
set_option maxHeartbeats 400000 in
theorem znk (a b : Tm) (H : FC Tryd.prog 30 [.one (tmS a.args), .one (tmS b.args)] [bD (same a.args b.args)]) : FC Tryd.prog 16 [tmD a, tmD b] [bD (same a b)] := by
 simp only [tmD, zap]
 refine zbh Tryd.call16 Tryd.func16 rfl (by kernel_rfl) (zcr (by kernel_rfl)) ?_
 simp -implicitDefEqProofs only [go_sem, Tryd.results16]
 refine ⟨fun h1 => ?_, fun h1 => ?_⟩
 ·rw [zcd.2 (by rintro rfl; simp [za1] at h1)]
 refine callF (H) (by simp -implicitDefEqProofs only [go_sem, zap]) ?_
 simp -implicitDefEqProofs only [go_sem, zap]
 refine ⟨fun h2 => ?_, fun h2 => ?_⟩
 ·rw [zcd.2 (by rintro rfl; simp [za1] at h2)]
 rw [zcb.2 (by cases a; cases b; simp [zcb, Tm.name, Tm.args] at h1 h2 ⊢; simp [h1, h2])]
theorem zp2 : ∀ a b : Tm, FC Tryd.prog 16 [tmD a, tmD b] [bD (same a b)] :=
 zhw fun b0 xs ih b => znk (.mk b0 xs) b (zkv xs b.args ih)
end Go.Proofs.YteeaofpphmhjdaaDoor
namespace Go.Proofs.YteeaofpphmhjdaaDoor
set_option linter.unusedSimpArgs false
set_option linter.unusedVariables false
set_option linter.unusedSectionVars false
set_option maxRecDepth 4000
open Go.RowKit
set_option maxHeartbeats 400000 in
theorem zgu (xs ys : List Fm) (H : ∀ x ∈ xs, ∀ y, FC Tryd.prog 7 [fmD x, fmD y] [bD (same x y)]) :
  FC Tryd.prog 17 [.one (fmS xs), .one (fmS ys)] [bD (same xs ys)] := by
 refine zk2 (fun hw => ?_) Tryd.call17
 have hl : xs.length <= 9223372036854775807 := by simpa [zph, wfT] using hw.1.1
 have hl2 : ys.length <= 9223372036854775807 := by simpa [zph, wfT] using hw.2.1.1
 refine zbh Tryd.call17 Tryd.func17 rfl (by kernel_rfl) (zcr (by kernel_rfl)) ?_
 simp -implicitDefEqProofs only [go_sem, Tryd.results17]
 refine ⟨fun h => ?_, fun h => ?_⟩
 ·rw [zcd.2 (by rintro rfl; simp at h)]
 ·have hlen : xs.length = ys.length := by simp at h; omega
  refine zax (fun k : Nat => hd [(0, vT (fmS xs)), (1, vT (fmS ys)), (4, vB false), (5, vI k)] [] []) (fun k => k <= xs.length /\ same xs ys = same (xs.drop k) (ys.drop k)) (fun k => xs.length - k) 0 (zah ?_) ?_ ?_
  ·simp -implicitDefEqProofs only [go_sem]
  ·simp
  ·intro k ⟨hk, hr⟩
   by_cases hlt : k < xs.length
   ·have hk2 : k < ys.length := by omega
    simp -implicitDefEqProofs only [go_sem, List.length_map, hlt]
    refine drawn (by kernel_rfl) ?_
    simp -implicitDefEqProofs only [go_sem, List.length_map, zaz, hlt, hk2, zao, zap]
    refine zbz (H xs[k] (List.getElem_mem hlt) ys[k]) (by simp -implicitDefEqProofs only [go_sem, zao, zap]) ?_
    simp -implicitDefEqProofs only [go_sem, zao, zap]
    refine ⟨by kernel_rfl, fun h => ?_, fun h => ?_⟩
    ·rw [hr, List.drop_eq_getElem_cons hlt, List.drop_eq_getElem_cons hk2, zci, show same xs[k] ys[k] = false by simpa using h]; rfl
    ·rw [List.drop_eq_getElem_cons hlt, List.drop_eq_getElem_cons hk2, zci, show same xs[k] ys[k] = true by simpa using h, Bool.true_and] at hr
     rw [za4 (by omega)]
     exact ⟨k + 1, ⟨by omega, hr⟩, by omega, zah (by simp -implicitDefEqProofs only [go_sem])⟩
   ·simp -implicitDefEqProofs only [go_sem, List.length_map, hlt]
    rw [hr, List.drop_of_length_le (by omega), List.drop_of_length_le (by omega), zg0]
set_option maxHeartbeats 400000 in
theorem zh5 (a b : Fm) (H : FC Tryd.prog 17 [.one (fmS a.parts), .one (fmS b.parts)] [bD (same a.parts b.parts)]) : FC Tryd.prog 7 [fmD a, fmD b] [bD (same a b)] := by
 simp only [fmD, zao, zap]
 refine zbh Tryd.call7 Tryd.func7 rfl (by kernel_rfl) (zcr (by kernel_rfl)) ?_
 simp -implicitDefEqProofs only [go_sem, Tryd.results7]
 refine ⟨fun h1 => ?_, fun h1 => ?_⟩
 ·rw [zcd.2 (by rintro rfl; simp [za1] at h1)]
 refine callF (zp2 a.atom b.atom) (by simp -implicitDefEqProofs only [go_sem, zao, zap, zap]) ?_
 simp -implicitDefEqProofs only [go_sem, zao, zap, zap]
 refine ⟨fun h2 => ?_, fun h2 => ?_⟩
 ·rw [zcd.2 (by rintro rfl; simp [za1] at h2)]
 refine ⟨fun h3 => ?_, fun h3 => ?_⟩
 ·rw [zcd.2 (by rintro rfl; simp [za1] at h3)]
 refine callF (H) (by simp -implicitDefEqProofs only [go_sem, zao, zap]) ?_
 simp -implicitDefEqProofs only [go_sem, zao, zap]
 refine ⟨fun h4 => ?_, fun h4 => ?_⟩
 ·rw [zcd.2 (by rintro rfl; simp [za1] at h4)]
 rw [zcb.2 (by cases a; cases b; simp [zcb, Fm.op, Fm.atom, Fm.var, Fm.parts] at h1 h2 h3 h4 ⊢; simp [h1, h2, h3, h4])]
theorem zje : ∀ a b : Fm, FC Tryd.prog 7 [fmD a, fmD b] [bD (same a b)] :=
 zim fun b0 b1 b2 xs ih b => zh5 (.mk b0 b1 b2 xs) b (zgu xs b.parts ih)
end Go.Proofs.YteeaofpphmhjdaaDoor
namespace Go.Proofs.YteeaofpphmhjdaaDoor
set_option linter.unusedSimpArgs false
set_option linter.unusedVariables false
set_option linter.unusedSectionVars false
set_option maxRecDepth 4000
open Go.RowKit
def zh1 : Int -> Nat -> Int × Nat
 | o0, k => (((k : Nat) : Int), (k + 1))
def zho : List Int -> Nat -> List Int × Nat
 | [], k => ([], k)
 | a :: xs, k => ((zh1 a k).1 :: (zho xs (zh1 a k).2).1, (zho xs (zh1 a k).2).2)
def zjc : Int -> Nat
 | _ => 1 + 1
def zlo : List Int -> Nat
 | [] => 0
 | a :: xs => zjc a + zlo xs
theorem zq9 : ∀ (a : Int) (k : Nat), k <= (zh1 a k).2 /\ (zh1 a k).2 <= k + zjc a
 | o0, k => by simp only [zh1, zjc]; omega
theorem znj : ∀ (xs : List Int) (k : Nat), k <= (zho xs k).2 /\ (zho xs k).2 <= k + zlo xs
 | [], k => ⟨Nat.le_refl _, Nat.le_refl _⟩
 | a :: xs, k => by have h1 := zq9 a k; have h2 := znj xs (zh1 a k).2; simp only [zho, zlo]; omega
theorem zko : ∀ xs : List Int, xs.length <= zlo xs
 | [] => Nat.le_refl _
 | a :: xs => by
  have := zko xs
  have : 1 <= zjc a := by simp only [zjc]; omega
  simp only [List.length_cons, zlo]; omega
theorem zi6 (xs : List Int) :
  ∀ k : Nat, 0 < k -> k + zlo xs <= 4611686018427387904 -> IC Tryd.prog 9 [] (.one (zev xs)) [iD k] (.one (zev (zho xs k).1)) [iD (zho xs k).2] := by
 intro k h0 hk
 refine zny Tryd.call9 Tryd.func9 rfl (by kernel_rfl) (by simp only [zb9, rd, List.map_cons, List.map_nil, List.nil_append, List.length_cons, List.length_nil, Tryd.ntmps9]; omega) (by simp only [Tryd.ntmps9]; omega) (fun vs => ?_)
 simp -implicitDefEqProofs only [go_sem, Tryd.results9, zp8, zhd, zb9, PI]
 refine zax (fun (x : List Int × List Int × Nat) => hd [(0, .one (.ow 0 0)), (1000000, .one (.ow 0 0)), (1, vI x.2.2), (5, vI x.1.length)] [] [(0, ⟨true, 1, x.1.map (fun s => [T.int .i64 s]) ++ zdc vs x.1.length (x.2.1.map (fun s => [T.int .i64 s])), 0, true⟩)])
  (fun x => (zho xs k).1 = x.1 ++ (zho x.2.1 x.2.2).1 /\ (zho xs k).2 = (zho x.2.1 x.2.2).2 /\ 0 < x.2.2 /\ x.2.2 + zlo x.2.1 <= 4611686018427387904 /\ x.1.length + x.2.1.length = xs.length /\ ∀ a ∈ x.2.1, a ∈ xs) (fun x => x.2.1.length) ([], xs, k) (zah ?_) ?_ ?_
 ·simp -implicitDefEqProofs only [go_sem]
 ·exact ⟨rfl, rfl, h0, hk, by simp, fun _ h => h⟩
 ·intro ⟨dn, rest, kk⟩ ⟨h1, h2, h3, h4, h6, h5⟩
  simp only at h1 h2 h3 h4 h5 h6
  cases rest with
  | nil =>
   simp only [zho, List.append_nil] at h1 h2
   simp -implicitDefEqProofs only [go_sem, h1, h2]
  | cons o0 rest =>
   simp only [zho, zh1, zlo, zjc] at h1 h2 h4
   have w0 : IntKind.i64.wrap (((kk : Nat) : Int) + 1) = ((kk + 1 : Nat) : Int) := za4 (by omega)
   have hln := zko xs
   rw [List.length_cons] at h6
   have wl : IntKind.i64.wrap ((dn.length : Int) + 1) = ((dn.length + 1 : Nat) : Int) := za4 (by omega)
   simp -implicitDefEqProofs only [go_sem, List.map_cons]
   refine zf1 (by simp -implicitDefEqProofs only [go_sem, implies_true, w0]) ?_
   simp -implicitDefEqProofs only [go_sem, implies_true, w0]
   refine ⟨(dn ++ [((kk : Nat) : Int)], rest, (kk + 1)), ⟨by simpa using h1, h2, by show 0 < (kk + 1); omega, by show (kk + 1) + zlo rest <= _; omega, by simp; omega, fun b hb => h5 b (by simp [hb])⟩, by simp, zah ?_⟩
   simp -implicitDefEqProofs only [go_sem, wl, List.map_cons, List.map_append, List.append_assoc]
theorem zks (xs : List Int) (k : Nat) (h0 : 0 < k) (hk : k + zlo xs <= 4611686018427387904) : IC Tryd.prog 9 [] (.one (zev xs)) [iD k] (.one (zev (zho xs k).1)) [iD (zho xs k).2] := zi6 xs k h0 hk
theorem zrv (xs ys : List Int) : FC Tryd.prog 8 [.one (zev xs), .one (zev ys)] [bD (same xs ys)] := by
 refine zk2 (fun hw => ?_) Tryd.call8
 have hl : xs.length <= 9223372036854775807 := by simpa [zph, wfT] using hw.1.1
 have hl2 : ys.length <= 9223372036854775807 := by simpa [zph, wfT] using hw.2.1.1
 refine zbh Tryd.call8 Tryd.func8 rfl (by kernel_rfl) (zcr (by kernel_rfl)) ?_
 simp -implicitDefEqProofs only [go_sem, Tryd.results8]
 refine ⟨fun h => ?_, fun h => ?_⟩
 ·rw [zcd.2 (by rintro rfl; simp at h)]
 ·have hlen : xs.length = ys.length := by simp at h; omega
  refine zax (fun k : Nat => hd [(0, vT (zev xs)), (1, vT (zev ys)), (4, vB false), (5, vI k)] [] []) (fun k => k <= xs.length /\ same xs ys = same (xs.drop k) (ys.drop k)) (fun k => xs.length - k) 0 (zah ?_) ?_ ?_
  ·simp -implicitDefEqProofs only [go_sem]
  ·simp
  ·intro k ⟨hk, hr⟩
   by_cases hlt : k < xs.length
   ·have hk2 : k < ys.length := by omega
    simp -implicitDefEqProofs only [go_sem, List.length_map, hlt]
    refine drawn (by kernel_rfl) ?_
    simp -implicitDefEqProofs only [go_sem, List.length_map, zaz, hlt, hk2]
    refine ⟨by kernel_rfl, fun h => ?_, fun h => ?_⟩
    ·rw [hr, List.drop_eq_getElem_cons hlt, List.drop_eq_getElem_cons hk2, zci, show same xs[k] ys[k] = false from zcd.2 (by simpa using h)]; rfl
    ·rw [List.drop_eq_getElem_cons hlt, List.drop_eq_getElem_cons hk2, zci, show same xs[k] ys[k] = true from zcb.2 (by simpa using h), Bool.true_and] at hr
     rw [za4 (by omega)]
     exact ⟨k + 1, ⟨by omega, hr⟩, by omega, zah (by simp -implicitDefEqProofs only [go_sem])⟩
   ·simp -implicitDefEqProofs only [go_sem, List.length_map, hlt]
    rw [hr, List.drop_of_length_le (by omega), List.drop_of_length_le (by omega), zg0]
theorem znq : ∀ xs : List Int, zlo xs = 2 * xs.length
 | [] => rfl
 | a :: xs => by rw [zlo, znq xs, zjc, List.length_cons]; omega
end Go.Proofs.YteeaofpphmhjdaaDoor
namespace Go.Proofs.YteeaofpphmhjdaaDoor
set_option linter.unusedSimpArgs false
set_option linter.unusedVariables false
set_option linter.unusedSectionVars false
set_option maxRecDepth 4000
open Go.RowKit
theorem zq7 (xs : List Int) (hs : xs.length <= 1048576) : FC Tryd.prog 5 [.one (zev xs)] [.one (zev xs)] := by
 refine zbh Tryd.call5 Tryd.func5 rfl (by kernel_rfl) (zcr (by kernel_rfl)) ?_
 simp -implicitDefEqProofs only [go_sem, Tryd.results5]
 refine makeD (by simp -implicitDefEqProofs only [go_sem]; omega) ?_
 simp -implicitDefEqProofs only [go_sem]
 refine zax (fun k : Nat => hd [(0, vT (zev xs)), (3, .one (.ow 224 0)), (4, vI k)] [] [(224, ⟨true, 1, (xs.take k).map (fun s => [.int .i64 s]) ++ List.replicate (xs.length - k) [T.int .i64 0], 0, true⟩)]) (fun k => k <= xs.length) (fun k => xs.length - k) 0 (zah ?_) (Nat.zero_le _) ?_
 ·simp -implicitDefEqProofs only [go_sem]
  simp
 ·intro k hk
  by_cases hlt : k < xs.length
  ·have hlen : ((xs.take k).map (fun s => [T.int .i64 s]) ++ List.replicate (xs.length - k) [T.int .i64 0]).length = xs.length := by simp; omega
   have hlt2 : k < k + (xs.length - k) := by omega
   simp -implicitDefEqProofs only [go_sem, List.length_map, zaz, hlt, hlen, List.length_append, List.length_take, List.length_replicate, Nat.min_eq_left hk, hlt2]
   refine zf1 (by simp -implicitDefEqProofs only [go_sem]; simp) ?_
   simp -implicitDefEqProofs only [go_sem]
   rw [za4 (by omega)]
   refine ⟨k + 1, by omega, by omega, zah ?_⟩
   simp -implicitDefEqProofs only [go_sem]
   have hf := zo9 ((xs.take k).map fun s => [T.int .i64 s]) xs.length k [T.int .i64 0] [T.int .i64 xs[k]] (by simp; omega) hlt (by simp)
   rw [hf, List.take_succ_eq_append_getElem hlt, List.map_append, List.map_singleton]
  ·simp -implicitDefEqProofs only [go_sem, List.length_map, hlt]
   simp [List.take_of_length_le (show xs.length <= k by omega), show xs.length - k = 0 by omega]
end Go.Proofs.YteeaofpphmhjdaaDoor
namespace Go.Proofs.YteeaofpphmhjdaaDoor
set_option linter.unusedSimpArgs false
set_option linter.unusedVariables false
set_option linter.unusedSectionVars false
set_option maxRecDepth 4000
open Go.RowKit
mutual
theorem znh : ∀ a : Tm, zdn a <= 2 + 2 * a.wt
 | .mk n s => by
  have := ze0 s
  rw [Tm.wt_eq, zdn]; unfold tmsW at this
  simp only [Tm.name, Tm.args]; omega
theorem ze0 : ∀ xs : List Tm, zbt xs <= 2 * tmsW xs
 | [] => by simp [zbt]
 | a :: xs => by
  have h1 := znh a
  have h2 := ze0 xs
  unfold tmsW at h2 ⊢
  rw [zbt, List.length_cons, List.map_cons, List.sum_cons]; omega
end
mutual
theorem zol : ∀ a : Fm, zdz a <= 4 + 4 * a.wt
 | .mk o (.mk n s) v p => by
  have h1 := ze0 s
  have h2 := zgo p
  rw [Fm.wt_eq, zdz]; unfold fmsW at h2; unfold tmsW at h1
  simp only [Fm.atom, Fm.var, Fm.parts]
  rw [Tm.wt_eq]
  simp only [Tm.name, Tm.args]; omega
theorem zgo : ∀ xs : List Fm, zbw xs <= 4 * fmsW xs
 | [] => by simp [zbw]
 | a :: xs => by
  have h1 := zol a
  have h2 := zgo xs
  unfold fmsW at h2 ⊢
  rw [zbw, List.length_cons, List.map_cons, List.sum_cons]; omega
end
theorem zg5 (a : Fm) : zbk a <= 4 * a.wt := by
 obtain ⟨o, ⟨n, s⟩, v, p⟩ := a
 have h1 := ze0 s
 have h2 := zgo p
 rw [Fm.wt_eq, zbk, zcz]; unfold fmsW at h2; unfold tmsW at h1
 simp only [Fm.atom, Fm.var, Fm.parts]
 rw [Tm.wt_eq]
 simp only [Tm.name, Tm.args]; omega
theorem zeu (f : Fm) (k : Nat) : fmC (zaw f k).1 = [.int .i64 f.op, .str f.atom.name, .sl 2 ((zaw f k).1.atom.args.map tmC), .str f.var, .sl 5 ((zaw f k).1.parts.map fmC)] := by
 obtain ⟨o, ⟨n, s⟩, v, p⟩ := f
 rw [zao]; rfl
end Go.Proofs.YteeaofpphmhjdaaDoor
namespace Go.Proofs.YteeaofpphmhjdaaDoor
set_option linter.unusedSimpArgs false
set_option linter.unusedVariables false
set_option linter.unusedSectionVars false
set_option maxRecDepth 4000
open Go.RowKit
theorem zkb : ∀ (xs : List Fm), (∀ x ∈ xs, x.wt <= 8) -> (zb5 6 xs (mkF 2 [])).wt <= 10 * xs.length + 10
 | [], _ => by show (mkF 2 []).wt <= _; unfold mkF; rw [Fm.wt_eq]; simp only [Fm.atom, Fm.var, Fm.parts, List.map_nil, List.sum_nil, List.length_nil]; rw [Tm.wt_eq]; simp [Tm.name, Tm.args]
 | [x], h => by show x.wt <= _; have := h x (by simp); omega
 | x :: y :: xs, h => by
  have ih := zkb (y :: xs) fun z hz => h z (List.mem_cons_of_mem _ hz)
  have hx := h x (by simp)
  rw [zd8 6 x (by simp)]
  generalize zb5 6 (y :: xs) (mkF 2 []) = J at ih ⊢
  unfold mkF
  rw [Fm.wt_eq]
  simp only [Fm.atom, Fm.var, Fm.parts, List.map_cons, List.map_nil, List.sum_cons, List.sum_nil, List.length_cons, List.length_nil]
  rw [Tm.wt_eq]
  simp only [Tm.name, Tm.args, List.map_nil, List.sum_nil, List.length_nil]
  simp only [List.length_cons] at ih ⊢
  omega
theorem zt7 (c : List Int) : (zqf c).1.wt <= 1048576 := by
 unfold zqf
 split
 ·next h =>
  obtain ⟨h1, h2⟩ := zfh h
  have := zkb (c.map zdm) fun x hx => by
   obtain ⟨l, hl, rfl⟩ := List.mem_map.1 hx
   exact zmq l (h1 l hl)
  simp only [List.length_map] at this
  simp only
  omega
 ·show (mkF 0 []).wt <= _
  unfold mkF; rw [Fm.wt_eq]; simp only [Fm.atom, Fm.var, Fm.parts, List.map_nil, List.sum_nil, List.length_nil]; rw [Tm.wt_eq]; simp [Tm.name, Tm.args]
set_option maxHeartbeats 2000000 in
theorem zt9 (c : List Int) : FC Tryd.prog 3 [.one (zev c)] [bD true] := by
 by_cases hbig : (1048576 : Int) < c.length
 ·refine zjx Tryd.call3 Tryd.func3 rfl (by kernel_rfl) (zcr (by kernel_rfl)) ?_
  simp -implicitDefEqProofs only [go_sem, Tryd.results3, hbig, decide_true]
  skip
 ·have hbg : ((1048576 : Int) < (c.length : Int)) = False := by simpa using hbig
  have hl : c.length <= 1048576 := by omega
  have HT := zq7 c hl
  have HS := zq0 c
  have HI := zrx c
  have HE := zrv c c
  have hrw := zt7 c
  generalize zqf c = x at HS HI hrw
  obtain ⟨R, G⟩ := x
  simp only at HS HI hrw
  have HF := zje R R
  simp only [fmD, zao R] at HS HI HF
  refine zjx Tryd.call3 Tryd.func3 rfl (by kernel_rfl) (zcr (by kernel_rfl)) ?_
  simp -implicitDefEqProofs only [go_sem, Tryd.results3, hbg]
  refine callF (HT) (by simp -implicitDefEqProofs only [go_sem]) ?_
  simp -implicitDefEqProofs only [go_sem]
  refine callF (HS) (by simp -implicitDefEqProofs only [go_sem]) ?_
  simp -implicitDefEqProofs only [go_sem]
  refine callF (HT) (by simp -implicitDefEqProofs only [go_sem]) ?_
  simp -implicitDefEqProofs only [go_sem]
  refine callF (HI) (by simp -implicitDefEqProofs only [go_sem]) ?_
  simp -implicitDefEqProofs only [go_sem]
  refine callF (HF) (by simp -implicitDefEqProofs only [go_sem, za1]) ?_
  simp -implicitDefEqProofs only [go_sem, za1]
  refine ⟨fun h => by simp at h, fun _ => ?_⟩
  refine callF (HT) (by simp -implicitDefEqProofs only [go_sem]) ?_
  simp -implicitDefEqProofs only [go_sem]
  refine callF (HE) (by simp -implicitDefEqProofs only [go_sem, za1]) ?_
  simp -implicitDefEqProofs only [go_sem, za1]
  have hci := znq c
  have hcR := zg5 R
  have HM := zks c 1 (by omega) (by omega)
  have HM2 := zgl R 1 (by omega) (by omega)
  have HL := zgj R 1 (by omega) (by omega)
  have hm := znj c 1
  have hmR := (zhi R 1).1
  rw [zeu] at HM2 HL
  generalize (zho c 1).2 = k1 at HM hm
  generalize (zho c 1).1 = f1 at HM
  generalize (zaw R 1).2 = k2 at HM2 HL hmR
  generalize (zaw R 1).1.atom.args = r2 at HM2 HL
  generalize (zaw R 1).1.parts = r5 at HM2 HL
  rw [zao] at HM2
  refine zoi [0, 2, 3, 4, 6, 7, 43, 44] (HM) (by simp -implicitDefEqProofs only [go_sem]) (by simp -implicitDefEqProofs only [go_sem]) (by simp -implicitDefEqProofs only [go_sem]) (by simp -implicitDefEqProofs only [go_sem]) (by simp -implicitDefEqProofs only [go_sem]) rfl ?_
  simp -implicitDefEqProofs only [go_sem]
  refine callF (HF) (by simp -implicitDefEqProofs only [go_sem, za1]) ?_
  simp -implicitDefEqProofs only [go_sem, za1]
  refine ⟨fun h => by simp at h, fun _ => ?_⟩
  refine zoi [0, 2, 3, 4, 6, 7, 59, 60] (HM2) (by simp -implicitDefEqProofs only [go_sem]) (by simp -implicitDefEqProofs only [go_sem]) (by simp -implicitDefEqProofs only [go_sem]) (by simp -implicitDefEqProofs only [go_sem]) (by simp -implicitDefEqProofs only [go_sem]) rfl ?_
  simp -implicitDefEqProofs only [go_sem]
  refine callF (HL) (by simp -implicitDefEqProofs only [go_sem]) ?_
  simp -implicitDefEqProofs only [go_sem]
  refine ⟨fun h => by simp at h, fun _ => ?_⟩
  refine callF (HT) (by simp -implicitDefEqProofs only [go_sem]) ?_
  simp -implicitDefEqProofs only [go_sem]
  refine callF (HI) (by simp -implicitDefEqProofs only [go_sem]) ?_
  simp -implicitDefEqProofs only [go_sem]
  refine callF (HF) (by simp -implicitDefEqProofs only [go_sem, za1]) ?_
  simp -implicitDefEqProofs only [go_sem, za1]
  refine ⟨fun h => by simp at h, fun _ => ?_⟩
  refine callF (HL) (by simp -implicitDefEqProofs only [go_sem]) ?_
  simp -implicitDefEqProofs only [go_sem]
  refine ⟨fun h => by simp at h, fun _ => trivial⟩
end Go.Proofs.YteeaofpphmhjdaaDoor
