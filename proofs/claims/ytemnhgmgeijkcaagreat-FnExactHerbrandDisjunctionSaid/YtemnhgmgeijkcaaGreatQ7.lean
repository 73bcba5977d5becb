/-
  The walk over plain data, and contracts of functions of the program and of its laws.
  Conditions: those that each theorem names.
-/
import Derived.Test.YtemnhgmgeijkcaaGreatQ6
import Derived.Test.YtemnhgmgeijkcaaGreatQ5
import Derived.MapKept
import Derived.Lib.Walk
import Derived.Lib.SliceRun
import Derived.Lib.AppendZeros
namespace Go.Proofs.YtemnhgmgeijkcaaGreat
set_option linter.unusedSimpArgs false
set_option linter.unusedVariables false
set_option linter.unusedSectionVars false
set_option maxRecDepth 4000
open Go.RowKit
mutual
def zft : Tm -> Nat -> Tm × Nat
 | .mk n0 s0, k => (.mk (mtx k) (zau s0 (k + 1)).1, (zau s0 (k + 1)).2)
def zau : List Tm -> Nat -> List Tm × Nat
 | [], k => ([], k)
 | a :: xs, k => ((zft a k).1 :: (zau xs (zft a k).2).1, (zau xs (zft a k).2).2)
end
mutual
def zgb : Tm -> Nat
 | .mk n0 s0 => 1 + 1 + zcr s0
def zcr : List Tm -> Nat
 | [] => 0
 | a :: xs => zgb a + zcr xs
end
mutual
theorem zvs : ∀ (a : Tm) (k : Nat), k <= (zft a k).2 /\ (zft a k).2 <= k + zgb a
 | .mk n0 s0, k => by have h_s0 := zce s0 (k + 1); simp only [zft, zgb]; omega
theorem zce : ∀ (xs : List Tm) (k : Nat), k <= (zau xs k).2 /\ (zau xs k).2 <= k + zcr xs
 | [], k => ⟨Nat.le_refl _, Nat.le_refl _⟩
 | a :: xs, k => by have h1 := zvs a k; have h2 := zce xs (zft a k).2; simp only [zau, zcr]; omega
end
theorem ziq : ∀ xs : List Tm, xs.length <= zcr xs
  | [] => Nat.le_refl _
  | a :: xs => by have := ziq xs; have : 1 <= zgb a := by obtain ⟨n0, s0⟩ := a; simp only [zgb]; omega
                  simp only [List.length_cons, zcr]; omega
theorem zhb (xs : List Tm) (H : ∀ a ∈ xs, ∀ k : Nat, 0 < k -> k + zcr a.args <= 4611686018427387904 -> IC Tryz.prog 77 [] (.one (tmS a.args)) [iD k] (.one (tmS (zau a.args k).1)) [iD (zau a.args k).2]) :
  ∀ k : Nat, 0 < k -> k + zcr xs <= 4611686018427387904 -> IC Tryz.prog 77 [] (.one (tmS xs)) [iD k] (.one (tmS (zau xs k).1)) [iD (zau xs k).2] := by
 intro k h0 hk
 refine zv1 Tryz.call77 Tryz.func77 rfl (by kernel_rfl) (by simp only [zdj, rd, List.map_cons, List.map_nil, List.nil_append, List.length_cons, List.length_nil, Tryz.ntmps77]; omega) (by simp only [Tryz.ntmps77]; omega) (fun vs => ?_)
 simp -implicitDefEqProofs only [go_sem, Tryz.results77, qa3, zkz, zdj, PI]
 refine zaf (fun (x : List Tm × List Tm × Nat) => hd [(0, .one (.ow 0 0)), (1000000, .one (.ow 0 0)), (1, vI x.2.2), (5, vI x.1.length)] [] [(0, ⟨true, 2, x.1.map tmC ++ ze0 vs x.1.length (x.2.1.map tmC), 0, true⟩)])
  (fun x => (zau xs k).1 = x.1 ++ (zau x.2.1 x.2.2).1 /\ (zau xs k).2 = (zau x.2.1 x.2.2).2 /\ 0 < x.2.2 /\ x.2.2 + zcr x.2.1 <= 4611686018427387904 /\ x.1.length + x.2.1.length = xs.length /\ ∀ a ∈ x.2.1, a ∈ xs) (fun x => x.2.1.length) ([], xs, k) (zac ?_) ?_ ?_
 ·simp -implicitDefEqProofs only [go_sem]
 ·exact ⟨rfl, rfl, h0, hk, by simp, fun _ h => h⟩
 ·intro ⟨dn, rest, kk⟩ ⟨h1, h2, h3, h4, h6, h5⟩
  simp only at h1 h2 h3 h4 h5 h6
  cases rest with
  | nil =>
   simp only [zau, List.append_nil] at h1 h2
   simp -implicitDefEqProofs only [go_sem, h1, h2]
  | cons a rest =>
   obtain ⟨n0, s0⟩ := a
   simp only [zau, zft, zcr, zgb] at h1 h2 h4
   have hc_s0 := zce s0 (kk + 1)
   have w0 : IntKind.i64.wrap (((kk : Nat) : Int) + 1) = ((kk + 1 : Nat) : Int) := zao (by omega)
   have hln := ziq xs
   rw [List.length_cons] at h6
   have wl : IntKind.i64.wrap ((dn.length : Int) + 1) = ((dn.length + 1 : Nat) : Int) := zao (by omega)
   simp -implicitDefEqProofs only [go_sem, zaa (.mk _ _), Tm.name, Tm.args]
   refine callF (zdb kk (by omega) (by omega)) (by simp -implicitDefEqProofs only [go_sem, w0]) ?_
   simp -implicitDefEqProofs only [go_sem, w0]
   refine zha (by simp -implicitDefEqProofs only [go_sem, implies_true, w0]) ?_
   simp -implicitDefEqProofs only [go_sem, implies_true, w0]
   refine callN (l := [(0, .one (.ow 0 0)), (1000000, .one (.ow 0 0)), (5, vI dn.length), (24, .one (.cv (vs dn.length 1))), (25, vI ((kk + 1) : Nat))]) (bl := []) (el := [(0, ⟨true, 2, dn.map tmC ++ [.str (mtx kk), .pin (vs dn.length 1) (tmS s0)] :: ze0 vs (dn.length + 1) (rest.map tmC), 0, true⟩)]) 0 dn.length 1 (H (.mk n0 s0) (h5 _ (by simp)) (kk + 1) (by omega) (by show (kk + 1) + zcr s0 <= _; omega)) (by simp -implicitDefEqProofs only [go_sem, w0, tmS]) rfl rfl rfl (by simp -implicitDefEqProofs only [go_sem, tmS, Tm.name, Tm.args]) rfl ?_
   simp -implicitDefEqProofs only [go_sem, w0, Tm.name, Tm.args]
   refine ⟨(dn ++ [.mk (mtx kk) (zau s0 (kk + 1)).1], rest, (zau s0 (kk + 1)).2), ⟨by simpa using h1, h2, by show 0 < (zau s0 (kk + 1)).2; omega, by show (zau s0 (kk + 1)).2 + zcr rest <= _; omega, by simp; omega, fun b hb => h5 b (by simp [hb])⟩, by simp, zac ?_⟩
   simp -implicitDefEqProofs only [go_sem, wl, zaa (.mk _ _), Tm.name, Tm.args, List.map_append, List.append_assoc]
theorem zfx (xs : List Tm) (k : Nat) (h0 : 0 < k) (hk : k + zcr xs <= 4611686018427387904) : IC Tryz.prog 77 [] (.one (tmS xs)) [iD k] (.one (tmS (zau xs k).1)) [iD (zau xs k).2] :=
 zhb xs (fun a _ => zbd (P := fun a => ∀ k : Nat, 0 < k -> k + zcr a.args <= 4611686018427387904 -> IC Tryz.prog 77 [] (.one (tmS a.args)) [iD k] (.one (tmS (zau a.args k).1)) [iD (zau a.args k).2]) (fun n ys ih => zhb ys ih) a) k h0 hk
theorem zhi (xs : List Tm) (H : ∀ a ∈ xs, ∀ k : Nat, 0 < k -> k + zcr a.args <= 4611686018427387904 -> FC Tryz.prog 108 [.one (tmS (zau a.args k).1), iD k] [iD (zau a.args k).2]) :
  ∀ k : Nat, 0 < k -> k + zcr xs <= 4611686018427387904 -> FC Tryz.prog 108 [.one (tmS (zau xs k).1), iD k] [iD (zau xs k).2] := by
 intro k h0 hk
 refine zam Tryz.call108 Tryz.func108 rfl (by kernel_rfl) (za1 (by kernel_rfl)) ?_
 simp -implicitDefEqProofs only [go_sem, Tryz.results108]
 refine zaf (fun (x : List Tm × List Tm × Nat) => hd [(0, vT (.sl 2 (x.1.map tmC ++ (zau x.2.1 x.2.2).1.map tmC))), (1, vI x.2.2), (5, vI x.1.length)] [] [])
  (fun x => (zau xs k).1 = x.1 ++ (zau x.2.1 x.2.2).1 /\ (zau xs k).2 = (zau x.2.1 x.2.2).2 /\ 0 < x.2.2 /\ x.2.2 + zcr x.2.1 <= 4611686018427387904 /\ x.1.length + x.2.1.length = xs.length /\ ∀ a ∈ x.2.1, a ∈ xs) (fun x => x.2.1.length) ([], xs, k) (zac ?_) ?_ ?_
 ·simp -implicitDefEqProofs only [go_sem]
 ·exact ⟨rfl, rfl, h0, hk, by simp, fun _ h => h⟩
 ·intro ⟨dn, rest, kk⟩ ⟨h1, h2, h3, h4, h6, h5⟩
  simp only at h1 h2 h3 h4 h5 h6
  cases rest with
  | nil =>
   simp only [zau, List.append_nil] at h1 h2
   simp -implicitDefEqProofs only [go_sem, h2, zau]
  | cons a rest =>
   obtain ⟨n0, s0⟩ := a
   simp only [zau, zft, zcr, zgb] at h1 h2 h4
   have hc_s0 := zce s0 (kk + 1)
   have w0 : IntKind.i64.wrap (((kk : Nat) : Int) + 1) = ((kk + 1 : Nat) : Int) := zao (by omega)
   have hln := ziq xs
   rw [List.length_cons] at h6
   have wl : IntKind.i64.wrap ((dn.length : Int) + 1) = ((dn.length + 1 : Nat) : Int) := zao (by omega)
   simp -implicitDefEqProofs only [go_sem, zau, zft, zaa (.mk _ _), Tm.name, Tm.args]
   refine drawn (by kernel_rfl) ?_
   simp -implicitDefEqProofs only [go_sem]
   refine za6 (zdb kk (by omega) (by omega)) (by simp -implicitDefEqProofs only [go_sem, beq_self_eq_true, bne_self_eq_false, w0]) ?_
   simp -implicitDefEqProofs only [go_sem, beq_self_eq_true, bne_self_eq_false, w0]
   refine ⟨by kernel_rfl, ?_⟩
   refine callF (H (.mk n0 s0) (h5 _ (by simp)) (kk + 1) (by omega) (by show (kk + 1) + zcr s0 <= _; omega)) (by simp -implicitDefEqProofs only [go_sem, w0, Tm.name, Tm.args]) ?_
   simp -implicitDefEqProofs only [go_sem, w0, Tm.name, Tm.args]
   refine ⟨(dn ++ [.mk (mtx kk) (zau s0 (kk + 1)).1], rest, (zau s0 (kk + 1)).2), ⟨by simpa using h1, h2, by show 0 < (zau s0 (kk + 1)).2; omega, by show (zau s0 (kk + 1)).2 + zcr rest <= _; omega, by simp; omega, fun b hb => h5 b (by simp [hb])⟩, by simp, zac ?_⟩
   simp -implicitDefEqProofs only [go_sem, wl, zaa (.mk _ _), Tm.name, Tm.args, List.map_append, List.append_assoc]
theorem zik (xs : List Tm) (k : Nat) (h0 : 0 < k) (hk : k + zcr xs <= 4611686018427387904) : FC Tryz.prog 108 [.one (tmS (zau xs k).1), iD k] [iD (zau xs k).2] :=
 zhi xs (fun a _ => zbd (P := fun a => ∀ k : Nat, 0 < k -> k + zcr a.args <= 4611686018427387904 -> FC Tryz.prog 108 [.one (tmS (zau a.args k).1), iD k] [iD (zau a.args k).2]) (fun n ys ih => zhi ys ih) a) k h0 hk
mutual
def zfq : Fm -> Nat -> Fm × Nat
 | .mk o0 (.mk n0 s0) v0 p0, k => (.mk ((k : Nat) : Int) (.mk (mtx (k + 1)) (zau s0 ((k + 1) + 1)).1) (mtx (zau s0 ((k + 1) + 1)).2) (zbi p0 ((zau s0 ((k + 1) + 1)).2 + 1)).1, (zbi p0 ((zau s0 ((k + 1) + 1)).2 + 1)).2)
def zbi : List Fm -> Nat -> List Fm × Nat
 | [], k => ([], k)
 | a :: xs, k => ((zfq a k).1 :: (zbi xs (zfq a k).2).1, (zbi xs (zfq a k).2).2)
end
mutual
def zgm : Fm -> Nat
 | .mk o0 (.mk n0 s0) v0 p0 => 1 + 1 + 1 + zcr s0 + 1 + zcw p0
def zcw : List Fm -> Nat
 | [] => 0
 | a :: xs => zgm a + zcw xs
end
mutual
theorem zyb : ∀ (a : Fm) (k : Nat), k <= (zfq a k).2 /\ (zfq a k).2 <= k + zgm a
 | .mk o0 (.mk n0 s0) v0 p0, k => by have h_s0 := zce s0 ((k + 1) + 1); have h_p0 := zed p0 ((zau s0 ((k + 1) + 1)).2 + 1); simp only [zfq, zgm]; omega
theorem zed : ∀ (xs : List Fm) (k : Nat), k <= (zbi xs k).2 /\ (zbi xs k).2 <= k + zcw xs
 | [], k => ⟨Nat.le_refl _, Nat.le_refl _⟩
 | a :: xs, k => by have h1 := zyb a k; have h2 := zed xs (zfq a k).2; simp only [zbi, zcw]; omega
end
theorem zi6 : ∀ xs : List Fm, xs.length <= zcw xs
  | [] => Nat.le_refl _
  | a :: xs => by have := zi6 xs; have : 1 <= zgm a := by obtain ⟨o0, ⟨n0, s0⟩, v0, p0⟩ := a; simp only [zgm]; omega
                  simp only [List.length_cons, zcw]; omega
theorem zex (xs : List Fm) (H : ∀ a ∈ xs, ∀ k : Nat, 0 < k -> k + zcw a.parts <= 4611686018427387904 -> IC Tryz.prog 76 [] (.one (fmS a.parts)) [iD k] (.one (fmS (zbi a.parts k).1)) [iD (zbi a.parts k).2]) :
  ∀ k : Nat, 0 < k -> k + zcw xs <= 4611686018427387904 -> IC Tryz.prog 76 [] (.one (fmS xs)) [iD k] (.one (fmS (zbi xs k).1)) [iD (zbi xs k).2] := by
 intro k h0 hk
 refine zv1 Tryz.call76 Tryz.func76 rfl (by kernel_rfl) (by simp only [zdj, rd, List.map_cons, List.map_nil, List.nil_append, List.length_cons, List.length_nil, Tryz.ntmps76]; omega) (by simp only [Tryz.ntmps76]; omega) (fun vs => ?_)
 simp -implicitDefEqProofs only [go_sem, Tryz.results76, qa3, zkz, zdj, PI]
 refine zaf (fun (x : List Fm × List Fm × Nat) => hd [(0, .one (.ow 0 0)), (1000000, .one (.ow 0 0)), (1, vI x.2.2), (5, vI x.1.length)] [] [(0, ⟨true, 5, x.1.map fmC ++ ze0 vs x.1.length (x.2.1.map fmC), 0, true⟩)])
  (fun x => (zbi xs k).1 = x.1 ++ (zbi x.2.1 x.2.2).1 /\ (zbi xs k).2 = (zbi x.2.1 x.2.2).2 /\ 0 < x.2.2 /\ x.2.2 + zcw x.2.1 <= 4611686018427387904 /\ x.1.length + x.2.1.length = xs.length /\ ∀ a ∈ x.2.1, a ∈ xs) (fun x => x.2.1.length) ([], xs, k) (zac ?_) ?_ ?_
 ·simp -implicitDefEqProofs only [go_sem]
 ·exact ⟨rfl, rfl, h0, hk, by simp, fun _ h => h⟩
 ·intro ⟨dn, rest, kk⟩ ⟨h1, h2, h3, h4, h6, h5⟩
  simp only at h1 h2 h3 h4 h5 h6
  cases rest with
  | nil =>
   simp only [zbi, List.append_nil] at h1 h2
   simp -implicitDefEqProofs only [go_sem, h1, h2]
  | cons a rest =>
   obtain ⟨o0, ⟨n0, s0⟩, v0, p0⟩ := a
   simp only [zbi, zfq, zcw, zgm] at h1 h2 h4
   have hc_s0 := zce s0 ((kk + 1) + 1)
   have hc_p0 := zed p0 ((zau s0 ((kk + 1) + 1)).2 + 1)
   have w0 : IntKind.i64.wrap (((kk : Nat) : Int) + 1) = ((kk + 1 : Nat) : Int) := zao (by omega)
   have w1 : IntKind.i64.wrap ((((kk + 1) : Nat) : Int) + 1) = (((kk + 1) + 1 : Nat) : Int) := zao (by omega)
   have w2 : IntKind.i64.wrap ((((zau s0 ((kk + 1) + 1)).2 : Nat) : Int) + 1) = (((zau s0 ((kk + 1) + 1)).2 + 1 : Nat) : Int) := zao (by omega)
   have hln := zi6 xs
   rw [List.length_cons] at h6
   have wl : IntKind.i64.wrap ((dn.length : Int) + 1) = ((dn.length + 1 : Nat) : Int) := zao (by omega)
   simp -implicitDefEqProofs only [go_sem, zab (.mk _ _ _ _), Fm.op, Fm.atom, Fm.var, Fm.parts, Tm.name, Tm.args]
   refine zha (by simp -implicitDefEqProofs only [go_sem, implies_true, w0, w1, w2]) ?_
   simp -implicitDefEqProofs only [go_sem, implies_true, w0, w1, w2]
   refine callF (zdb (kk + 1) (by omega) (by omega)) (by simp -implicitDefEqProofs only [go_sem, w0, w1, w2]) ?_
   simp -implicitDefEqProofs only [go_sem, w0, w1, w2]
   refine zha (by simp -implicitDefEqProofs only [go_sem, implies_true, w0, w1, w2]) ?_
   simp -implicitDefEqProofs only [go_sem, implies_true, w0, w1, w2]
   refine callN (l := [(0, .one (.ow 0 0)), (1000000, .one (.ow 0 0)), (5, vI dn.length), (33, .one (.cv (vs dn.length 2))), (34, vI (((kk + 1) + 1) : Nat))]) (bl := []) (el := [(0, ⟨true, 5, dn.map fmC ++ [.int .i64 ((kk : Nat) : Int), .str (mtx (kk + 1)), .pin (vs dn.length 2) (tmS s0), .str v0, .pin (vs dn.length 4) (fmS p0)] :: ze0 vs (dn.length + 1) (rest.map fmC), 0, true⟩)]) 0 dn.length 2 (zfx s0 ((kk + 1) + 1) (by omega) (by omega)) (by simp -implicitDefEqProofs only [go_sem, w0, w1, w2, tmS]) rfl rfl rfl (by simp -implicitDefEqProofs only [go_sem, tmS, Fm.op, Fm.atom, Fm.var, Fm.parts, Tm.name, Tm.args]) rfl ?_
   simp -implicitDefEqProofs only [go_sem, w0, w1, w2, Fm.op, Fm.atom, Fm.var, Fm.parts, Tm.name, Tm.args]
   refine callF (zdb (zau s0 ((kk + 1) + 1)).2 (by omega) (by omega)) (by simp -implicitDefEqProofs only [go_sem, w0, w1, w2]) ?_
   simp -implicitDefEqProofs only [go_sem, w0, w1, w2]
   refine zha (by simp -implicitDefEqProofs only [go_sem, implies_true, w0, w1, w2]) ?_
   simp -implicitDefEqProofs only [go_sem, implies_true, w0, w1, w2]
   refine callN (l := [(0, .one (.ow 0 0)), (1000000, .one (.ow 0 0)), (5, vI dn.length), (48, .one (.cv (vs dn.length 4))), (49, vI (((zau s0 ((kk + 1) + 1)).2 + 1) : Nat))]) (bl := []) (el := [(0, ⟨true, 5, dn.map fmC ++ [.int .i64 ((kk : Nat) : Int), .str (mtx (kk + 1)), tmS (zau s0 ((kk + 1) + 1)).1, .str (mtx (zau s0 ((kk + 1) + 1)).2), .pin (vs dn.length 4) (fmS p0)] :: ze0 vs (dn.length + 1) (rest.map fmC), 0, true⟩)]) 0 dn.length 4 (H (.mk o0 (.mk n0 s0) v0 p0) (h5 _ (by simp)) ((zau s0 ((kk + 1) + 1)).2 + 1) (by omega) (by show ((zau s0 ((kk + 1) + 1)).2 + 1) + zcw p0 <= _; omega)) (by simp -implicitDefEqProofs only [go_sem, w0, w1, w2, fmS]) rfl rfl rfl (by simp -implicitDefEqProofs only [go_sem, fmS, Fm.op, Fm.atom, Fm.var, Fm.parts, Tm.name, Tm.args]) rfl ?_
   simp -implicitDefEqProofs only [go_sem, w0, w1, w2, Fm.op, Fm.atom, Fm.var, Fm.parts, Tm.name, Tm.args]
   refine ⟨(dn ++ [.mk ((kk : Nat) : Int) (.mk (mtx (kk + 1)) (zau s0 ((kk + 1) + 1)).1) (mtx (zau s0 ((kk + 1) + 1)).2) (zbi p0 ((zau s0 ((kk + 1) + 1)).2 + 1)).1], rest, (zbi p0 ((zau s0 ((kk + 1) + 1)).2 + 1)).2), ⟨by simpa using h1, h2, by show 0 < (zbi p0 ((zau s0 ((kk + 1) + 1)).2 + 1)).2; omega, by show (zbi p0 ((zau s0 ((kk + 1) + 1)).2 + 1)).2 + zcw rest <= _; omega, by simp; omega, fun b hb => h5 b (by simp [hb])⟩, by simp, zac ?_⟩
   simp -implicitDefEqProofs only [go_sem, wl, zab (.mk _ _ _ _), Fm.op, Fm.atom, Fm.var, Fm.parts, Tm.name, Tm.args, List.map_append, List.append_assoc]
theorem zjg (xs : List Fm) (k : Nat) (h0 : 0 < k) (hk : k + zcw xs <= 4611686018427387904) : IC Tryz.prog 76 [] (.one (fmS xs)) [iD k] (.one (fmS (zbi xs k).1)) [iD (zbi xs k).2] :=
 zex xs (fun a _ => zba (P := fun a => ∀ k : Nat, 0 < k -> k + zcw a.parts <= 4611686018427387904 -> IC Tryz.prog 76 [] (.one (fmS a.parts)) [iD k] (.one (fmS (zbi a.parts k).1)) [iD (zbi a.parts k).2]) (fun o b v ps ih => zex ps ih) a) k h0 hk
theorem zfb (xs : List Fm) (H : ∀ a ∈ xs, ∀ k : Nat, 0 < k -> k + zcw a.parts <= 4611686018427387904 -> FC Tryz.prog 79 [.one (fmS (zbi a.parts k).1), iD k] [iD (zbi a.parts k).2]) :
  ∀ k : Nat, 0 < k -> k + zcw xs <= 4611686018427387904 -> FC Tryz.prog 79 [.one (fmS (zbi xs k).1), iD k] [iD (zbi xs k).2] := by
 intro k h0 hk
 refine zam Tryz.call79 Tryz.func79 rfl (by kernel_rfl) (za1 (by kernel_rfl)) ?_
 simp -implicitDefEqProofs only [go_sem, Tryz.results79]
 refine zaf (fun (x : List Fm × List Fm × Nat) => hd [(0, vT (.sl 5 (x.1.map fmC ++ (zbi x.2.1 x.2.2).1.map fmC))), (1, vI x.2.2), (5, vI x.1.length)] [] [])
  (fun x => (zbi xs k).1 = x.1 ++ (zbi x.2.1 x.2.2).1 /\ (zbi xs k).2 = (zbi x.2.1 x.2.2).2 /\ 0 < x.2.2 /\ x.2.2 + zcw x.2.1 <= 4611686018427387904 /\ x.1.length + x.2.1.length = xs.length /\ ∀ a ∈ x.2.1, a ∈ xs) (fun x => x.2.1.length) ([], xs, k) (zac ?_) ?_ ?_
 ·simp -implicitDefEqProofs only [go_sem]
 ·exact ⟨rfl, rfl, h0, hk, by simp, fun _ h => h⟩
 ·intro ⟨dn, rest, kk⟩ ⟨h1, h2, h3, h4, h6, h5⟩
  simp only at h1 h2 h3 h4 h5 h6
  cases rest with
  | nil =>
   simp only [zbi, List.append_nil] at h1 h2
   simp -implicitDefEqProofs only [go_sem, h2, zbi]
  | cons a rest =>
   obtain ⟨o0, ⟨n0, s0⟩, v0, p0⟩ := a
   simp only [zbi, zfq, zcw, zgm] at h1 h2 h4
   have hc_s0 := zce s0 ((kk + 1) + 1)
   have hc_p0 := zed p0 ((zau s0 ((kk + 1) + 1)).2 + 1)
   have w0 : IntKind.i64.wrap (((kk : Nat) : Int) + 1) = ((kk + 1 : Nat) : Int) := zao (by omega)
   have w1 : IntKind.i64.wrap ((((kk + 1) : Nat) : Int) + 1) = (((kk + 1) + 1 : Nat) : Int) := zao (by omega)
   have w2 : IntKind.i64.wrap ((((zau s0 ((kk + 1) + 1)).2 : Nat) : Int) + 1) = (((zau s0 ((kk + 1) + 1)).2 + 1 : Nat) : Int) := zao (by omega)
   have hln := zi6 xs
   rw [List.length_cons] at h6
   have wl : IntKind.i64.wrap ((dn.length : Int) + 1) = ((dn.length + 1 : Nat) : Int) := zao (by omega)
   simp -implicitDefEqProofs only [go_sem, zbi, zfq, zab (.mk _ _ _ _), Fm.op, Fm.atom, Fm.var, Fm.parts, Tm.name, Tm.args]
   simp only [bne_self_eq_false]
   simp -implicitDefEqProofs only [go_sem, w0, w1, w2]
   refine drawn (by kernel_rfl) ?_
   simp -implicitDefEqProofs only [go_sem]
   refine za6 (zdb (kk + 1) (by omega) (by omega)) (by simp -implicitDefEqProofs only [go_sem, beq_self_eq_true, bne_self_eq_false, w0, w1, w2]) ?_
   simp -implicitDefEqProofs only [go_sem, beq_self_eq_true, bne_self_eq_false, w0, w1, w2]
   refine ⟨by kernel_rfl, ?_⟩
   refine callF (zik s0 ((kk + 1) + 1) (by omega) (by omega)) (by simp -implicitDefEqProofs only [go_sem, w0, w1, w2, Fm.op, Fm.atom, Fm.var, Fm.parts, Tm.name, Tm.args]) ?_
   simp -implicitDefEqProofs only [go_sem, w0, w1, w2, Fm.op, Fm.atom, Fm.var, Fm.parts, Tm.name, Tm.args]
   refine drawn (by kernel_rfl) ?_
   simp -implicitDefEqProofs only [go_sem]
   refine za6 (zdb (zau s0 ((kk + 1) + 1)).2 (by omega) (by omega)) (by simp -implicitDefEqProofs only [go_sem, beq_self_eq_true, bne_self_eq_false, w0, w1, w2]) ?_
   simp -implicitDefEqProofs only [go_sem, beq_self_eq_true, bne_self_eq_false, w0, w1, w2]
   refine ⟨by kernel_rfl, ?_⟩
   refine callF (H (.mk o0 (.mk n0 s0) v0 p0) (h5 _ (by simp)) ((zau s0 ((kk + 1) + 1)).2 + 1) (by omega) (by show ((zau s0 ((kk + 1) + 1)).2 + 1) + zcw p0 <= _; omega)) (by simp -implicitDefEqProofs only [go_sem, w0, w1, w2, Fm.op, Fm.atom, Fm.var, Fm.parts, Tm.name, Tm.args]) ?_
   simp -implicitDefEqProofs only [go_sem, w0, w1, w2, Fm.op, Fm.atom, Fm.var, Fm.parts, Tm.name, Tm.args]
   refine ⟨(dn ++ [.mk ((kk : Nat) : Int) (.mk (mtx (kk + 1)) (zau s0 ((kk + 1) + 1)).1) (mtx (zau s0 ((kk + 1) + 1)).2) (zbi p0 ((zau s0 ((kk + 1) + 1)).2 + 1)).1], rest, (zbi p0 ((zau s0 ((kk + 1) + 1)).2 + 1)).2), ⟨by simpa using h1, h2, by show 0 < (zbi p0 ((zau s0 ((kk + 1) + 1)).2 + 1)).2; omega, by show (zbi p0 ((zau s0 ((kk + 1) + 1)).2 + 1)).2 + zcw rest <= _; omega, by simp; omega, fun b hb => h5 b (by simp [hb])⟩, by simp, zac ?_⟩
   simp -implicitDefEqProofs only [go_sem, wl, zab (.mk _ _ _ _), Fm.op, Fm.atom, Fm.var, Fm.parts, Tm.name, Tm.args, List.map_append, List.append_assoc]
theorem zjm (xs : List Fm) (k : Nat) (h0 : 0 < k) (hk : k + zcw xs <= 4611686018427387904) : FC Tryz.prog 79 [.one (fmS (zbi xs k).1), iD k] [iD (zbi xs k).2] :=
 zfb xs (fun a _ => zba (P := fun a => ∀ k : Nat, 0 < k -> k + zcw a.parts <= 4611686018427387904 -> FC Tryz.prog 79 [.one (fmS (zbi a.parts k).1), iD k] [iD (zbi a.parts k).2]) (fun o b v ps ih => zfb ps ih) a) k h0 hk
def za7 : Tm -> Nat -> Tm × Nat
 | .mk n0 s0, k => (.mk n0 (zau s0 k).1, (zau s0 k).2)
def ze8 : Tm -> Nat
 | .mk n0 s0 => zcr s0
theorem zgy : ∀ (a : Tm) (k : Nat), k <= (za7 a k).2 /\ (za7 a k).2 <= k + ze8 a
 | .mk n0 s0, k => by have h0 := zce s0 k; simp only [za7, ze8]; omega
theorem zt7 (a : Tm) (k : Nat) (h0 : 0 < k) (hk : k + ze8 a <= 4611686018427387904) : IC Tryz.prog 75 [] (.agg (tmC a)) [iD k] (.agg (tmC (za7 a k).1)) [iD (za7 a k).2] := by
 obtain ⟨n0, s0⟩ := a
 simp only [ze8] at hk
 have hc0 := zce s0 k
 simp only [zaa (.mk _ _), Tm.name, Tm.args, za7]
 refine IC_of Tryz.call75 Tryz.func75 rfl (by kernel_rfl) (by simp only [zdj, rd, List.map_cons, List.map_nil, List.nil_append, List.length_cons, List.length_nil, Tryz.ntmps75]; omega) (by simp only [Tryz.ntmps75]; omega) ⟨⟨by simp, by simp [T.isPin]⟩, zcb _⟩ trivial ?_
 simp -implicitDefEqProofs only [go_sem, Tryz.results75, zkz, zdj, PI]
 refine zro (l := [(1000000, .agg [.t (.str n0), .ow 1 0]), (2, .one (.bx 2 0)), (6, .one (.ow 1 0)), (7, vI (k : Nat))]) (bl := [(2, [.t (.str n0), .ow 1 0])]) (el := [(1, ⟨true, 2, (s0).map tmC, 0, true⟩)]) (zfx s0 k (by omega) (by omega)) (by simp -implicitDefEqProofs only [go_sem, zaa (.mk _ _), Tm.name, Tm.args, tmS]) rfl rfl rfl (by simp -implicitDefEqProofs only [go_sem, zaa (.mk _ _), Tm.name, Tm.args, tmS]) rfl ?_
 simp -implicitDefEqProofs only [go_sem, zaa (.mk _ _), Tm.name, Tm.args, tmS]
theorem zsy (a : Tm) (k : Nat) (h0 : 0 < k) (hk : k + ze8 a <= 4611686018427387904) : FC Tryz.prog 78 [.agg (tmC (za7 a k).1), iD k] [iD (za7 a k).2] := by
 obtain ⟨n0, s0⟩ := a
 simp only [ze8] at hk
 have hc0 := zce s0 k
 simp only [zaa (.mk _ _), Tm.name, Tm.args, za7]
 refine zam Tryz.call78 Tryz.func78 rfl (by kernel_rfl) (za1 (by kernel_rfl)) ?_
 simp -implicitDefEqProofs only [go_sem, Tryz.results78]
 refine callF (zik s0 k (by omega) (by omega)) (by simp -implicitDefEqProofs only [go_sem, zaa (.mk _ _), Tm.name, Tm.args]) ?_
 simp -implicitDefEqProofs only [go_sem, zaa (.mk _ _), Tm.name, Tm.args]
def zaz : Fm -> Nat -> Fm × Nat
 | .mk o0 (.mk n0 s0) v0 p0, k => (.mk o0 (.mk n0 (za7 (.mk n0 s0) k).1.args) v0 (zbi p0 (za7 (.mk n0 s0) k).2).1, (zbi p0 (za7 (.mk n0 s0) k).2).2)
def zci : Fm -> Nat
 | .mk o0 (.mk n0 s0) v0 p0 => ze8 (.mk n0 s0) + zcw p0
theorem zf7 : ∀ (a : Fm) (k : Nat), k <= (zaz a k).2 /\ (zaz a k).2 <= k + zci a
 | .mk o0 (.mk n0 s0) v0 p0, k => by have h0 := zgy (.mk n0 s0) k; have h37 := zed p0 (za7 (.mk n0 s0) k).2; simp only [zaz, zci]; omega
theorem zgo (a : Fm) (k : Nat) (h0 : 0 < k) (hk : k + zci a <= 4611686018427387904) : IC Tryz.prog 20 [] (.agg (fmC a)) [iD k] (.agg (fmC (zaz a k).1)) [iD (zaz a k).2] := by
 obtain ⟨o0, ⟨n0, s0⟩, v0, p0⟩ := a
 simp only [zci] at hk
 have hc0 := zgy (.mk n0 s0) k
 have hc1 := zed p0 (za7 (.mk n0 s0) k).2
 simp only [zab (.mk _ _ _ _), zaa (.mk _ _), Fm.op, Fm.atom, Fm.var, Fm.parts, Tm.name, Tm.args, zaz, za7]
 refine IC_of Tryz.call20 Tryz.func20 rfl (by kernel_rfl) (by simp only [zdj, rd, List.map_cons, List.map_nil, List.nil_append, List.length_cons, List.length_nil, Tryz.ntmps20]; omega) (by simp only [Tryz.ntmps20]; omega) ⟨⟨by simp, by simp [T.isPin]⟩, zcb _⟩ trivial ?_
 simp -implicitDefEqProofs only [go_sem, Tryz.results20, zkz, zdj, PI]
 refine zro (l := [(1000000, .agg [.t (.int .i64 o0), .t (.str n0), .ow 2 0, .t (.str v0), .ow 4 0]), (2, .one (.bx 2 0)), (6, .agg [.t (.str n0), .ow 2 0]), (7, vI (k : Nat))]) (bl := [(2, [.t (.int .i64 o0), .t (.str n0), .ow 2 0, .t (.str v0), .ow 4 0])]) (el := [(2, ⟨true, 2, (s0).map tmC, 0, true⟩), (4, ⟨true, 5, (p0).map fmC, 0, true⟩)]) (zt7 (.mk n0 s0) k (by omega) (by omega)) (by simp -implicitDefEqProofs only [go_sem, zab (.mk _ _ _ _), zaa (.mk _ _), Fm.op, Fm.atom, Fm.var, Fm.parts, Tm.name, Tm.args, za7, tmS]) rfl rfl rfl (by simp -implicitDefEqProofs only [go_sem, zab (.mk _ _ _ _), zaa (.mk _ _), Fm.op, Fm.atom, Fm.var, Fm.parts, Tm.name, Tm.args, za7, tmS]) rfl ?_
 simp -implicitDefEqProofs only [go_sem, zab (.mk _ _ _ _), zaa (.mk _ _), Fm.op, Fm.atom, Fm.var, Fm.parts, Tm.name, Tm.args, za7, tmS]
 refine zro (l := [(1000000, .agg [.t (.int .i64 o0), .t (.str n0), .ow 2 0, .t (.str v0), .ow 4 0]), (2, .one (.bx 2 0)), (10, .one (.ow 4 0)), (11, vI ((za7 (.mk n0 s0) k).2 : Nat))]) (bl := [(2, [.t (.int .i64 o0), .t (.str n0), .ow 2 0, .t (.str v0), .ow 4 0])]) (el := [(2, ⟨true, 2, ((zau s0 k).1).map tmC, 0, true⟩), (4, ⟨true, 5, (p0).map fmC, 0, true⟩)]) (zjg p0 (za7 (.mk n0 s0) k).2 (by omega) (by omega)) (by simp -implicitDefEqProofs only [go_sem, zab (.mk _ _ _ _), zaa (.mk _ _), Fm.op, Fm.atom, Fm.var, Fm.parts, Tm.name, Tm.args, za7, fmS]) rfl rfl rfl (by simp -implicitDefEqProofs only [go_sem, zab (.mk _ _ _ _), zaa (.mk _ _), Fm.op, Fm.atom, Fm.var, Fm.parts, Tm.name, Tm.args, za7, fmS]) rfl ?_
 simp -implicitDefEqProofs only [go_sem, zab (.mk _ _ _ _), zaa (.mk _ _), Fm.op, Fm.atom, Fm.var, Fm.parts, Tm.name, Tm.args, za7, fmS]
theorem zls (a : Fm) (k : Nat) (h0 : 0 < k) (hk : k + zci a <= 4611686018427387904) : FC Tryz.prog 22 [.agg (fmC (zaz a k).1), iD k] [iD (zaz a k).2] := by
 obtain ⟨o0, ⟨n0, s0⟩, v0, p0⟩ := a
 simp only [zci] at hk
 have hc0 := zgy (.mk n0 s0) k
 have hc1 := zed p0 (za7 (.mk n0 s0) k).2
 simp only [zab (.mk _ _ _ _), zaa (.mk _ _), Fm.op, Fm.atom, Fm.var, Fm.parts, Tm.name, Tm.args, zaz]
 refine zam Tryz.call22 Tryz.func22 rfl (by kernel_rfl) (za1 (by kernel_rfl)) ?_
 simp -implicitDefEqProofs only [go_sem, Tryz.results22]
 refine callF (zsy (.mk n0 s0) k (by omega) (by omega)) (by simp -implicitDefEqProofs only [go_sem, zab (.mk _ _ _ _), zaa (.mk _ _), Fm.op, Fm.atom, Fm.var, Fm.parts, Tm.name, Tm.args, za7]) ?_
 simp -implicitDefEqProofs only [go_sem, zab (.mk _ _ _ _), zaa (.mk _ _), Fm.op, Fm.atom, Fm.var, Fm.parts, Tm.name, Tm.args, za7]
 refine callF (zjm p0 (za7 (.mk n0 s0) k).2 (by omega) (by omega)) (by simp -implicitDefEqProofs only [go_sem, zab (.mk _ _ _ _), zaa (.mk _ _), Fm.op, Fm.atom, Fm.var, Fm.parts, Tm.name, Tm.args, za7]) ?_
 simp -implicitDefEqProofs only [go_sem, zab (.mk _ _ _ _), zaa (.mk _ _), Fm.op, Fm.atom, Fm.var, Fm.parts, Tm.name, Tm.args, za7]
end Go.Proofs.YtemnhgmgeijkcaaGreat
namespace Go.Proofs.YtemnhgmgeijkcaaGreat
set_option linter.unusedSimpArgs false
set_option linter.unusedVariables false
set_option linter.unusedSectionVars false
set_option maxRecDepth 4000
open Go.RowKit
theorem qdw (o : Int) (ps : List Fm) : (mkF o ps).wt = ps.length + (ps.map Fm.wt).sum := by
 rw [Fm.wt_eq]
 show (Tm.mk [] []).wt + 0 + ps.length + _ = _
 rw [Tm.wt_eq]
 simp [Tm.name, Tm.args, mkF, Fm.parts]
mutual
theorem zw6 : ∀ a : Tm, zgb a <= 2 + 2 * a.wt
 | .mk n s => by
  have := zf5 s
  rw [Tm.wt_eq, zgb]; unfold zfd at this
  simp only [Tm.name, Tm.args]; omega
theorem zf5 : ∀ xs : List Tm, zcr xs <= 2 * zfd xs
 | [] => by simp [zcr]
 | a :: xs => by
  have h1 := zw6 a
  have h2 := zf5 xs
  unfold zfd at h2 ⊢
  rw [zcr, List.length_cons, List.map_cons, List.sum_cons]; omega
end
mutual
theorem zu8 : ∀ a : Fm, zgm a <= 4 + 4 * a.wt
 | .mk o (.mk n s) v p => by
  have h1 := zf5 s
  have h2 := zkq p
  rw [Fm.wt_eq, zgm]; unfold zp4 at h2; unfold zfd at h1
  simp only [Fm.atom, Fm.var, Fm.parts]
  rw [Tm.wt_eq]
  simp only [Tm.name, Tm.args]; omega
theorem zkq : ∀ xs : List Fm, zcw xs <= 4 * zp4 xs
 | [] => by simp [zcw]
 | a :: xs => by
  have h1 := zu8 a
  have h2 := zkq xs
  unfold zp4 at h2 ⊢
  rw [zcw, List.length_cons, List.map_cons, List.sum_cons]; omega
end
theorem zgi (a : Fm) : zci a <= 4 * a.wt := by
 obtain ⟨o, ⟨n, s⟩, v, p⟩ := a
 have h1 := zf5 s
 have h2 := zkq p
 rw [Fm.wt_eq, zci, ze8]; unfold zp4 at h2; unfold zfd at h1
 simp only [Fm.atom, Fm.var, Fm.parts]
 rw [Tm.wt_eq]
 simp only [Tm.name, Tm.args]; omega
theorem zhv (f : Fm) (k : Nat) : fmC (zaz f k).1 = [.int .i64 f.op, .str f.atom.name, .sl 2 ((zaz f k).1.atom.args.map tmC), .str f.var, .sl 5 ((zaz f k).1.parts.map fmC)] := by
 obtain ⟨o, ⟨n, s⟩, v, p⟩ := f
 rw [zab]; rfl
end Go.Proofs.YtemnhgmgeijkcaaGreat
namespace Go.Proofs.YtemnhgmgeijkcaaGreat
set_option linter.unusedSimpArgs false
set_option linter.unusedVariables false
set_option linter.unusedSectionVars false
set_option maxRecDepth 4000
open Go.RowKit
theorem zqd (f : Fm) (hs : f.wt <= 1099511627776) : GC Tryz.prog 70 [(true, fmD f)] [fmD (if f.good = true then f else mkF 0 []), bD f.good] := by
 cases h : f.good
 ·rw [if_neg (by simp)]
  simp only [fmD, zab f, zcm, List.map_nil]
  refine zur Tryz.call70 Tryz.func70 rfl (by kernel_rfl) (by simp only [List.length_cons, List.length_nil, Tryz.ntmps70]; omega) (by simp [zby, T.isPin]) ?_
  simp -implicitDefEqProofs only [go_sem, Tryz.results70]
  refine callF (zcf f hs) (by simp -implicitDefEqProofs only [go_sem, zab f, h]) ?_
  simp -implicitDefEqProofs only [go_sem, zab f, h]
 ·rw [if_pos rfl]
  simp only [fmD, zab f]
  refine zur Tryz.call70 Tryz.func70 rfl (by kernel_rfl) (by simp only [List.length_cons, List.length_nil, Tryz.ntmps70]; omega) (by simp [zby, T.isPin]) ?_
  simp -implicitDefEqProofs only [go_sem, Tryz.results70]
  refine callF (zcf f hs) (by simp -implicitDefEqProofs only [go_sem, zab f, h]) ?_
  simp -implicitDefEqProofs only [go_sem, zab f, h]
theorem zo1 (op : Int) (z : Fm) : ∀ xs : List Fm, (zc1 op xs z).wt <= 2 * xs.length + (xs.map Fm.wt).sum + z.wt
 | [] => by simp [zc1]
 | x :: xs => by
  by_cases h : xs = []
  ·subst h; simp [zc1]; omega
  ·rw [zfi op x h, qdw]
   have := zo1 op z xs
   simp; omega
end Go.Proofs.YtemnhgmgeijkcaaGreat
namespace Go.Proofs.YtemnhgmgeijkcaaGreat
set_option linter.unusedSimpArgs false
set_option linter.unusedVariables false
set_option linter.unusedSectionVars false
set_option maxRecDepth 4000
open Go.RowKit
theorem qgy {n m : Str} (hn : za2 n = true) (hm : zcg m = true) : (n == m) = false := by
 rw [beq_eq_false_iff_ne]
 rintro rfl
 have h1 := (zrt hn).1
 have h2 := (znu hm).1
 rw [h1] at h2
 cases h2
theorem ztd {n : Str} (h : zcg n = true) : za2 n = false := by
 cases hv : za2 n
 ·rfl
 ·have := qgy hv h
  simp at this
theorem noneT {a : Tm} (h : a.none = true) : a = .mk [] [] := by
 unfold Tm.none at h
 rw [Bool.and_eq_true, beq_iff_eq, decide_eq_true_eq, List.length_eq_zero_iff] at h
 cases a with
 | mk n xs => simp only [Tm.name, Tm.args] at h; rw [h.1, h.2]
theorem zf9 {f : Fm} (h : f.here = true) (h3 : (f.op == 3) = false) : f.atom = .mk [] [] := by
 apply noneT
 unfold Fm.here at h
 rw [h3] at h
 simp only [Bool.false_eq_true, if_false] at h
 split at h
 ·simp only [Bool.and_eq_true] at h; exact h.1.2
 ·split at h
  ·simp only [Bool.and_eq_true] at h; exact h.1.2
  ·split at h
   ·simp only [Bool.and_eq_true] at h; exact h.1.2
   ·split at h
    ·simp only [Bool.and_eq_true] at h; exact h.1.2
    ·cases h
theorem zzb {f : Fm} {ps : List Fm} (h : f.here = true) (h3 : (f.op == 3) = false) (hl : ps.length = f.parts.length) : (Fm.mk f.op f.atom f.var ps).here = true := by
 have e : (Fm.mk f.op f.atom f.var ps).here = f.here := by
  unfold Fm.here
  show (if (f.op == 1 || f.op == 2) = true then decide (ps.length = 0) && f.atom.none && (f.var == []) else if (f.op == 3) = true then decide (ps.length = 0) && f.atom.atomOk && (f.var == []) else if (f.op == 4) = true then decide (ps.length = 1) && f.atom.none && (f.var == []) else if zkd f.op = true then decide (ps.length = 2) && f.atom.none && (f.var == []) else if isQ f.op = true then decide (ps.length = 1) && f.atom.none && za2 f.var else false) = _
  rw [hl]
 rw [e]; exact h
theorem zy8 {f : Fm} (h1 : f.here = true) (h : isQ f.op = true) : za2 f.var = true := by
 unfold Fm.here at h1
 have h2 : (f.op == 1 || f.op == 2) = false /\ (f.op == 3) = false /\ (f.op == 4) = false /\ zkd f.op = false := by
  have h8 : f.op = 8 \/ f.op = 9 := by unfold isQ at h; rw [Bool.or_eq_true, beq_iff_eq, beq_iff_eq] at h; exact h
  rcases h8 with e | e <;> rw [e] <;> decide
 rw [h2.1, h2.2.1, h2.2.2.1, h2.2.2.2, h] at h1
 simp only [Bool.false_eq_true, if_false, if_true, Bool.and_eq_true] at h1
 exact h1.2
theorem zrn (o : Int) (a : Tm) (v : Str) (ps : List Fm) : (Fm.mk o a v ps).forms = ((Fm.mk o a v ps).here && ps.all Fm.forms) := Fm.forms_eq _
theorem zfw {f : Fm} (h : f.good = true) : f.forms = true := (Bool.and_eq_true _ _ ▸ h : _ /\ _).2
end Go.Proofs.YtemnhgmgeijkcaaGreat
namespace Go.Proofs.YtemnhgmgeijkcaaGreat
set_option linter.unusedSimpArgs false
set_option linter.unusedVariables false
set_option linter.unusedSectionVars false
set_option maxRecDepth 4000
open Go.RowKit
theorem zyd {α : Type} {l : List α} (h : l.Nodup) {i j : Nat} (hi : i < l.length) (hj : j < l.length) (e : l[i] = l[j]) : i = j := by
 rw [List.nodup_iff_pairwise_ne, List.pairwise_iff_getElem] at h
 rcases Nat.lt_trichotomy i j with h1 | h1 | h1
 ·exact absurd e (h i j hi hj h1)
 ·exact h1
 ·exact absurd e.symm (h j i hj hi h1)
theorem qhg (o : Int) : (mkF o []).wt = 0 := by rw [qdw]; simp
theorem zsi {f : Fm} (h : f.here = true) (hq : isQ f.op = false) : f.var = [] := by
 unfold Fm.here at h
 rw [hq] at h
 simp only [Bool.false_eq_true, if_false] at h
 (repeat' split at h) <;> first | (simp only [Bool.and_eq_true, beq_iff_eq] at h; exact h.2) | cases h
end Go.Proofs.YtemnhgmgeijkcaaGreat
namespace Go.Proofs.YtemnhgmgeijkcaaGreat
set_option linter.unusedSimpArgs false
set_option linter.unusedVariables false
set_option linter.unusedSectionVars false
set_option maxRecDepth 4000
open Go.RowKit
theorem zql {f : Fm} (h : f.good = true) : f.forms = true := (Bool.and_eq_true _ _ ▸ h : _ /\ _).2
theorem qcp (xs : List Str) : (zdl xs).Pairwise (· <= ·) := by
 have tr : ∀ a b c : List UInt8, leB a b = true -> leB b c = true -> leB a c = true := fun a b c h1 h2 => by simp only [leB, decide_eq_true_eq] at *; exact List.le_trans h1 h2
 have to : ∀ a b : List UInt8, (leB a b || leB b a) = true := fun a b => by simp only [leB, Bool.or_eq_true, decide_eq_true_eq]; exact List.le_total a b
 refine (List.pairwise_mergeSort tr to xs).imp ?_
 intro a b h1
 simpa only [leB, decide_eq_true_eq] using h1
theorem ze9 (ns : List Str) : (zdl ns).length = ns.length := (List.mergeSort_perm ns leB).length_eq
theorem zot (ns : List Str) : ((Lib.compact (zdl ns)).length == ns.length) = decide ns.Nodup := by
 have hp : (zdl ns).Nodup ↔ ns.Nodup := (List.mergeSort_perm ns leB).nodup_iff
 rw [Bool.eq_iff_iff, beq_iff_eq, decide_eq_true_eq, <- hp, <- ze9 ns]
 have hs : (zdl ns).Pairwise (· <= ·) := qcp ns
 generalize zdl ns = zs at hs ⊢
 unfold Lib.compact Lib.compactUpTo
 rw [List.length_map]
 have hr : zs.length = (List.range zs.length).length := by simp
 rw [show ((List.filter (Lib.keeps zs.toArray) (List.range zs.length)).length = zs.length) = ((List.filter (Lib.keeps zs.toArray) (List.range zs.length)).length = (List.range zs.length).length) by rw [<- hr], List.length_filter_eq_length_iff]
 rw [List.pairwise_iff_getElem] at hs
 unfold List.Nodup
 rw [List.pairwise_iff_getElem]
 constructor
 ·intro h i j hi hj hij e
  have hk := h j (by simpa using hj)
  unfold Lib.keeps at hk
  rw [decide_eq_true_eq] at hk
  rcases hk with hk | hk
  ·omega
  ·apply hk
   have hj1 : j - 1 < zs.length := by omega
   rw [show zs.toArray[j]! = zs[j] by simp [hj], show zs.toArray[j - 1]! = zs[j - 1] by simp [hj1]]
   by_cases hij2 : i = j - 1
   ·subst hij2; exact e.symm
   ·have h1 := hs i (j - 1) hi hj1 (by omega)
    have h2 := hs (j - 1) j hj1 hj (by omega)
    rw [<- e] at h2 ⊢
    exact List.le_antisymm h1 h2
 ·intro h j hj
  have hj : j < zs.length := by simpa using hj
  unfold Lib.keeps
  rw [decide_eq_true_eq]
  by_cases h0 : j = 0
  ·exact Or.inl h0
  ·right
   have hj1 : j - 1 < zs.length := by omega
   rw [show zs.toArray[j]! = zs[j] by simp [hj], show zs.toArray[j - 1]! = zs[j - 1] by simp [hj1]]
   exact fun e => h (j - 1) j hj1 hj (by omega) e.symm
noncomputable def qcm (f : Fm) : Bool := f.good && decide ((zbf [] (vf f [])).length = 0) && decide (exN f).1.Nodup && zbh (exN f).2
theorem znl (f : Fm) (hw : f.wt <= 1048576) : FC Tryz.prog 64 [fmD f] [bD (qcm f)] := by
 have hH : qcm f = (f.good && decide ((zbf [] (vf f [])).length = 0) && decide (exN f).1.Nodup && zbh (exN f).2) := rfl
 cases hg : f.good
 ·rw [hH, hg]
  simp only [fmD, zab f]
  refine zc3 Tryz.call64 Tryz.func64 rfl (by kernel_rfl) (za1 (by kernel_rfl)) ?_
  simp -implicitDefEqProofs only [go_sem, Tryz.results64]
  refine callF (zcf f (by omega)) (by simp -implicitDefEqProofs only [go_sem, zab f, hg]) ?_
  simp -implicitDefEqProofs only [go_sem, zab f, hg]
 ·rw [hg, Bool.true_and] at hH
  have HF := free_c f (zql hg) hw
  have HP := zrk f (zql hg) hw
  have hL := zey f
  have hN := zcz f
  generalize (exN f).1 = ns at hH HP hL
  generalize (exN f).2 = g at hH HP
  generalize (zbf [] (vf f [])) = V at hH HF
  have hcl := zot ns
  simp only [fmD, zab f, zab g] at HF HP ⊢
  refine zc3 Tryz.call64 Tryz.func64 rfl (by kernel_rfl) (za1 (by kernel_rfl)) ?_
  simp -implicitDefEqProofs only [go_sem, Tryz.results64]
  refine callF (zcf f (by omega)) (by simp -implicitDefEqProofs only [go_sem, zab f, hg]) ?_
  simp -implicitDefEqProofs only [go_sem, zab f, hg]
  by_cases hV : V.length = 0
  ·have hS := zic ns (by omega)
   have hC := zj6 (zdl ns) (by rw [ze9]; omega)
   have hK := zne (zdl ns)
   have hO := qgv g
   simp only [fmD, zab g] at hO
   rw [<- ze9 ns] at hcl
   have hsl := ze9 ns
   generalize Lib.compact (zdl ns) = cs at hK hcl
   generalize zdl ns = ss at hS hC hK hcl hsl
   rw [show decide (V.length = 0) = true by simp [hV], Bool.true_and] at hH
   refine zka (HF) (by simp -implicitDefEqProofs only [go_sem, hV]) ?_
   simp -implicitDefEqProofs only [go_sem, hV]
   refine zr9 [1] [15] [] (HP) (by simp -implicitDefEqProofs only [go_sem]) (by simp -implicitDefEqProofs only [go_sem]) (by simp -implicitDefEqProofs only [go_sem]) (by simp -implicitDefEqProofs only [go_sem]) ?_
   simp -implicitDefEqProofs only [go_sem]
   refine zu2 (hS) (by simp -implicitDefEqProofs only [go_sem, zbu]) (by simp -implicitDefEqProofs only [go_sem, zbu]) rfl ?_
   simp -implicitDefEqProofs only [go_sem, zbu]
   refine frzO 512 rfl rfl ?_
   simp -implicitDefEqProofs only [go_sem]
   refine callF (hC) (by simp -implicitDefEqProofs only [go_sem]) ?_
   simp -implicitDefEqProofs only [go_sem]
   have hcl' : ((cs.length : Int) == (ss.length : Int)) = decide ns.Nodup := by rw [<- hcl, Bool.eq_iff_iff]; simp only [beq_iff_eq]; omega
   cases hn : decide ns.Nodup
   ·rw [hn] at hcl' hH
    refine zcj [3, 4] [22] [] (hK) (by simp -implicitDefEqProofs only [go_sem, hcl']) (by simp -implicitDefEqProofs only [go_sem, hcl']) (by simp -implicitDefEqProofs only [go_sem, hcl']) (by simp -implicitDefEqProofs only [go_sem, hcl']) ?_
    simp -implicitDefEqProofs only [go_sem, hcl']
    exact Or.inl (by rw [hH]; rfl)
   ·rw [hn] at hcl' hH
    refine zcj [3, 4] [22] [] (hK) (by simp -implicitDefEqProofs only [go_sem, hcl']) (by simp -implicitDefEqProofs only [go_sem, hcl']) (by simp -implicitDefEqProofs only [go_sem, hcl']) (by simp -implicitDefEqProofs only [go_sem, hcl']) ?_
    simp -implicitDefEqProofs only [go_sem, hcl']
    refine zpu (by simp -implicitDefEqProofs only [go_sem]) ?_
    simp -implicitDefEqProofs only [go_sem]
    refine callF (hO) (by simp -implicitDefEqProofs only [go_sem]) ?_
    simp -implicitDefEqProofs only [go_sem]
    exact Or.inl (by rw [hH]; simp)
  ·rw [show decide (V.length = 0) = false by simp [hV], Bool.false_and, Bool.false_and] at hH
   have hV' : (0 : Int) < (V.length : Int) := by omega
   refine zka (HF) (by simp -implicitDefEqProofs only [go_sem, hV']) ?_
   simp -implicitDefEqProofs only [go_sem, hV']
   exact Or.inl (by rw [hH])
theorem zni (f : Fm) (hw : f.wt <= 1048576) : FC Tryz.prog 110 [fmD f] [bD (qcm f)] := by
 have hH : qcm f = (f.good && decide ((zbf [] (vf f [])).length = 0) && decide (exN f).1.Nodup && zbh (exN f).2) := rfl
 cases hg : f.good
 ·rw [hH, hg]
  simp only [fmD, zab f]
  refine zc3 Tryz.call110 Tryz.func110 rfl (by kernel_rfl) (za1 (by kernel_rfl)) ?_
  simp -implicitDefEqProofs only [go_sem, Tryz.results110]
  refine callF (zh3 f (by omega)) (by simp -implicitDefEqProofs only [go_sem, zab f, hg]) ?_
  simp -implicitDefEqProofs only [go_sem, zab f, hg]
 ·rw [hg, Bool.true_and] at hH
  have HF := zqz f (zql hg) hw
  have HP := zm7 f (zql hg) hw
  have hL := zey f
  have hN := zcz f
  have hgw := Nat.le_trans (zxg f) hw
  generalize (exN f).1 = ns at hH HP hL
  generalize (exN f).2 = g at hH HP hgw
  generalize (zbf [] (vf f [])) = V at hH HF
  simp only [fmD, zab f, zab g] at HF HP ⊢
  refine zc3 Tryz.call110 Tryz.func110 rfl (by kernel_rfl) (za1 (by kernel_rfl)) ?_
  simp -implicitDefEqProofs only [go_sem, Tryz.results110]
  refine callF (zh3 f (by omega)) (by simp -implicitDefEqProofs only [go_sem, zab f, hg]) ?_
  simp -implicitDefEqProofs only [go_sem, zab f, hg]
  by_cases hV : V.length = 0
  ·have hO := zsx g hgw
   simp only [fmD, zab g] at hO
   rw [show decide (V.length = 0) = true by simp [hV], Bool.true_and] at hH
   refine zka (HF) (by simp -implicitDefEqProofs only [go_sem, hV]) ?_
   simp -implicitDefEqProofs only [go_sem, hV]
   refine zr9 [1] [16] [] (HP) (by simp -implicitDefEqProofs only [go_sem]) (by simp -implicitDefEqProofs only [go_sem]) (by simp -implicitDefEqProofs only [go_sem]) (by simp -implicitDefEqProofs only [go_sem]) ?_
   simp -implicitDefEqProofs only [go_sem]
   refine zaf (fun k : Nat => hd [(3, .one (.rn (zb2 ns))), (4, .one (.bx 4 0)), (5, vI k)] [(4, [.t (.int .i64 g.op), .t (.str g.atom.name), .rn (tmS g.atom.args), .t (.str g.var), .rn (fmS g.parts)])] []) (fun k => k <= ns.length /\ (ns.take k).Nodup) (fun k => ns.length - k) 0 (zac ?_) ⟨Nat.zero_le _, List.nodup_nil⟩ ?_
   ·simp -implicitDefEqProofs only [go_sem]
   ·rintro k ⟨hk, hT⟩
    by_cases hlt : k < ns.length
    ·simp -implicitDefEqProofs only [go_sem, hlt]
     refine drawn (by kernel_rfl) ?_
     simp -implicitDefEqProofs only [go_sem, zai, hlt]
     refine ⟨hk, ?_⟩
     refine za6 (zq8 (ns.take k) ns[k]) (by simp -implicitDefEqProofs only [go_sem, zb2, List.map_take]) ?_
     simp -implicitDefEqProofs only [go_sem, zb2, List.map_take]
     refine ⟨by kernel_rfl, fun h => ?_, fun h => ?_⟩
     ·have hn : decide ns.Nodup = false := by
       rw [decide_eq_false_iff_not]
       intro hnd
       have h1 : (ns.take (k + 1)).Nodup := hnd.sublist (List.take_sublist _ _)
       rw [List.take_succ_eq_append_getElem hlt, List.nodup_append] at h1
       exact h1.2.2 _ (by simpa using h) _ (by simp) rfl
      rw [hn] at hH
      exact Or.inl (by rw [hH]; rfl)
     ·refine ⟨k + 1, ⟨hlt, ?_⟩, by omega, zac ?_⟩
      ·rw [List.take_succ_eq_append_getElem hlt, List.nodup_append]
       refine ⟨hT, by simp, ?_⟩
       rintro a ha b hb rfl
       rw [List.mem_singleton] at hb
       subst hb
       simp only [List.contains_eq_mem, decide_eq_false_iff_not] at h
       exact h ha
      ·simp -implicitDefEqProofs only [go_sem]
       rw [zao (by omega)]
    ·simp -implicitDefEqProofs only [go_sem, hlt]
     rw [List.take_of_length_le (by omega)] at hT
     rw [show decide ns.Nodup = true by simp [hT], Bool.true_and] at hH
     refine callF (hO) (by simp -implicitDefEqProofs only [go_sem]) ?_
     simp -implicitDefEqProofs only [go_sem]
     exact Or.inl (by rw [hH])
  ·rw [show decide (V.length = 0) = false by simp [hV], Bool.false_and, Bool.false_and] at hH
   have hV' : (0 : Int) < (V.length : Int) := by omega
   refine zka (HF) (by simp -implicitDefEqProofs only [go_sem, hV']) ?_
   simp -implicitDefEqProofs only [go_sem, hV']
   exact Or.inl (by rw [hH])
end Go.Proofs.YtemnhgmgeijkcaaGreat
namespace Go.Proofs.YtemnhgmgeijkcaaGreat
set_option linter.unusedSimpArgs false
set_option linter.unusedVariables false
set_option linter.unusedSectionVars false
set_option maxRecDepth 4000
open Go.RowKit
abbrev zi9 (xs : List (List Tm)) : T := .sl 1 (xs.map fun s => [tmS s])
end Go.Proofs.YtemnhgmgeijkcaaGreat
namespace Go.Proofs.YtemnhgmgeijkcaaGreat
set_option linter.unusedSimpArgs false
set_option linter.unusedVariables false
set_option linter.unusedSectionVars false
set_option maxRecDepth 4000
open Go.RowKit
abbrev tssD (l : List (List Tm)) : D := .one (zi9 l)
theorem zyq {d : PD} (h : zbm Tryz.prog 28 d) : ∃ l : List (List Tm), d.cells = [zi9 l] := by
 obtain ⟨xs, rfl, hx⟩ := h.sl Tryz.underlying28
 obtain ⟨l, hl⟩ := zdy (fun s => [tmS s]) xs fun x hx' => qbx (hx x hx')
 exact ⟨l, by rw [PD.cells, hl, show Tryz.prog.cellsOf 22 = 1 from by kernel_rfl]⟩
end Go.Proofs.YtemnhgmgeijkcaaGreat
namespace Go.Proofs.YtemnhgmgeijkcaaGreat
set_option linter.unusedSimpArgs false
set_option linter.unusedVariables false
set_option linter.unusedSectionVars false
set_option maxRecDepth 4000
open Go.RowKit
variable {P : Program} {N : Nat}
def zdi (P : Program) (N : Nat) (c : Code) (σ : St) (Q : Exit -> St -> Prop) : Prop := ∀ n0 w0 A0 g a w, Rel n0 N σ g a w -> LtK n0 w -> Bk n0 w0 w -> (g.A0, g.R0) = A0 -> c.wp P (qa2 n0 N w0 A0 Q) a w
theorem qa2.mono {n0 : Nat -> Prop} {w0 : World} {A0 : (Nat -> Prop) × RP} {Q Q' : Exit -> St -> Prop} (h : ∀ e σ, Q e σ -> Q' e σ) {e : Exit} {a : Act} {w : World} : qa2 n0 N w0 A0 Q e a w -> qa2 n0 N w0 A0 Q' e a w
 | ⟨σ, g, h1, h2⟩ => ⟨σ, g, h _ _ h1, h2⟩
theorem zdi.mono {c : Code} {σ : St} {Q Q' : Exit -> St -> Prop} (h : ∀ e σ, Q e σ -> Q' e σ) (k : zdi P N c σ Q) : zdi P N c σ Q' := fun n0 w0 A0 g a w h1 h2 h3 h4 => wp_mono (k n0 w0 A0 g a w h1 h2 h3 h4) fun _ _ _ => qa2.mono h
theorem zdi.ofEx {c : Code} {σ : St} {Q : Exit -> St -> Prop} (hd : zbb N c = true) (h : ex P c [] Q σ) : zdi P N c σ Q := fun _ _ _ g a w h1 h2 h3 h4 => zbc c σ Q hd h g a w h1 h2 h3 h4
def zu3 (P : Program) (N : Nat) (c : Code) (Q : Exit -> St -> Prop) (e : Exit) (σ : St) : Prop := match e with | .normal => zdi P N c σ Q | e => Q e σ
theorem zmm (c : Code) (Q : Exit -> St -> Prop) (σ : St) : zu3 P N c Q .normal σ = zdi P N c σ Q := rfl
theorem zzl (c : Code) (Q : Exit -> St -> Prop) (σ : St) : zu3 P N c Q .ret σ = Q .ret σ := rfl
theorem zt0 (c : Code) (Q : Exit -> St -> Prop) (σ : St) (i : Nat) : zu3 P N c Q (.exit i) σ = Q (.exit i) σ := rfl
theorem zdi.seq {x y : Code} {σ : St} {Q : Exit -> St -> Prop} (h : zdi P N x σ (zu3 P N y Q)) : zdi P N (.seq x y) σ Q := fun n0 w0 A0 g a w h1 h2 h3 h4 => by
 refine wp_seq (wp_mono (h n0 w0 A0 g a w h1 h2 h3 h4) fun e a' w' hq => ?_)
 obtain ⟨σ', g', k1, k2, k3, k4, k5⟩ := hq
 cases e with
 | normal => exact k1 n0 w0 A0 g' a' w' k2 k3 k4 k5
 | exit i => exact ⟨σ', g', k1, k2, k3, k4, k5⟩
 | goto l => exact ⟨σ', g', k1, k2, k3, k4, k5⟩
 | ret => exact ⟨σ', g', k1, k2, k3, k4, k5⟩
 | panic ch => exact ⟨σ', g', k1, k2, k3, k4, k5⟩
 | outgrown => exact ⟨σ', g', k1, k2, k3, k4, k5⟩
def qcx : Nat -> Code -> Code
 | 0, .seq x _ => x
 | n + 1, .seq x y => .seq x (qcx n y)
 | _, c => c
def sufC : Nat -> Code -> Code
 | 0, .seq _ y => y
 | n + 1, .seq _ y => sufC n y
 | _, _ => .skip
def okC : Nat -> Code -> Bool
 | 0, .seq _ _ => true
 | n + 1, .seq _ y => okC n y
 | _, _ => false
theorem zdi.cut : ∀ (n : Nat) {c : Code} {σ : St} {Q : Exit -> St -> Prop}, okC n c = true -> zbb N (qcx n c) = true -> ex P (qcx n c) [] (zu3 P N (sufC n c) Q) σ -> zdi P N c σ Q
 | 0, .seq x y, σ, Q, _, hd, h => zdi.seq (zdi.ofEx hd h)
 | n + 1, .seq x y, σ, Q, ho, hd, h => by
  simp only [qcx, zbb, Bool.and_eq_true] at hd
  refine zdi.seq (zdi.mono (fun e σ' k => ?_) (zdi.ofEx (Q := _) hd.1 h))
  cases e with
  | normal => exact zdi.cut n ho hd.2 k
  | exit i => exact k
  | goto l => exact k
  | ret => exact k
  | panic ch => exact k
  | outgrown => exact k
def blkQ (i : Nat) (Q : Exit -> St -> Prop) (e : Exit) (σ : St) : Prop := match e with | .exit j => if j = i then Q .normal σ else Q (.exit j) σ | e => Q e σ
theorem zpt (i : Nat) (Q : Exit -> St -> Prop) (σ : St) : blkQ i Q .normal σ = Q .normal σ := rfl
theorem qbv (i : Nat) (Q : Exit -> St -> Prop) (σ : St) : blkQ i Q .ret σ = Q .ret σ := rfl
theorem zmo (i j : Nat) (Q : Exit -> St -> Prop) (σ : St) : blkQ i Q (.exit j) σ = if j = i then Q .normal σ else Q (.exit j) σ := rfl
theorem zdi.block {i : Nat} {c : Code} {σ : St} {Q : Exit -> St -> Prop} (h : zdi P N c σ (blkQ i Q)) : zdi P N (.block i c) σ Q := fun n0 w0 A0 g a w h1 h2 h3 h4 => by
 refine wp_block (wp_mono (h n0 w0 A0 g a w h1 h2 h3 h4) fun e a' w' hq => ?_)
 obtain ⟨σ', g', k1, k2, k3, k4, k5⟩ := hq
 cases e with
 | exit j =>
  simp only [Exit.inBlock]
  simp only [zmo] at k1
  split at k1
  ·rw [if_pos ‹_›]; exact ⟨σ', g', k1, k2, k3, k4, k5⟩
  ·rw [if_neg ‹_›]; exact ⟨σ', g', k1, k2, k3, k4, k5⟩
 | normal => exact ⟨σ', g', k1, k2, k3, k4, k5⟩
 | goto l => exact ⟨σ', g', k1, k2, k3, k4, k5⟩
 | ret => exact ⟨σ', g', k1, k2, k3, k4, k5⟩
 | panic ch => exact ⟨σ', g', k1, k2, k3, k4, k5⟩
 | outgrown => exact ⟨σ', g', k1, k2, k3, k4, k5⟩
def lpQ {X : Type} (I : X -> St) (Pr : X -> Prop) (μ : X -> Nat) (x : X) (Q : Exit -> St -> Prop) (e : Exit) (σ : St) : Prop := match e with | .normal => ∃ x', Pr x' /\ μ x' < μ x /\ Wk σ (I x') | e => Q e σ
section
variable {X : Type} (I : X -> St) (Pr : X -> Prop) (μ : X -> Nat) (x : X)
theorem zt5 (Q : Exit -> St -> Prop) (σ : St) : lpQ I Pr μ x Q .normal σ = ∃ x', Pr x' /\ μ x' < μ x /\ Wk σ (I x') := rfl
theorem qgw (Q : Exit -> St -> Prop) (σ : St) : lpQ I Pr μ x Q .ret σ = Q .ret σ := rfl
theorem qbs (Q : Exit -> St -> Prop) (σ : St) (i : Nat) : lpQ I Pr μ x Q (.exit i) σ = Q (.exit i) σ := rfl
end
theorem zdi.loop {b : Code} {σ : St} {Q : Exit -> St -> Prop} {X : Type} (I : X -> St) (Pr : X -> Prop) (μ : X -> Nat) (x0 : X) (h0 : Wk σ (I x0)) (p0 : Pr x0) (hr : ∀ x, Pr x -> zdi P N b (I x) (lpQ I Pr μ x Q)) : zdi P N (.loop b) σ Q := fun n0 w0 A0 g a w h1 h2 h3 h4 => by
 refine zla (fun n a w => ∃ x g1, Pr x /\ μ x = n /\ Rel n0 N (I x) g1 a w /\ LtK n0 w /\ Bk n0 w0 w /\ (g1.A0, g1.R0) = A0) ?_ (n := μ x0) (by obtain ⟨g0, r1, r2, r3⟩ := h0 _ _ _ _ _ h1; exact ⟨x0, g0, p0, rfl, r1, h2, h3, by rw [r2, r3]; exact h4⟩)
 rintro n a w ⟨x, g1, px, rfl, k2, k3, k4, k5⟩
 refine wp_mono (hr x px n0 w0 A0 g1 a w k2 k3 k4 k5) fun e a' w' hq => ?_
 obtain ⟨σ', g', h1, h2, h3, h4, h5⟩ := hq
 cases e with
 | normal =>
  obtain ⟨x', p', hlt, hwk⟩ := h1
  obtain ⟨g2, r1, r2, r3⟩ := hwk _ _ _ _ _ h2
  exact ⟨μ x', hlt, x', g2, p', rfl, r1, h3, h4, by rw [r2, r3]; exact h5⟩
 | exit i => exact ⟨σ', g', h1, h2, h3, h4, h5⟩
 | goto l => exact ⟨σ', g', h1, h2, h3, h4, h5⟩
 | ret => exact ⟨σ', g', h1, h2, h3, h4, h5⟩
 | panic ch => exact ⟨σ', g', h1, h2, h3, h4, h5⟩
 | outgrown => exact ⟨σ', g', h1, h2, h3, h4, h5⟩
theorem qg2 {f : FuncId} {fn : Func} {c : Code} {args : List (Bool × D)} {res : List D} (hc : za0 P f) (hf : P.funcs[f]? = some fn) (hb : fn.body = some c) (hN : args.length <= fn.ntmps) (hs : zby args)
  (h : ∀ (w : World) (vs : List Value) (fp tp : List Nat), zax w (fun b => b < w.heap.size /\ b ∉ fp) args vs fp tp -> ∀ (g : Gh) (a : Act), Rel (fun b => b < w.heap.size /\ b ∉ fp) fn.ntmps (zdu args) g a w -> (a.tmps = (⟨vs⟩ : Array Value) ++ Array.replicate (fn.ntmps - vs.length) undef /\ (g.A0, g.R0) = ((fun _ => True), RP.of fun b => b ∈ fp \/ w.heap.size <= b)) →
   ∃ σ0, zdi P fn.ntmps c σ0 (PS P fn.results.toList res) /\ Rel (fun b => b < w.heap.size /\ b ∉ fp) fn.ntmps σ0 g a w) : GC P f args res := by
 refine ⟨hc, fun w vs fp tp hv hn => ?_⟩
 refine calls_of_wp hf hb ?_
 have hv' : zax w (fun b => b < w.heap.size /\ True /\ b ∉ fp) args vs fp tp := zax.keepA (fun b hb => ⟨hb.1, trivial, hb.2⟩) hv
 obtain ⟨g, hg, hR⟩ := Rel.start (A0 := fun _ => True) (R0 := RP.of fun b => b ∈ fp \/ w.heap.size <= b) (N := fn.ntmps) hv' hn hs hN (fun _ _ => trivial) (fun b hb => ⟨trivial, Or.inl hb⟩) (fun b hb => ⟨trivial, by
  by_cases hlt : b < w.heap.size
  ·exact Or.inl (Classical.byContradiction fun h => hb ⟨hlt, h⟩)
  ·exact Or.inr (by omega)⟩)
 obtain ⟨σ0, hex, hR0⟩ := h w vs fp tp hv g _ hR ⟨rfl, hg⟩
 refine wp_mono (hex _ w _ g _ w hR0 (fun k hk => hk.1) (Bk.refl _ _) hg) fun e a' w' hq => ?_
 obtain ⟨σ', g', h1, h2, h3, h4, h5⟩ := hq
 have fin : ∀ {us : List Value} {v : Value}, (results fn a'.tmps).run P w' = .ok v w' -> v = zbw us -> (∃ fp' tp', GDs w' res us fp' tp' /\ fp'.Nodup /\ ∀ b ∈ fp', ∃ e, σ'.On e /\ b ∈ g'.φ e) -> ∃ v, (results fn a'.tmps).run P w' = .ok v w' /\ ∃ us fp' tp', Ending.returned v = .returned (zbw us) /\ GDs w' res us fp' tp' /\ fp'.Nodup /\ (∀ b ∈ fp', b ∈ fp \/ w.heap.size <= b) /\ Bk (fun k => k < w.heap.size /\ k ∉ fp) w w' := fun {us v} r1 rv ⟨fp', tp', o1, o2, o3⟩ => by
  refine ⟨_, r1, us, fp', tp', by rw [rv], o1, o2, fun b hb => ?_, h4⟩
  obtain ⟨e, l, m⟩ := o3 b hb
  have := (h2.ebase e l b m).2
  rw [(Prod.mk.inj h5).2] at this
  exact this
 have key : (zar (zbs P σ' fn.results.toList) (fun vs => zsv σ' [] vs res) \/ PX P fn.results.toList res σ') -> ∃ v, (results fn a'.tmps).run P w' = .ok v w' /\ ∃ us fp' tp', Ending.returned v = .returned (zbw us) /\ GDs w' res us fp' tp' /\ fp'.Nodup /\ (∀ b ∈ fp', b ∈ fp \/ w.heap.size <= b) /\ Bk (fun k => k < w.heap.size /\ k ∉ fp) w w' := fun hk => by
  rcases hk with hk | ⟨pl, hk⟩
  ·obtain ⟨vs, hvs, hk⟩ := zap hk
   obtain ⟨us, r1, r2⟩ := zbn h2 fn hvs
   obtain ⟨used, fp', tp', o1, o2⟩ := zcu h2 hk r2
   exact fin r1 rfl ⟨fp', tp', o1, o2.1, fun b hb => by obtain ⟨e, _, _, l, m⟩ := o2.2.1 b hb; exact ⟨e, l, m⟩⟩
  ·obtain ⟨vs, hvs, hk⟩ := zap hk
   obtain ⟨us, r1, r2⟩ := zbn h2 fn hvs
   exact fin r1 rfl (zvx h2 hk r2)
 cases e with
 | normal => exact ⟨h2.defers, key h1⟩
 | ret => exact ⟨h2.defers, key h1⟩
 | exit _ => exact h1.elim
 | goto _ => exact h1.elim
 | panic _ => exact h1.elim
 | outgrown => exact h1.elim
theorem qgu {f : FuncId} {fn : Func} {c : Code} {args res : List D} (hc : za0 P f) (hf : P.funcs[f]? = some fn) (hb : fn.body = some c) (hN : (rd args).length <= fn.ntmps)
  (h : zdi P fn.ntmps c (zf3 args) (PS P fn.results.toList res)) : FC P f args res := by
 refine qg2 hc hf hb hN (zcb args) fun w vs fp tp hv g a hR hg => ?_
 obtain ⟨hr, rfl, rfl⟩ := zcc hv
 exact ⟨zf3 args, h, zir hr hR hg⟩
structure RelM (n0 : Nat -> Prop) (N : Nat) (σ : St) (ag : Bool) (rows : List (List T)) (b : Nat) (A0 : (Nat -> Prop) × RP) (g : Gh) (a : Act) (w : World) : Prop where
 rel : ∃ (n1 : Nat -> Prop) (es : Array MapEntry) (clk : Nat), (∀ x, n0 x -> n1 x) /\ n1 b /\ ¬ g.A0 b /\ Rel n1 N σ g a w /\ LtK n1 w /\ w.heap[b]? = some (.map es clk) /\ zaw w (fun x => n1 x /\ g.A0 x) ag rows es.toList
 nb : ¬ n0 b
 sub : ∀ x, g.A0 x -> A0.1 x
 r0 : g.R0 = A0.2
 new : ∀ x, ¬ n0 x -> A0.1 x /\ A0.2 x
def znd (n0 : Nat -> Prop) (N : Nat) (w0 : World) (A0 : (Nat -> Prop) × RP) (ag : Bool) (b : Nat) (Q : Exit -> St -> List (List T) -> Prop) (e : Exit) (a : Act) (w : World) : Prop := ∃ σ rows g, Q e σ rows /\ RelM n0 N σ ag rows b A0 g a w /\ LtK n0 w /\ Bk n0 w0 w
def zes (P : Program) (N : Nat) (ag : Bool) (b : Nat) (c : Code) (σ : St) (rows : List (List T)) (Q : Exit -> St -> List (List T) -> Prop) : Prop := ∀ n0 w0 A0 g a w, RelM n0 N σ ag rows b A0 g a w -> LtK n0 w -> Bk n0 w0 w -> c.wp P (znd n0 N w0 A0 ag b Q) a w
section
variable {ag : Bool} {b : Nat}
theorem znd.mono {n0 : Nat -> Prop} {w0 : World} {A0 : (Nat -> Prop) × RP} {Q Q' : Exit -> St -> List (List T) -> Prop} (h : ∀ e σ r, Q e σ r -> Q' e σ r) {e : Exit} {a : Act} {w : World} : znd n0 N w0 A0 ag b Q e a w -> znd n0 N w0 A0 ag b Q' e a w
 | ⟨σ, r, g, h1, h2⟩ => ⟨σ, r, g, h _ _ _ h1, h2⟩
theorem zes.mono {c : Code} {σ : St} {rows : List (List T)} {Q Q' : Exit -> St -> List (List T) -> Prop} (h : ∀ e σ r, Q e σ r -> Q' e σ r) (k : zes P N ag b c σ rows Q) : zes P N ag b c σ rows Q' := fun n0 w0 A0 g a w h1 h2 h3 => wp_mono (k n0 w0 A0 g a w h1 h2 h3) fun _ _ _ => znd.mono h
theorem RelM.keep {n0 n1 : Nat -> Prop} {σ σ' : St} {rows : List (List T)} {A0 : (Nat -> Prop) × RP} {g g' : Gh} {a a' : Act} {w w' : World} {es : Array MapEntry} {clk : Nat} (h : RelM n0 N σ ag rows b A0 g a w) (hn : ∀ x, n0 x -> n1 x) (hb : n1 b) (hA : ¬ g.A0 b) (he : w.heap[b]? = some (.map es clk)) (hr : zaw w (fun x => n1 x /\ g.A0 x) ag rows es.toList)
  (h2 : Rel n1 N σ' g' a' w') (h3 : LtK n1 w') (h4 : Bk n1 w w') (h5 : (g'.A0, g'.R0) = (g.A0, g.R0)) : RelM n0 N σ' ag rows b A0 g' a' w' := by
 have e1 : g'.A0 = g.A0 := (Prod.mk.inj h5).1
 have e2 : g'.R0 = g.R0 := (Prod.mk.inj h5).2
 exact ⟨⟨n1, es, clk, hn, hb, by rw [e1]; exact hA, h2, h3, (h4.block b hb).trans he, zaw.keep (fun x hx => h4.block x hx.1) (fun x hx => ⟨hx.1, by rw [e1]; exact hx.2⟩) ag rows _ hr⟩, h.nb, by rw [e1]; exact h.sub, by rw [e2]; exact h.r0, h.new⟩
theorem qd1 {n0 n1 : Nat -> Prop} {w w' : World} (hn : ∀ x, n0 x -> n1 x) (h : Bk n1 w w') : Bk n0 w w' := ⟨h.os, h.tape, h.output, h.size, fun k hk => h.block k (hn k hk)⟩
theorem zes.ofEx {c : Code} {σ : St} {rows : List (List T)} {Q : Exit -> St -> List (List T) -> Prop} (hd : zbb N c = true) (h : ex P c [] (fun e σ' => Q e σ' rows) σ) : zes P N ag b c σ rows Q := fun n0 w0 A0 g a w hM h2 h3 => by
 obtain ⟨n1, es, clk, k1, k2, k3, k4, k5, k6, k7⟩ := hM.rel
 refine wp_mono (zbc (w0 := w) (A0 := (g.A0, g.R0)) c σ _ hd h g a w k4 k5 (Bk.refl _ _) rfl) fun e a' w' hq => ?_
 obtain ⟨σ', g', h1, m2, m3, m4, m5⟩ := hq
 exact ⟨σ', rows, g', h1, hM.keep k1 k2 k3 k6 k7 m2 m3 m4 m5, h2.mono m4.size, h3.trans (qd1 k1 m4)⟩
def zzv (P : Program) (N : Nat) (ag : Bool) (b : Nat) (c : Code) (Q : Exit -> St -> List (List T) -> Prop) (e : Exit) (σ : St) (rows : List (List T)) : Prop := match e with | .normal => zes P N ag b c σ rows Q | e => Q e σ rows
theorem zof (c : Code) (Q : Exit -> St -> List (List T) -> Prop) (σ : St) (rows : List (List T)) : zzv P N ag b c Q .normal σ rows = zes P N ag b c σ rows Q := rfl
theorem zuf (c : Code) (Q : Exit -> St -> List (List T) -> Prop) (σ : St) (rows : List (List T)) (i : Nat) : zzv P N ag b c Q (.exit i) σ rows = Q (.exit i) σ rows := rfl
theorem zes.seq {x y : Code} {σ : St} {rows : List (List T)} {Q : Exit -> St -> List (List T) -> Prop} (h : zes P N ag b x σ rows (zzv P N ag b y Q)) : zes P N ag b (.seq x y) σ rows Q := fun n0 w0 A0 g a w h1 h2 h3 => by
 refine wp_seq (wp_mono (h n0 w0 A0 g a w h1 h2 h3) fun e a' w' hq => ?_)
 obtain ⟨σ', r', g', k1, k2, k3, k4⟩ := hq
 cases e with
 | normal => exact k1 n0 w0 A0 g' a' w' k2 k3 k4
 | exit i => exact ⟨σ', r', g', k1, k2, k3, k4⟩
 | goto l => exact ⟨σ', r', g', k1, k2, k3, k4⟩
 | ret => exact ⟨σ', r', g', k1, k2, k3, k4⟩
 | panic ch => exact ⟨σ', r', g', k1, k2, k3, k4⟩
 | outgrown => exact ⟨σ', r', g', k1, k2, k3, k4⟩
theorem zes.cut : ∀ (n : Nat) {c : Code} {σ : St} {rows : List (List T)} {Q : Exit -> St -> List (List T) -> Prop}, okC n c = true -> zbb N (qcx n c) = true -> ex P (qcx n c) [] (fun e σ' => zzv P N ag b (sufC n c) Q e σ' rows) σ -> zes P N ag b c σ rows Q
 | 0, .seq x y, σ, rows, Q, _, hd, h => zes.seq (zes.ofEx hd h)
 | n + 1, .seq x y, σ, rows, Q, ho, hd, h => by
  simp only [qcx, zbb, Bool.and_eq_true] at hd
  refine zes.seq (zes.mono (Q := fun e σ' r => r = rows /\ zuz P [.seq (qcx n y)] (fun e σ' => zzv P N ag b (sufC n y) Q e σ' rows) e σ') (fun e σ' r k => ?_) (zes.ofEx hd.1 (zb3 (fun e σ' k => ⟨rfl, k⟩) h)))
  obtain ⟨rfl, k⟩ := k
  cases e with
  | normal => exact zes.cut n ho hd.2 k
  | exit i => exact k
  | goto l => exact k
  | ret => exact k
  | panic ch => exact k
  | outgrown => exact k
def blkM (i : Nat) (Q : Exit -> St -> List (List T) -> Prop) (e : Exit) (σ : St) (rows : List (List T)) : Prop := match e with | .exit j => if j = i then Q .normal σ rows else Q (.exit j) σ rows | e => Q e σ rows
theorem zo0 (i : Nat) (Q : Exit -> St -> List (List T) -> Prop) (σ : St) (rows : List (List T)) : blkM i Q .normal σ rows = Q .normal σ rows := rfl
theorem zmq (i j : Nat) (Q : Exit -> St -> List (List T) -> Prop) (σ : St) (rows : List (List T)) : blkM i Q (.exit j) σ rows = if j = i then Q .normal σ rows else Q (.exit j) σ rows := rfl
theorem zes.block {i : Nat} {c : Code} {σ : St} {rows : List (List T)} {Q : Exit -> St -> List (List T) -> Prop} (h : zes P N ag b c σ rows (blkM i Q)) : zes P N ag b (.block i c) σ rows Q := fun n0 w0 A0 g a w h1 h2 h3 => by
 refine wp_block (wp_mono (h n0 w0 A0 g a w h1 h2 h3) fun e a' w' hq => ?_)
 obtain ⟨σ', r', g', k1, k2, k3, k4⟩ := hq
 cases e with
 | exit j =>
  simp only [Exit.inBlock]
  simp only [zmq] at k1
  split at k1
  ·rw [if_pos ‹_›]; exact ⟨σ', r', g', k1, k2, k3, k4⟩
  ·rw [if_neg ‹_›]; exact ⟨σ', r', g', k1, k2, k3, k4⟩
 | normal => exact ⟨σ', r', g', k1, k2, k3, k4⟩
 | goto l => exact ⟨σ', r', g', k1, k2, k3, k4⟩
 | ret => exact ⟨σ', r', g', k1, k2, k3, k4⟩
 | panic ch => exact ⟨σ', r', g', k1, k2, k3, k4⟩
 | outgrown => exact ⟨σ', r', g', k1, k2, k3, k4⟩
theorem RelM.wk {n0 : Nat -> Prop} {σ σ' : St} {rows : List (List T)} {A0 : (Nat -> Prop) × RP} {g : Gh} {a : Act} {w : World} (h : RelM n0 N σ ag rows b A0 g a w) (k : Wk σ σ') : ∃ g', RelM n0 N σ' ag rows b A0 g' a w := by
 obtain ⟨n1, es, clk, k1, k2, k3, k4, k5, k6, k7⟩ := h.rel
 obtain ⟨g', r1, r2, r3⟩ := k _ _ _ _ _ k4
 exact ⟨g', h.keep k1 k2 k3 k6 k7 r1 k5 (Bk.refl _ _) (by rw [r2, r3])⟩
def lpM {X : Type} (I : X -> St) (J : X -> List (List T)) (Pr : X -> Prop) (μ : X -> Nat) (x : X) (Q : Exit -> St -> List (List T) -> Prop) (e : Exit) (σ : St) (rows : List (List T)) : Prop := match e with | .normal => ∃ x', Pr x' /\ μ x' < μ x /\ J x' = rows /\ Wk σ (I x') | e => Q e σ rows
section
variable {X : Type} (I : X -> St) (J : X -> List (List T)) (Pr : X -> Prop) (μ : X -> Nat) (x : X)
theorem ztp (Q : Exit -> St -> List (List T) -> Prop) (σ : St) (rows : List (List T)) : lpM I J Pr μ x Q .normal σ rows = ∃ x', Pr x' /\ μ x' < μ x /\ J x' = rows /\ Wk σ (I x') := rfl
theorem qao (Q : Exit -> St -> List (List T) -> Prop) (σ : St) (rows : List (List T)) (i : Nat) : lpM I J Pr μ x Q (.exit i) σ rows = Q (.exit i) σ rows := rfl
theorem zes.loop {c : Code} {σ : St} {rows : List (List T)} {Q : Exit -> St -> List (List T) -> Prop} (x0 : X) (h0 : Wk σ (I x0)) (j0 : J x0 = rows) (p0 : Pr x0) (hr : ∀ x, Pr x -> zes P N ag b c (I x) (J x) (lpM I J Pr μ x Q)) : zes P N ag b (.loop c) σ rows Q := fun n0 w0 A0 g a w h1 h2 h3 => by
 subst j0
 refine zla (fun n a w => ∃ x g1, Pr x /\ μ x = n /\ RelM n0 N (I x) ag (J x) b A0 g1 a w /\ LtK n0 w /\ Bk n0 w0 w) ?_ (n := μ x0) (by obtain ⟨g0, r1⟩ := h1.wk h0; exact ⟨x0, g0, p0, rfl, r1, h2, h3⟩)
 rintro n a w ⟨x, g1, px, rfl, k2, k3, k4⟩
 refine wp_mono (hr x px n0 w0 A0 g1 a w k2 k3 k4) fun e a' w' hq => ?_
 obtain ⟨σ', r', g', h1, h2, h3, h4⟩ := hq
 cases e with
 | normal =>
  obtain ⟨x', p', hlt, rfl, hwk⟩ := h1
  obtain ⟨g2, r1⟩ := h2.wk hwk
  exact ⟨μ x', hlt, x', g2, p', rfl, r1, h3, h4⟩
 | exit i => exact ⟨σ', r', g', h1, h2, h3, h4⟩
 | goto l => exact ⟨σ', r', g', h1, h2, h3, h4⟩
 | ret => exact ⟨σ', r', g', h1, h2, h3, h4⟩
 | panic ch => exact ⟨σ', r', g', h1, h2, h3, h4⟩
 | outgrown => exact ⟨σ', r', g', h1, h2, h3, h4⟩
end
end
attribute [go_sem] zmm zzl zt0 zpt qbv zmo zt5 qgw qbs qcx sufC zof zuf zo0 zmq ztp qao
end Go.Proofs.YtemnhgmgeijkcaaGreat
namespace Go.Proofs.YtemnhgmgeijkcaaGreat
set_option linter.unusedSimpArgs false
set_option linter.unusedVariables false
set_option linter.unusedSectionVars false
set_option maxRecDepth 4000
open Go.RowKit
variable {P : Program} {N : Nat}
theorem zog {mt kt et : TypeId} {d : TypeDesc} (hm : P.underlying mt = some (.map kt et)) (hd : P.underlying kt = some d) {w : World} {r : Nat} {es : Array MapEntry} {clk : Nat} {key val : Value} (hb : w.heap[r]? = some (.map es clk)) (hk : Go.MapKept.IsKey d key) (hf : Instr.findNow d key es.toList 0 = some none) :
  (Instr.mapUpdate mt (.map (some r)) key val).run P w = .ok () { w with heap := w.heap.setIfInBounds r (.map (es.push { key, val, born := clk }) (clk + 1)) } := by
 simp [Instr.mapUpdate, run_underlying hm, Go.MapKept.run_getObj_map hb, Go.MapKept.run_checkKey hd hk, Go.MapKept.run_findKey hd hf, Go.MapKept.run_setObj_map _ hb, Result.andThen]
theorem zmc {mt : TypeId} {w : World} : (Instr.makeMap mt none).run P w = .ok (.map (some w.heap.size)) (w.alloc (.map #[] 0)) := by
 simp [Instr.makeMap, Result.andThen]
theorem zxl {ops : Array Oper} {K : St -> Prop} {n0 : Nat -> Prop} {w0 : World} {A0 : (Nat -> Prop) × RP} {R : Exit -> Act -> World -> Prop} {rest : List Nat} (hg : ∀ o ∈ ops.toList, o.guard = none) (hR : ∀ a w σ g, K σ -> Rel n0 N σ g a w -> LtK n0 w -> Bk n0 w0 w -> (g.A0, g.R0) = A0 -> wpOps P ops R rest a w) :
  ∀ (k i : Nat), i + k <= ops.size -> (∀ o ∈ ops.toList, ∀ d, o.dst = some d -> d < N) -> ∀ (σ : St) (g : Gh) (a : Act) (w : World), zbg P ops ((ops.toList.drop i).take k) σ K -> Rel n0 N σ g a w -> LtK n0 w -> Bk n0 w0 w -> (g.A0, g.R0) = A0 -> wpOps P ops R (List.range' i k ++ rest) a w
 | 0, i, hi, hd, σ, g, a, w, h, hr, hn, hb, hA => by
  rw [List.take_zero] at h
  exact hR a w σ g h hr hn hb hA
 | k + 1, i, hi, hd, σ, g, a, w, h, hr, hn, hb, hA => by
  have hlt : i < ops.size := by omega
  have hcons : ops.toList.drop i = ops[i] :: ops.toList.drop (i + 1) := by
   rw [List.drop_eq_getElem_cons (by simpa using hlt)]; rfl
  rw [hcons, List.take_succ_cons] at h
  rw [show List.range' i (k + 1) ++ rest = i :: (List.range' (i + 1) k ++ rest) from rfl, wpOps_cons]
  have ho : ops[i]? = some ops[i] := by simp [hlt]
  have hdi : ∀ d, ops[i].dst = some d -> d < N := hd _ (by simp)
  have hgi : ops[i].guard = none := hg _ (by simp)
  unfold wpOp
  simp only [ho]
  unfold zbg exG at h
  rw [hgi] at h
  have : Region.wanted ops[i] (yielded ops a.tmps) = true := by simp [Region.wanted, hgi]
  rw [if_pos this]
  exact Or.inl (zd5 (fun a' w' ⟨σ', g', h0, k1, k2, k3, k4⟩ => zxl hg hR k (i + 1) (by omega) hd σ' g' a' w' h0 k1 (hn.mono k2.size) (hb.trans k2) (by rw [k3, k4]; exact hA)) (zeb h n0 N g a w hr hn hdi))
def mvC : C -> Option T
 | .rn t => some t
 | .t t => if t.flat = true then some t else none
 | _ => none
def mvCs : List C -> Option (List T)
 | [] => some []
 | c :: cs => (mvC c).bind fun t => (mvCs cs).map fun ts => t :: ts
def mvV (ag : Bool) : V -> Option (List T)
 | .agg cs => if ag = true then mvCs cs else none
 | .one c => if ag = true then none else (mvC c).map fun t => [t]
 | _ => none
theorem zwh {σ : St} {g : Gh} {w : World} {A : Nat -> Prop} (hA : ∀ b, zco σ g w b -> A b) {c : C} {t : T} {v : Value} (h : mvC c = some t) (hv : CR σ g w c v) : zak w A t v := by
 cases c <;> simp only [mvC, Option.some.injEq, reduceCtorEq] at h
 ·split at h
  ·rename_i hf
   obtain rfl := Option.some.inj h
   exact zdp hf hv
  ·cases h
 ·subst h
  exact zak.keep (fun _ _ => rfl) hA _ _ hv
theorem zq5 {σ : St} {g : Gh} {w : World} {A : Nat -> Prop} (hA : ∀ b, zco σ g w b -> A b) : ∀ {cs : List C} {ts : List T} {vs : List Value}, mvCs cs = some ts -> CRs σ g w cs vs -> zad w A ts vs
 | [], ts, vs, h, hv => by
  obtain rfl := Option.some.inj h
  unfold zad
  exact hv
 | c :: cs, ts, vs, h, hv => by
  obtain ⟨t, h1, h⟩ := Option.bind_eq_some_iff.1 h
  obtain ⟨ts', h2, rfl⟩ := Option.map_eq_some_iff.1 h
  obtain ⟨v, vs', rfl, k1, k2⟩ := hv
  unfold zad
  exact ⟨v, vs', rfl, zwh hA h1 k1, zq5 hA h2 k2⟩
theorem qhm {σ : St} {g : Gh} {w : World} {A : Nat -> Prop} (hA : ∀ b, zco σ g w b -> A b) {ag : Bool} {x : V} {ts : List T} {v : Value} (h : mvV ag x = some ts) (hv : VR σ g w x v) : ∃ us, (if ag = true then v = .agg ⟨us⟩ else us = [v]) /\ zad w A ts us := by
 cases x with
 | agg cs =>
  simp only [mvV] at h
  split at h
  ·rename_i hag
   obtain ⟨us, rfl, hc⟩ := hv
   exact ⟨us, by rw [if_pos hag], zq5 hA h hc⟩
  ·cases h
 | one c =>
  simp only [mvV] at h
  split at h
  ·cases h
  ·rename_i hag
   obtain ⟨t, h1, rfl⟩ := Option.map_eq_some_iff.1 h
   refine ⟨[v], by rw [if_neg hag], ?_⟩
   unfold zad
   refine ⟨v, [], rfl, zwh hA h1 hv, ?_⟩
   unfold zad; rfl
 | tup _ => cases h
theorem zaw.push {w : World} {A : Nat -> Prop} {ag : Bool} {r : List T} {e : MapEntry} (he : ∃ us, (if ag = true then e.val = .agg ⟨us⟩ else us = [e.val]) /\ zad w A r (e.key :: us)) : ∀ {rows : List (List T)} {es : List MapEntry}, zaw w A ag rows es -> zaw w A ag (rows ++ [r]) (es ++ [e])
 | [], es, h => by
  unfold zaw at h
  subst h
  obtain ⟨us, h1, h2⟩ := he
  show zaw w A ag [r] [e]
  unfold zaw
  refine ⟨e, [], us, rfl, h1, h2, ?_⟩
  unfold zaw; rfl
 | _ :: rows, es, h => by
  unfold zaw at h
  obtain ⟨e', es', us, rfl, h1, h2, h3⟩ := h
  show zaw w A ag (_ :: (rows ++ [r])) (e' :: (es' ++ [e]))
  unfold zaw
  exact ⟨e', _, us, rfl, h1, h2, zaw.push he h3⟩
def updM (P : Program) (ag : Bool) (b : Nat) (mt : TypeId) (x k v : Operand) (σ : St) (rows : List (List T)) (K : St -> List (List T) -> Prop) : Prop := match σ.get P 0 x, σ.get P 0 k, mapT P mt, mvV ag (σ.get P 0 v) with
 | .one (.cv (.map (some b'))), .one (.t kT), some (d, _), some vts => b' = b /\ zxv d kT = true /\ zdd kT rows = some none /\ K σ (rows ++ [kT :: vts])
 | _, _, _, _ => False
theorem qhv {ag : Bool} {b : Nat} {mt : TypeId} {x k v : Operand} {σ : St} {rows : List (List T)} {K : St -> List (List T) -> Prop} (h : updM P ag b mt x k v σ rows K) : ∃ kT d et vts, σ.get P 0 x = .one (.cv (.map (some b))) /\ σ.get P 0 k = .one (.t kT) /\ mapT P mt = some (d, et) /\ mvV ag (σ.get P 0 v) = some vts /\ zxv d kT = true /\ zdd kT rows = some none /\ K σ (rows ++ [kT :: vts]) := by
 unfold updM at h
 split at h
 ·rename_i b' kT d et vts h1 h2 h3 h4
  obtain ⟨rfl, h5, h6, h7⟩ := h
  exact ⟨kT, d, et, vts, h1, h2, h3, h4, h5, h6, h7⟩
 ·exact h.elim
theorem zm0 {d : TypeDesc} {k : T} (h : zxv d k = true) : k.flat = true := by
 cases d <;> cases k <;> simp [zxv] at h <;> rfl
section
variable {ag : Bool} {b : Nat}
theorem zes.upd {i : Nat} {ops : Array Oper} {mt : TypeId} {x k v : Operand} {ty : TypeId} {ps : String} {af : Array Edge} {σ : St} {rows : List (List T)} {Q : Exit -> St -> List (List T) -> Prop} (m : Nat) (hz : ops.size = m + 1) (hl : ops[m]? = some ⟨none, .mapUpdate mt x k v, ty, ps, af, none⟩) (hg : (ops.toList.all fun o => o.guard.isNone) = true) (hd : zbb N (.region i ops false) = true)
  (h : exo P ops (ops.toList.take m) [] (fun _ σ' => updM P ag b mt x k v σ' rows (Q .normal)) σ) : zes P N ag b (.region i ops false) σ rows Q := fun n0 w0 A0 g a w hM h2 h3 => by
 obtain ⟨n1, es, clk, k1, k2, k3, k4, k5, k6, k7⟩ := hM.rel
 refine wp_region ?_
 have hd' : ∀ o ∈ ops.toList, ∀ d, o.dst = some d -> d < N := fun o ho d hdd => by
  simp only [zbb, Array.all_eq_true_iff_forall_mem] at hd
  have := hd o (by simpa using ho)
  rw [hdd] at this
  simpa using this
 have hg' : ∀ o ∈ ops.toList, o.guard = none := fun o ho => by
  have := List.all_eq_true.1 hg o ho
  simpa using this
 rw [hz, List.range_eq_range', show List.range' 0 (m + 1) = List.range' 0 m ++ [m] by rw [List.range'_1_concat, Nat.zero_add]]
 refine zxl (w0 := w) (A0 := (g.A0, g.R0)) hg' ?_ m 0 (by omega) hd' σ g a w (by simpa [exo, zuz] using h) k4 k5 (Bk.refl _ _) rfl
 intro a' w' σ' g' hK m2 m3 m4 m5
 obtain ⟨kT, d, et, vts, c1, c2, c3, c4, c5, c6, c7⟩ := qhv hK
 obtain ⟨kt, t1, t2⟩ := zyi c3
 have hM' := hM.keep k1 k2 k3 k6 k7 m2 m3 m4 m5
 have e1 : g'.A0 = g.A0 := (Prod.mk.inj m5).1
 have hA' : ¬ g'.A0 b := by rw [e1]; exact k3
 have he : w'.heap[b]? = some (.map es clk) := (m4.block b k2).trans k6
 have hr : zaw w' (fun x => n1 x /\ g'.A0 x) ag rows es.toList := zaw.keep (fun x hx => m4.block x hx.1) (fun x hx => ⟨hx.1, by rw [e1]; exact hx.2⟩) ag rows _ k7
 have v1 := m2.get P 0 x
 have v2 := m2.get P 0 k
 have v3 := m2.get P 0 v
 rw [c1] at v1
 rw [c2] at v2
 have v1 : a'.eval x = .map (some b) := v1
 have v2 : zak w' (Fix σ' g' w') kT (a'.eval k) := v2
 have hfn := zee c5 (zdp (A' := fun x => n1 x /\ g'.A0 x) (w' := w') (zm0 c5) v2) ag rows es.toList 0 none hr c6
 have hkey := zlm c5 v2
 have hrun := zog t1 t2 (val := a'.eval v) he hkey hfn
 rw [wpOps_cons]
 unfold wpOp
 simp only [hl]
 rw [if_pos (by simp [Region.wanted])]
 refine Or.inl ?_
 unfold Oper.wp
 have hex : (execOp a'.eval ⟨none, .mapUpdate mt x k v, ty, ps, af, none⟩).run P w' = .ok .skip { w' with heap := w'.heap.setIfInBounds b (.map (es.push { key := a'.eval k, val := a'.eval v, born := clk }) (clk + 1)) } := by
  unfold execOp
  simp only [v1, Sem.run_bind, hrun, Result.andThen_ok, Sem.run_pure]
 rw [hex]
 have hh := (Go.MapKept.heap_set (o' := .map (es.push { key := a'.eval k, val := a'.eval v, born := clk }) (clk + 1)) he)
 have hother : ∀ x, x ≠ b -> ({ w' with heap := w'.heap.setIfInBounds b (.map (es.push { key := a'.eval k, val := a'.eval v, born := clk }) (clk + 1)) } : World).heap[x]? = w'.heap[x]? := hh.2
 have hsize : ({ w' with heap := w'.heap.setIfInBounds b (.map (es.push { key := a'.eval k, val := a'.eval v, born := clk }) (clk + 1)) } : World).heap.size = w'.heap.size := by simp
 have hself : ({ w' with heap := w'.heap.setIfInBounds b (.map (es.push { key := a'.eval k, val := a'.eval v, born := clk }) (clk + 1)) } : World).heap[b]? = _ := hh.1
 have hbk : Bk n0 w' { w' with heap := w'.heap.setIfInBounds b (.map (es.push { key := a'.eval k, val := a'.eval v, born := clk }) (clk + 1)) } := ⟨rfl, rfl, rfl, by rw [hsize]; exact Nat.le_refl _, fun j hj => hother j fun e => hM.nb (e ▸ hj)⟩
 have hfree : ∀ y, zco σ' g' w' y -> y < w'.heap.size /\ g'.A0 y := fun y hy => ⟨hy.1.2.2.1, hy.1.2.2.2⟩
 generalize hw : ({ w' with heap := w'.heap.setIfInBounds b (.map (es.push { key := a'.eval k, val := a'.eval v, born := clk }) (clk + 1)) } : World) = w2 at hother hsize hself hbk ⊢
 have hR2 : Rel (fun y => n1 y \/ zco σ' g' w' y) N σ' g' a' w2 := by
  refine m2.turn (n1 := fun y => n1 y \/ zco σ' g' w' y) (A1 := g'.A0) (w' := w2) (fun y hf => ⟨hf.2.2.2, hother y fun e => hA' (e ▸ hf.2.2.2)⟩) (by rw [hsize]; exact Nat.le_refl _) (fun y hy => m2.anew y fun q => hy (Or.inl q)) (fun j hj => ⟨?_, hother _ fun e => m2.base j hj (e ▸ k2)⟩) fun e ho y hy => ⟨?_, (m2.ebase e ho y hy).1, hother _ fun q => m2.etop e ho y hy (q ▸ k2)⟩
  ·rintro (q | q)
   ·exact m2.base j hj q
   ·exact q.1.1 j hj rfl
  ·rintro (q | q)
   ·exact m2.etop e ho y hy q
   ·exact q.2 e ho hy
 obtain ⟨us, u1, u2⟩ := qhm (A := fun y => (n1 y \/ zco σ' g' w' y) /\ g'.A0 y) (fun y hy => ⟨Or.inr hy, hy.1.2.2.2⟩) c4 v3
 refine ⟨σ', rows ++ [kT :: vts], g', c7, ⟨⟨fun y => n1 y \/ zco σ' g' w' y, es.push { key := a'.eval k, val := a'.eval v, born := clk }, clk + 1, fun y hy => Or.inl (k1 y hy), Or.inl k2, hA', hR2, fun y hy => ?_, hself, ?_⟩, hM'.nb, hM'.sub, hM'.r0, hM'.new⟩, (h2.mono m4.size).mono hbk.size, (h3.trans (qd1 k1 m4)).trans hbk⟩
 ·rw [hsize]
  rcases hy with q | q
  ·exact m3 y q
  ·exact (hfree y q).1
 ·rw [Array.toList_push]
  refine zaw.keep (A := fun y => (n1 y \/ zco σ' g' w' y) /\ g'.A0 y) (fun y hy => hother y fun e => hA' (e ▸ hy.2)) (fun y hy => hy) ag _ _ (zaw.push ⟨us, u1, ?_⟩ (zaw.keep (fun _ _ => rfl) (fun y hy => ⟨Or.inl hy.1, hy.2⟩) ag rows _ hr))
  unfold zad
  exact ⟨_, _, rfl, zdp (zm0 c5) v2, u2⟩
end
theorem Rel.enter1 {n0 : Nat -> Prop} {σ : St} {g : Gh} {a : Act} {w : World} (h : Rel n0 N σ g a w) (o1 : Obj) :
  Rel (fun b => n0 b \/ b = w.heap.size) N σ { g with A0 := fun b => g.A0 b /\ b ≠ w.heap.size } a (w.alloc o1) := by
 have hs : ∀ b, b < w.heap.size -> (w.alloc o1).heap[b]? = w.heap[b]? := fun b hb => Below.heap_alloc _ _ _ hb
 refine h.turn (fun b hf => ⟨⟨hf.2.2.2, ?_⟩, hs b hf.2.2.1⟩) (by simp) (fun b hb => ?_) (fun k hk => ⟨?_, hs _ (h.lt hk)⟩) (fun e ho b hm => ?_)
 ·have := hf.2.2.1; omega
 ·have h1 : ¬ n0 b := fun k => hb (Or.inl k)
  exact ⟨⟨(h.anew b h1).1, fun e => hb (Or.inr e)⟩, (h.anew b h1).2⟩
 ·have := h.lt hk
  rintro (k1 | k1)
  ·exact h.base k hk k1
  ·omega
 ·have := h.elt ho hm
  refine ⟨?_, ⟨(h.ebase e ho b hm).1, by omega⟩, hs b this⟩
  rintro (k1 | k1)
  ·exact h.etop e ho b hm k1
  ·omega
def onM (ag : Bool) (b d : Nat) (σ : St) (rows : List (List T)) (K : St -> Prop) : Prop := σ.sl d = .one (.cv (.map (some b))) /\ K (σ.put (some d) (.one (.rn (.mp ag rows))))
theorem RelM.leave {n0 : Nat -> Prop} {σ : St} {ag : Bool} {rows : List (List T)} {b d : Nat} {A0 : (Nat -> Prop) × RP} {g : Gh} {a : Act} {w : World} (h : RelM n0 N σ ag rows b A0 g a w) (hd : σ.sl d = .one (.cv (.map (some b)))) :
  ∃ g', Rel n0 N (σ.put (some d) (.one (.rn (.mp ag rows)))) g' a w /\ (g'.A0, g'.R0) = A0 := by
 obtain ⟨n1, es, clk, k1, k2, k3, k4, k5, k6, k7⟩ := h.rel
 have hL : Rel n0 N σ { g with A0 := A0.1 } a w := k4.leave k1 h.sub fun x hx => ⟨(h.new x hx).1, by rw [h.r0]; exact (h.new x hx).2⟩
 have hF : ∀ x, n1 x -> A0.1 x -> zco σ { g with A0 := A0.1 } w x := fun x h1 h2 => ⟨⟨fun k hk e => k4.base k hk (e ▸ h1), fun e y he ho hh => k4.etop e ⟨y, he, ho⟩ x (List.mem_of_mem_head? hh) h1, k5 x h1, h2⟩, fun e ho hm => k4.etop e ho x hm h1⟩
 refine ⟨{ g with A0 := A0.1 }, hL.slots_of rfl rfl hL.defers hL.size fun i => ?_, by show (A0.1, g.R0) = A0; rw [h.r0]⟩
 show VR σ _ w (upd σ.sl d _ i) _
 by_cases hi : i = d
 ·subst hi
  rw [zah]
  have hv := k4.slots i
  rw [hd] at hv
  have hv : a.tmps.getD i (g.R0.ξ i) = .map (some b) := hv
  show CR σ _ w (.rn (.mp ag rows)) (a.tmps.getD i (g.R0.ξ i))
  rw [hv]
  show zak w _ (.mp ag rows) (.map (some b))
  unfold zak
  exact ⟨b, es, clk, rfl, hF b k2 (h.new b h.nb).1, k6, zaw.keep (fun _ _ => rfl) (fun x hx => hF x hx.1 (h.sub x hx.2)) ag rows _ k7⟩
 ·rw [zan _ _ hi]
  exact hL.slots i
theorem zdi.scope {i d0 d1 : Nat} {mt t0 t1 : TypeId} {p0 p1 : String} {f0 f1 : Array Edge} {X Y : Code} {σ : St} {Q : Exit -> St -> Prop} {ops : Array Oper} (ag : Bool) (hz : ops.size = 2) (c0 : ops[0]? = some ⟨some d0, .makeMap mt none, t0, p0, f0, none⟩) (c1 : ops[1]? = some ⟨some d1, .assign (.tmp d0), t1, p1, f1, none⟩) (hd : d0 < N /\ d1 < N)
  (h : ∀ b, zes P N ag b X ((σ.put (some d0) (.one (.cv (.map (some b))))).put (some d1) (.one (.cv (.map (some b))))) [] (fun e σ' rows => e = .normal /\ onM ag b d1 σ' rows fun σ'' => zdi P N Y σ'' Q)) :
  zdi P N (.seq (.region i ops false) (.seq X Y)) σ Q := fun n0 w0 A0 g a w hR h2 h3 h4 => by
 refine wp_seq (wp_region ?_)
 have e0 : (execOp a.eval ⟨some d0, .makeMap mt none, t0, p0, f0, none⟩).run P w = .ok (.value (.map (some w.heap.size))) (w.alloc (.map #[] 0)) := by
  unfold execOp
  simp only [Option.map_none, Sem.run_bind, zmc, Result.andThen_ok, Sem.run_pure]
 have hR1 := (hR.enter1 (.map #[] 0)).put (some d0) (x := .one (.cv (.map (some w.heap.size)))) (v := .map (some w.heap.size)) rfl (fun j hj => by cases hj; exact hd.1)
 have ev : (a.put (some d0) (.map (some w.heap.size))).eval (.tmp d0) = .map (some w.heap.size) := by
  show (a.tmps.setIfInBounds d0 _).getD d0 undef = _
  exact zf1 hR.size hd.1 _ _
 have hR2 := hR1.put (some d1) (x := .one (.cv (.map (some w.heap.size)))) (v := .map (some w.heap.size)) rfl (fun j hj => by cases hj; exact hd.2)
 rw [hz]
 show wpOps P _ _ [0, 1] a w
 rw [wpOps_cons]
 unfold wpOp
 simp only [c0]
 rw [if_pos (by simp [Region.wanted])]
 refine Or.inl ?_
 unfold Oper.wp
 rw [e0]
 show wpOps P _ _ [1] _ _
 rw [wpOps_cons]
 unfold wpOp
 simp only [c1]
 rw [if_pos (by simp [Region.wanted])]
 refine Or.inl ?_
 unfold Oper.wp
 have e1 : ∀ (a : Act) (w : World), (execOp a.eval ⟨some d1, .assign (.tmp d0), t1, p1, f1, none⟩).run P w = .ok (.value (a.eval (.tmp d0))) w := fun a w => rfl
 rw [e1, ev]
 have hbk : Bk n0 w (w.alloc (.map #[] 0)) := ⟨rfl, rfl, rfl, by simp, fun k hk => Below.heap_alloc w _ k (h2 k hk)⟩
 have hM : RelM n0 N ((σ.put (some d0) (.one (.cv (.map (some w.heap.size))))).put (some d1) (.one (.cv (.map (some w.heap.size))))) ag [] w.heap.size A0 { g with A0 := fun b => g.A0 b /\ b ≠ w.heap.size } ((a.put (some d0) (.map (some w.heap.size))).put (some d1) (.map (some w.heap.size))) (w.alloc (.map #[] 0)) := by
  refine ⟨⟨fun b => n0 b \/ b = w.heap.size, #[], 0, fun x hx => Or.inl hx, Or.inr rfl, fun q => q.2 rfl, hR2, fun x hx => ?_, (Go.MapKept.heap_alloc w _).1, ?_⟩, h2.new (Nat.le_refl _), fun x hx => ?_, ?_, fun x hx => ?_⟩
  ·rcases hx with q | q
   ·have := h2 x q; simp; omega
   ·simp; omega
  ·unfold zaw; rfl
  ·rw [<- h4]; exact hx.1
  ·rw [<- h4]
  ·rw [<- h4]; exact hR.anew x hx
 refine wp_seq (wp_mono (h w.heap.size n0 w0 A0 _ _ _ hM (h2.mono hbk.size) (h3.trans hbk)) fun e a' w' hq => ?_)
 obtain ⟨σ', rows, g', ⟨rfl, q1, q2⟩, q3, q4, q5⟩ := hq
 obtain ⟨g'', r1, r2⟩ := q3.leave q1
 exact q2 n0 w0 A0 g'' a' w' r1 q4 q5 r2
end Go.Proofs.YtemnhgmgeijkcaaGreat
namespace Go.Proofs.YtemnhgmgeijkcaaGreat
set_option linter.unusedSimpArgs false
set_option linter.unusedVariables false
set_option linter.unusedSectionVars false
set_option maxRecDepth 4000
open Go.RowKit
variable {P : Program} {N : Nat}
def mpOf : V -> Option (Bool × List (List T))
 | .one (.t (.mp ag rows)) => some (ag, rows)
 | .one (.rn (.mp ag rows)) => some (ag, rows)
 | _ => none
def tupX : V -> Option (Bool × List C)
 | .agg cs => some (true, cs)
 | .one c => some (false, [c])
 | _ => none
theorem zx8 {σ : St} {g : Gh} {w : World} {x : V} {y : Bool × List C} {v : Value} (h : tupX x = some y) (hv : VR σ g w x v) : CRx σ g w y v := by
 cases x with
 | agg cs => obtain rfl := Option.some.inj h; obtain ⟨a, h1, h2⟩ := hv; exact ⟨a, h1, h2⟩
 | one c => obtain rfl := Option.some.inj h; exact ⟨c, rfl, hv⟩
 | tup _ => cases h
theorem qbm {σ : St} {g : Gh} {w : World} {x : V} {ag : Bool} {rows : List (List T)} {v : Value} (h : mpOf x = some (ag, rows)) (hv : VR σ g w x v) : zak w (Fix σ g w) (.mp ag rows) v := by
 unfold mpOf at h
 split at h
 ·cases h; exact hv
 ·cases h; exact zak.keep (fun _ _ => rfl) (fun b hb => hb.1) _ _ hv
 ·cases h
def lk2Z (P : Program) (et : TypeId) : Option V := ((P.info? et).bind (·.zero)).bind fun z => (tupX (ofV P et z)).map fun y => .tup [y, (false, [.t (.bool false)])]
def lk2 (P : Program) (σ : St) (mt : TypeId) (x ix : Operand) : Option V := match mpOf (σ.get P 0 x), σ.get P 0 ix, mapT P mt with
 | some (ag, rows), .one (.t k), some (d, et) => if zxv d k = true then (zdd k rows).bind fun r => match r with
  | some vs => (rowV ag vs).bind fun v => (tupX v).map fun y => .tup [y, (false, [.t (.bool true)])]
  | none => lk2Z P et
  else none
 | _, _, _ => none
theorem zqg {o : Oper} {σ : St} {mt : TypeId} {x ix : Operand} {v : V} (ho : o.op = .lookup mt x ix true) (h : lk2 P σ mt x ix = some v) : zae P o σ (σ.put o.dst v) :=
 zae.value fun n0 N g a w hR => by
  unfold lk2 at h
  split at h
  ·rename_i ag rows k d et hm hi ht
   split at h
   ·rename_i hk
    obtain ⟨r, hf, h⟩ := Option.bind_eq_some_iff.1 h
    obtain ⟨kt, t1, t2⟩ := zyi ht
    have h1 := qbm hm (hR.get P 0 x)
    have h2 := hR.get P 0 ix
    rw [hi] at h2
    have h2 : zak w (Fix σ g w) k (a.eval ix) := h2
    unfold zak at h1
    obtain ⟨b, es, clk, e1, hA, hb, he⟩ := h1
    cases r with
    | some vs =>
     obtain ⟨y, hv, h⟩ := Option.bind_eq_some_iff.1 h
     obtain ⟨z, hz, rfl⟩ := Option.map_eq_some_iff.1 h
     obtain ⟨j, u, us, f1, f2, f3⟩ := zee hk h2 ag rows es.toList 0 (some vs) he hf
     have hvr : VR σ g w y u := by
      unfold rowV at hv
      by_cases hag : ag = true
      ·rw [if_pos hag] at hv f2
       cases hv
       exact ⟨us, f2, qdz f3⟩
      ·rw [if_neg hag] at hv f2
       subst f2
       rcases vs with _ | ⟨t, _ | ⟨t', vs⟩⟩
       ·cases hv
       ·cases hv
        unfold zad at f3
        obtain ⟨v', vs', e, h3, _⟩ := f3
        cases e
        exact h3
       ·cases hv
     refine ⟨.tuple #[u, .bool true], ?_, [u, .bool true], rfl, u, [.bool true], rfl, zx8 hz hvr, .bool true, [], rfl, ⟨.t (.bool true), rfl, rfl⟩, rfl⟩
     unfold execOp
     simp only [ho]
     simp [Instr.lookup, run_underlying t1, e1, Go.MapKept.run_getObj_map hb, Go.MapKept.run_checkKey t2 (zlm hk h2), Go.MapKept.run_findKey t2 f1, Result.andThen]
    | none =>
     obtain ⟨zv, hz0, h⟩ := Option.bind_eq_some_iff.1 h
     obtain ⟨y, hy, rfl⟩ := Option.map_eq_some_iff.1 h
     obtain ⟨i, hi1, hi2⟩ := Option.bind_eq_some_iff.1 hz0
     have f1 := zee hk h2 ag rows es.toList 0 none he hf
     have hvr : VR σ g w (ofV P et zv) zv := qer P σ g w et zv
     refine ⟨.tuple #[zv, .bool false], ?_, [zv, .bool false], rfl, zv, [.bool false], rfl, zx8 hy hvr, .bool false, [], rfl, ⟨.t (.bool false), rfl, rfl⟩, rfl⟩
     unfold execOp
     simp only [ho]
     simp [Instr.lookup, run_underlying t1, e1, Go.MapKept.run_getObj_map hb, Go.MapKept.run_checkKey t2 (zlm hk h2), Go.MapKept.run_findKey t2 f1, Result.andThen, zeroValue, typeInfo, hi1, hi2]
   ·cases h
  ·cases h
section
variable {ks : List Fr} {Q : Exit -> St -> Prop} {σ : St} {ops : Array Oper} {os : List Oper} {L : List (List Ky × List Ky)} {ty : TypeId} {ps : String} {af : Array Edge} {dst : Option Nat} {mt : TypeId} {x ix : Operand} {v : V}
theorem zvo (h : lk2 P σ mt x ix = some v) (k : exo P ops os ks Q (σ.put dst v)) : exo P ops (⟨dst, .lookup mt x ix true, ty, ps, af, none⟩ :: os) ks Q σ := zct rfl rfl (zqg rfl h) k
end
attribute [go_sem] mpOf tupX lk2 onM updM mvC mvCs mvV Option.bind_some Option.map_some
end Go.Proofs.YtemnhgmgeijkcaaGreat
namespace Go.Proofs.YtemnhgmgeijkcaaGreat
set_option linter.unusedSimpArgs false
set_option linter.unusedVariables false
set_option linter.unusedSectionVars false
set_option maxRecDepth 4000
open Go.RowKit
def mpS (ps : List (Str × Tm)) : T := .mp true (ps.map bnC)
theorem zg5 (s : Str) : ∀ ps : List (Str × Tm), zdd (.str s) (ps.map bnC) = some ((ps.find? fun p => p.1 == s).map fun p => tmC p.2)
 | [] => rfl
 | p :: ps => by
  have ih := zg5 s ps
  show zdd (.str s) ((.str p.1 :: tmC p.2) :: ps.map bnC) = _
  unfold zdd
  rw [show zyg (.str s) (.str p.1) = some (decide (s = p.1)) from rfl, List.find?_cons]
  by_cases h : s = p.1
  ·subst h; simp
  ·have h2 : (p.1 == s) = false := by simpa using fun e => h e.symm
   rw [decide_eq_false h, h2]
   exact ih
def rvT (ps : List (Str × Tm)) : Tm -> Tm := Tm.fold fun m _ rs => if rs.length = 0 then (match ps.find? fun p => p.1 == m with | some p => p.2 | none => .mk m []) else .mk m rs
theorem zq9 (ps : List (Str × Tm)) (a : Tm) : rvT ps a = if a.args.length = 0 then (match ps.find? fun p => p.1 == a.name with | some p => p.2 | none => .mk a.name []) else .mk a.name (a.args.map (rvT ps)) := by
 unfold rvT
 rw [Tm.fold_eq]
 simp only [List.length_map]
theorem qhy : lk2Z Tryz.prog 33 = some (.tup [(true, [.t (.str []), .nl 2]), (false, [.t (.bool false)])]) := by kernel_rfl
theorem zjh (ps : List (Str × Tm)) (hp : ∀ p ∈ ps, p.2.wt <= 1048576) (a : Tm) (ha : a.args.length <= 1048576) (H : ∀ x ∈ a.args, FC Tryz.prog 126 [tmD x, .one (mpS ps)] [tmD (rvT ps x)]) : FC Tryz.prog 126 [tmD a, .one (mpS ps)] [tmD (rvT ps a)] := by
 have hv := zq9 ps a
 have hf := zg5 a.name ps
 have hpw : ∀ p, (ps.find? fun p => p.1 == a.name) = some p -> p.2.wt <= 1048576 := fun p h => hp p (List.mem_of_find?_eq_some h)
 have hz := qhy
 unfold mpS at H ⊢
 generalize ps.map bnC = R at H hf ⊢
 generalize (ps.find? fun p => p.1 == a.name) = r at hf hv hpw
 have e1 : tmD (.mk a.name (a.args.map (rvT ps))) = .agg [.str a.name, .sl 2 (a.args.map fun x => tmC (rvT ps x))] := by unfold tmD; rw [zaa]; simp only [Tm.name, Tm.args, List.map_map, Function.comp_def]
 cases r with
 | none =>
  rw [show (none : Option (Str × Tm)).map (fun p => tmC p.2) = none from rfl] at hf
  have hv : rvT ps a = .mk a.name (a.args.map (rvT ps)) := by
   rw [hv]
   split
   ·rename_i h0
    rw [List.length_eq_zero_iff.1 h0]; rfl
   ·rfl
  rw [hv, e1]
  simp only [tmD, zaa a] at H ⊢
  refine zam Tryz.call126 Tryz.func126 rfl (by kernel_rfl) (za1 (by kernel_rfl)) ?_
  simp -implicitDefEqProofs only [go_sem, Tryz.results126]
  refine zvo (by simp -implicitDefEqProofs only [go_sem, hf, hz, Tryz.underlying105, Tryz.underlying9]; rfl) ?_
  simp -implicitDefEqProofs only [go_sem]
  refine zaf (fun k : Nat => hd [(1, vT (.mp true R)), (4, .one (.bx 4 0)), (7, .one (.bx 7 0)), (30, vT (tmS a.args)), (31, vI a.args.length), (32, vI k)] [(4, [.t (.str []), .nl 2]), (7, [.t (.str a.name), .ow 3000 0])] [(3000, ⟨true, 2, (a.args.take k).map fun x => tmC (rvT ps x), 0, true⟩)]) (fun k => k <= a.args.length) (fun k => a.args.length - k) 0 (zac ?_) (Nat.zero_le _) ?_
  ·simp -implicitDefEqProofs only [go_sem]
  ·intro k hk
   by_cases hlt : k < a.args.length
   ·have hmin : min k a.args.length <= 4294967295 := by omega
    have HC := H a.args[k] (List.getElem_mem hlt)
    simp only [tmD, zaa a.args[k], zaa (rvT ps a.args[k])] at HC
    simp -implicitDefEqProofs only [go_sem, zai, hlt, zaa a.args[k]]
    refine drawn (by kernel_rfl) ?_
    simp -implicitDefEqProofs only [go_sem]
    refine za6 (HC) (by simp -implicitDefEqProofs only [go_sem]) ?_
    simp -implicitDefEqProofs only [go_sem]
    refine zbo (by simp -implicitDefEqProofs only [go_sem]) ?_
    simp -implicitDefEqProofs only [go_sem]
    refine zmv true (by simp -implicitDefEqProofs only [go_sem, ne_eq, List.length_map, List.length_take, hmin]) ?_
    simp -implicitDefEqProofs only [go_sem, ne_eq, List.length_map, List.length_take, hmin]
    refine ⟨by kernel_rfl, k + 1, hlt, by omega, zac ?_⟩
    simp -implicitDefEqProofs only [go_sem]
    rw [zao (by omega), List.take_succ_eq_append_getElem hlt, List.map_append, List.map_singleton, zaa (rvT ps a.args[k])]
    trivial
   ·have ht : a.args.take k = a.args := List.take_of_length_le (by omega)
    simp -implicitDefEqProofs only [go_sem, hlt, ht]
 | some p =>
  have HC := zjx p.2 (hpw p rfl)
  rw [show (some p).map (fun p => tmC p.2) = some (tmC p.2) from rfl] at hf
  simp only [tmD, zaa p.2] at HC hf
  by_cases h0 : a.args.length = 0
  ·rw [if_pos h0] at hv
   rw [hv]
   have e0 : ((a.args.length : Int) == 0) = true := by simp [h0]
   simp only [tmD, zaa a, zaa p.2]
   refine zam Tryz.call126 Tryz.func126 rfl (by kernel_rfl) (za1 (by kernel_rfl)) ?_
   simp -implicitDefEqProofs only [go_sem, Tryz.results126]
   refine zvo (by simp -implicitDefEqProofs only [go_sem, hf, hz, Tryz.underlying105, Tryz.underlying9]; rfl) ?_
   simp -implicitDefEqProofs only [go_sem, e0]
   refine callF (HC) (by simp -implicitDefEqProofs only [go_sem]) ?_
   simp -implicitDefEqProofs only [go_sem]
  ·rw [if_neg h0] at hv
   have e0 : ((a.args.length : Int) == 0) = false := by simp [h0]
   rw [hv, e1]
   simp only [tmD, zaa a] at H ⊢
   refine zam Tryz.call126 Tryz.func126 rfl (by kernel_rfl) (za1 (by kernel_rfl)) ?_
   simp -implicitDefEqProofs only [go_sem, Tryz.results126]
   refine zvo (by simp -implicitDefEqProofs only [go_sem, hf, hz, Tryz.underlying105, Tryz.underlying9]; rfl) ?_
   simp -implicitDefEqProofs only [go_sem, e0]
   refine zaf (fun k : Nat => hd [(1, vT (.mp true R)), (4, .one (.bx 4 0)), (7, .one (.bx 7 0)), (30, vT (tmS a.args)), (31, vI a.args.length), (32, vI k)] [(4, [.t (.str []), .nl 2]), (7, [.t (.str a.name), .ow 3000 0])] [(3000, ⟨true, 2, (a.args.take k).map fun x => tmC (rvT ps x), 0, true⟩)]) (fun k => k <= a.args.length) (fun k => a.args.length - k) 0 (zac ?_) (Nat.zero_le _) ?_
   ·simp -implicitDefEqProofs only [go_sem]
   ·intro k hk
    by_cases hlt : k < a.args.length
    ·have hmin : min k a.args.length <= 4294967295 := by omega
     have HC := H a.args[k] (List.getElem_mem hlt)
     simp only [tmD, zaa a.args[k], zaa (rvT ps a.args[k])] at HC
     simp -implicitDefEqProofs only [go_sem, zai, hlt, zaa a.args[k]]
     refine drawn (by kernel_rfl) ?_
     simp -implicitDefEqProofs only [go_sem]
     refine za6 (HC) (by simp -implicitDefEqProofs only [go_sem]) ?_
     simp -implicitDefEqProofs only [go_sem]
     refine zbo (by simp -implicitDefEqProofs only [go_sem]) ?_
     simp -implicitDefEqProofs only [go_sem]
     refine zmv true (by simp -implicitDefEqProofs only [go_sem, ne_eq, List.length_map, List.length_take, hmin]) ?_
     simp -implicitDefEqProofs only [go_sem, ne_eq, List.length_map, List.length_take, hmin]
     refine ⟨by kernel_rfl, k + 1, hlt, by omega, zac ?_⟩
     simp -implicitDefEqProofs only [go_sem]
     rw [zao (by omega), List.take_succ_eq_append_getElem hlt, List.map_append, List.map_singleton, zaa (rvT ps a.args[k])]
     trivial
    ·have ht : a.args.take k = a.args := List.take_of_length_le (by omega)
     simp -implicitDefEqProofs only [go_sem, hlt, ht]
theorem zks (ps : List (Str × Tm)) (hp : ∀ p ∈ ps, p.2.wt <= 1048576) : ∀ a : Tm, a.wt <= 1048576 -> FC Tryz.prog 126 [tmD a, .one (mpS ps)] [tmD (rvT ps a)] :=
 zbd fun m xs ih hs => by
  obtain ⟨h1, h2⟩ := Tm.wt_args hs
  exact zjh ps hp (.mk m xs) h1 fun x hx => ih x hx (h2 x hx)
def inF (ps : List (Str × Tm)) : Fm -> Fm := Fm.fold fun o a v _ rs => if (o == 3) = true then .mk 3 (rvT ps a) [] [] else .mk o a v rs
theorem qec (ps : List (Str × Tm)) (f : Fm) : inF ps f = if (f.op == 3) = true then .mk 3 (rvT ps f.atom) [] [] else .mk f.op f.atom f.var (f.parts.map (inF ps)) := Fm.fold_eq _ f
theorem qbk (a : Tm) : GC Tryz.prog 125 [(true, tmD a)] [fmD (.mk 3 a [] [])] := by
 simp only [tmD, zaa a, fmD, zeq]
 refine zmx Tryz.call125 Tryz.func125 rfl (by kernel_rfl) (by simp only [List.length_cons, List.length_nil, Tryz.ntmps125]; omega) (by simp [zby, T.isPin]) ?_
 simp -implicitDefEqProofs only [go_sem, Tryz.results125]
theorem zok (a : Fm) (g : FuncId) (R : List (List T)) (φ : Fm -> Fm) (H : ∀ x ∈ a.parts, FC Tryz.prog g [fmD x, .one (.ptr [.mp true R])] [fmD (φ x)]) (h0 : a.atom.wt <= 1048576) (hs : a.parts.length <= 1048576) : FC Tryz.prog 127 [fmD a, .one (.fn g [.ptr [.mp true R]])] [fmD (.mk a.op a.atom a.var (a.parts.map φ))] := by
 simp only [fmD, zab a, zeq]
 refine zam Tryz.call127 Tryz.func127 rfl (by kernel_rfl) (za1 (by kernel_rfl)) ?_
 simp -implicitDefEqProofs only [go_sem, Tryz.results127]
 refine drawn (by kernel_rfl) ?_
 simp -implicitDefEqProofs only [go_sem]
 refine za6 (zjx a.atom h0) (by simp -implicitDefEqProofs only [go_sem, zaa]) ?_
 simp -implicitDefEqProofs only [go_sem, zaa]
 refine ⟨by kernel_rfl, ?_⟩
 refine zaf (fun k : Nat => hd [(1, .one (.t (.fn g [.ptr [.mp true R]]))), (4, .one (.bx 4 0)), (5, .one (.bx 5 0)), (17, vT (fmS a.parts)), (18, vI a.parts.length), (19, vI k)] [(4, [.t (.int .i64 0), .t (.str []), .nl 2, .t (.str []), .nl 5]), (5, [.t (.int .i64 a.op), .t (.str a.atom.name), .ow 385 0, .t (.str a.var), .ow 3000 0])]
  [(385, ⟨true, 2, a.atom.args.map tmC, 0, true⟩), (3000, ⟨true, 5, (a.parts.take k).map fun x => fmC (φ x), 0, true⟩)]) (fun k => k <= a.parts.length) (fun k => a.parts.length - k) 0 (zac ?_) ?_ ?_
 ·simp -implicitDefEqProofs only [go_sem]
 ·simp
 ·intro k hk
  by_cases hlt : k < a.parts.length
  ·have hmin : min k a.parts.length <= 4294967295 := by omega
   simp -implicitDefEqProofs only [go_sem, zai, hlt, zab a.parts[k]]
   refine drawn (by kernel_rfl) ?_
   simp -implicitDefEqProofs only [go_sem]
   refine za6 (H a.parts[k] (List.getElem_mem hlt)) (by simp -implicitDefEqProofs only [go_sem, zab]) ?_
   simp -implicitDefEqProofs only [go_sem, zab]
   refine zbo (by simp -implicitDefEqProofs only [go_sem]) ?_
   simp -implicitDefEqProofs only [go_sem]
   refine zmv true (by simp -implicitDefEqProofs only [go_sem, ne_eq, List.length_map, List.length_take, hmin]) ?_
   simp -implicitDefEqProofs only [go_sem, ne_eq, List.length_map, List.length_take, hmin]
   refine ⟨by kernel_rfl, k + 1, hlt, by omega, zac ?_⟩
   simp -implicitDefEqProofs only [go_sem]
   rw [zao (by omega), List.take_succ_eq_append_getElem hlt, List.map_append, List.map_singleton]
   simp only [zab]
   trivial
  ·have ht : a.parts.take k = a.parts := List.take_of_length_le (by omega)
   simp -implicitDefEqProofs only [go_sem, hlt, ht]
   rfl
theorem zmt (ps : List (Str × Tm)) (f : Fm) (H : FC Tryz.prog 69 [fmD f, .one (mpS ps)] [fmD (inF ps f)]) : FC Tryz.prog 128 [fmD f, .one (.ptr [mpS ps])] [fmD (inF ps f)] := by
 unfold mpS at H ⊢
 generalize ps.map bnC = R at H ⊢
 generalize inF ps f = r at H ⊢
 simp only [fmD, zab f, zab r] at H ⊢
 refine zam Tryz.call128 Tryz.func128 rfl (by kernel_rfl) (za1 (by kernel_rfl)) ?_
 simp -implicitDefEqProofs only [go_sem, Tryz.results128]
 refine callF (H) (by simp -implicitDefEqProofs only [go_sem]) ?_
 simp -implicitDefEqProofs only [go_sem]
theorem zph (ps : List (Str × Tm)) (hp : ∀ p ∈ ps, p.2.wt <= 1048576) (f : Fm) (hw : f.wt <= 1048576) (H : ∀ x ∈ f.parts, FC Tryz.prog 69 [fmD x, .one (mpS ps)] [fmD (inF ps x)]) : FC Tryz.prog 69 [fmD f, .one (mpS ps)] [fmD (inF ps f)] := by
 obtain ⟨w1, w2, w3⟩ := Fm.wt_parts hw
 have hv := qec ps f
 have HM := zok f 128 (ps.map bnC) (inF ps) (fun x hx => zmt ps x (H x hx)) w1 w2
 have HR := zks ps hp f.atom w1
 have HA := qbk (rvT ps f.atom)
 rw [hv]
 unfold mpS at HR ⊢
 generalize ps.map bnC = R at HM HR ⊢
 cases h3 : f.op == 3
 ·rw [if_neg (by simp)]
  simp only [fmD, zab f, zeq] at HM ⊢
  refine zam Tryz.call69 Tryz.func69 rfl (by kernel_rfl) (za1 (by kernel_rfl)) ?_
  simp -implicitDefEqProofs only [go_sem, Tryz.results69, h3]
  refine callF (HM) (by simp -implicitDefEqProofs only [go_sem]) ?_
  simp -implicitDefEqProofs only [go_sem]
 ·rw [if_pos rfl]
  generalize rvT ps f.atom = r at HR HA ⊢
  simp only [fmD, zab f, zeq, tmD, zaa f.atom, zaa r] at HR HA ⊢
  refine zc3 Tryz.call69 Tryz.func69 rfl (by kernel_rfl) (za1 (by kernel_rfl)) ?_
  simp -implicitDefEqProofs only [go_sem, Tryz.results69, h3]
  refine callF (HR) (by simp -implicitDefEqProofs only [go_sem]) ?_
  simp -implicitDefEqProofs only [go_sem]
  refine zcj [4] [11] [] (HA) (by simp -implicitDefEqProofs only [go_sem]) (by simp -implicitDefEqProofs only [go_sem]) (by simp -implicitDefEqProofs only [go_sem]) (by simp -implicitDefEqProofs only [go_sem]) ?_
  simp -implicitDefEqProofs only [go_sem]
theorem zt6 (ps : List (Str × Tm)) (hp : ∀ p ∈ ps, p.2.wt <= 1048576) : ∀ f : Fm, f.wt <= 1048576 -> FC Tryz.prog 69 [fmD f, .one (mpS ps)] [fmD (inF ps f)] :=
 zba fun o a v xs ih hs => zph ps hp (.mk o a v xs) hs fun x hx => ih x hx (Nat.le_trans (zb7 (a := .mk o a v xs) hx) hs)
end Go.Proofs.YtemnhgmgeijkcaaGreat
namespace Go.Proofs.YtemnhgmgeijkcaaGreat
set_option linter.unusedSimpArgs false
set_option linter.unusedVariables false
set_option linter.unusedSectionVars false
set_option maxRecDepth 4000
open Go.RowKit
def lkP (ps : List (Str × Tm)) (m : Str) : Tm := match ps.find? fun p => p.1 == m with | some p => p.2 | none => .mk m []
theorem zsp (n : Str) (t : Tm) (ps : List (Str × Tm)) (m : Str) : lkP ((n, t) :: ps) m = if (n == m) = true then t else lkP ps m := by
 unfold lkP
 rw [List.find?_cons]
 cases hn : n == m
 ·simp only [hn, Bool.false_eq_true, if_false]
 ·simp only [hn, if_true]
theorem qga (ps : List (Str × Tm)) (m : Str) : (∃ p ∈ ps, lkP ps m = p.2) \/ lkP ps m = .mk m [] := by
 unfold lkP
 split
 ·rename_i p h
  exact Or.inl ⟨p, List.mem_of_find?_eq_some h, rfl⟩
 ·exact Or.inr rfl
theorem zif (l : List (Str × Tm)) {m : Str} (h : za2 m = true) (xs : List Tm) : zb8 l (.mk m xs) = lkP l m := by rw [zfy]; exact if_pos h
theorem zgj (l : List (Str × Tm)) {m : Str} (h : ¬ za2 m = true) (xs : List Tm) : zb8 l (.mk m xs) = .mk m (xs.map (zb8 l)) := by rw [zfy]; exact if_neg h
theorem rvT_v (l : List (Str × Tm)) (m : Str) : rvT l (.mk m []) = lkP l m := by rw [zq9]; exact if_pos rfl
theorem rvT_n (l : List (Str × Tm)) (m : Str) {xs : List Tm} (h : xs ≠ []) : rvT l (.mk m xs) = .mk m (xs.map (rvT l)) := by rw [zq9]; exact if_neg fun e => h (List.length_eq_zero_iff.1 e)
theorem ziw {m : Str} (h : za2 m = true) (xs : List Tm) : (Tm.mk m xs).names = decide (xs.length = 0) := by rw [Tm.names_eq]; exact if_pos h
theorem zg3 {m : Str} (h : ¬ za2 m = true) (xs : List Tm) : (Tm.mk m xs).names = (zcg m && decide (xs.length <= 4) && xs.all Tm.names) := by rw [Tm.names_eq]; exact if_neg h
theorem zox (l : List (Str × Tm)) : ∀ t : Tm, voS t = [] -> zb8 l t = t := zbd fun m xs ih h => by
 have hv : voS (.mk m xs) = if za2 m = true then [m] else (xs.map voS).flatten := zij _
 rw [hv] at h
 by_cases hm : za2 m = true
 ·rw [if_pos hm] at h; cases h
 ·rw [if_neg hm] at h
  rw [zgj l hm]
  congr 1
  conv => rhs; rw [<- List.map_id xs]
  refine List.map_congr_left fun x hx => ih x hx ?_
  exact List.flatten_eq_nil_iff.1 h _ (List.mem_map_of_mem hx)
theorem zn2 (n : Str) (t : Tm) (ht : voS t = []) (ps : List (Str × Tm)) : ∀ a : Tm, zb8 ps (zb8 [(n, t)] a) = zb8 ((n, t) :: ps) a := zbd fun m xs ih => by
 by_cases hm : za2 m = true
 ·rw [zif _ hm, zif _ hm, zsp, zsp]
  cases hn : n == m
  ·show zb8 ps (.mk m []) = lkP ps m
   exact zif _ hm []
  ·exact zox ps t ht
 ·rw [zgj _ hm, zgj _ hm, zgj _ hm, List.map_map]
  congr 1
  exact List.map_congr_left fun x hx => ih x hx
theorem zwc (ps : List (Str × Tm)) (hp : ∀ p ∈ ps, za2 p.1 = true) : ∀ a : Tm, a.names = true -> rvT ps a = zb8 ps a := zbd fun m xs ih h => by
 by_cases hm : za2 m = true
 ·rw [ziw hm] at h
  have hx : xs = [] := List.length_eq_zero_iff.1 (of_decide_eq_true h)
  subst hx
  rw [rvT_v, zif _ hm]
 ·rw [zg3 hm] at h
  simp only [Bool.and_eq_true] at h
  rw [zgj _ hm]
  by_cases hx : xs = []
  ·subst hx
   rw [rvT_v]
   unfold lkP
   have hf : (ps.find? fun p => p.1 == m) = none := by
    rw [List.find?_eq_none]
    intro p hpm e
    have := hp p hpm
    rw [beq_iff_eq.1 e] at this
    exact hm this
   rw [hf]; rfl
  ·rw [rvT_n _ _ hx]
   congr 1
   exact List.map_congr_left fun x hx => ih x hx (List.all_eq_true.1 h.2 x hx)
def nmA (a : Tm) : Bool := if (a.name == [61]) = true then decide (a.args.length = 2) && a.args.all Tm.names else zcg a.name && a.names
theorem ze4 (a : Tm) : a.atomOk = (nmA a && zck a) := by
 unfold Tm.atomOk nmA Tm.good
 split
 ·rw [Bool.and_assoc, Bool.and_comm (zck a), Bool.and_assoc]
 ·rw [Bool.and_comm (zck a), Bool.and_assoc]
theorem zmi {a : Tm} (h : nmA a = true) : za2 a.name = false /\ a.args.all Tm.names = true := by
 unfold nmA at h
 split at h
 ·rename_i he
  have he : a.name = [61] := by simpa using he
  rw [Bool.and_eq_true] at h
  rw [he]
  exact ⟨by decide, h.2⟩
 ·rw [Bool.and_eq_true] at h
  have hv := ztd h.1
  have h2 := h.2
  rw [Tm.names_eq, hv, if_neg (by simp)] at h2
  simp only [Bool.and_eq_true] at h2
  exact ⟨hv, h2.2⟩
theorem zvf (ps : List (Str × Tm)) (hp : ∀ p ∈ ps, za2 p.1 = true) {a : Tm} (h : nmA a = true) : rvT ps a = zb8 ps a := by
 by_cases he : (a.name == [61]) = true
 ·have h2 := h
  unfold nmA at h2
  rw [if_pos he] at h2
  simp only [Bool.and_eq_true, decide_eq_true_eq] at h2
  obtain ⟨h3, h4⟩ := zmi h
  rw [zq9, zfy, if_neg (by omega), h3, if_neg (by simp)]
  congr 1
  exact List.map_congr_left fun x hx => zwc ps hp x (List.all_eq_true.1 h4 x hx)
 ·unfold nmA at h
  rw [if_neg he, Bool.and_eq_true] at h
  exact zwc ps hp a h.2
theorem zjw (ps : List (Str × Tm)) (hp : ∀ p ∈ ps, p.2.names = true) : ∀ a : Tm, a.names = true -> (zb8 ps a).names = true := zbd fun m xs ih h => by
 by_cases hm : za2 m = true
 ·rw [zif _ hm]
  rcases qga ps m with ⟨p, h1, h2⟩ | h2
  ·rw [h2]; exact hp p h1
  ·rw [h2, ziw hm]; rfl
 ·rw [zg3 hm] at h
  simp only [Bool.and_eq_true] at h
  rw [zgj _ hm, zg3 hm, List.length_map, List.all_map]
  simp only [Bool.and_eq_true]
  exact ⟨h.1, List.all_eq_true.2 fun x hx => ih x hx (List.all_eq_true.1 h.2 x hx)⟩
theorem qa0 (ps : List (Str × Tm)) (hp : ∀ p ∈ ps, p.2.names = true) {a : Tm} (h : nmA a = true) : nmA (zb8 ps a) = true := by
 obtain ⟨h3, h4⟩ := zmi h
 have e : zb8 ps a = .mk a.name (a.args.map (zb8 ps)) := by rw [zfy, h3, if_neg (by simp)]
 have hall : (a.args.map (zb8 ps)).all Tm.names = true := by
  rw [List.all_map]
  exact List.all_eq_true.2 fun x hx => zjw ps hp x (List.all_eq_true.1 h4 x hx)
 rw [e]
 unfold nmA at h ⊢
 show (if (a.name == [61]) = true then decide ((a.args.map (zb8 ps)).length = 2) && (a.args.map (zb8 ps)).all Tm.names else zcg a.name && (Tm.mk a.name (a.args.map (zb8 ps))).names) = true
 by_cases he : (a.name == [61]) = true
 ·rw [if_pos he] at h ⊢
  rw [Bool.and_eq_true] at h ⊢
  rw [List.length_map]
  exact ⟨h.1, hall⟩
 ·rw [if_neg he] at h ⊢
  rw [Bool.and_eq_true] at h ⊢
  have := zjw ps hp a h.2
  rw [e] at this
  exact ⟨h.1, this⟩
theorem zel {α : Type} (f g : α -> Nat) : ∀ (xs : List α) (i j : Nat), i <= j -> (∀ x ∈ xs, f x <= g x) -> (xs.map f).foldl max i <= (xs.map g).foldl max j
 | [], _, _, h, _ => h
 | x :: xs, i, j, h, H => by
  rw [List.map_cons, List.map_cons, List.foldl_cons, List.foldl_cons]
  have := H x (by simp)
  exact zel f g xs _ _ (by omega) fun y hy => H y (by simp [hy])
theorem zjq {α : Type} (f g : α -> Nat) : ∀ (xs : List α), (∀ x ∈ xs, f x <= g x) -> (xs.map f).sum <= (xs.map g).sum
 | [], _ => Nat.le_refl _
 | x :: xs, H => by
  have := H x (by simp)
  have := zjq f g xs fun y hy => H y (by simp [hy])
  rw [List.map_cons, List.map_cons, List.sum_cons, List.sum_cons]; omega
theorem zr7 (ps : List (Str × Tm)) : ∀ a : Tm, a.names = true -> a.nodes <= (zb8 ps a).nodes /\ a.depth <= (zb8 ps a).depth := zbd fun m xs ih h => by
 have hn : (Tm.mk m xs).nodes = 1 + (xs.map Tm.nodes).sum := Tm.nodes_eq _
 have hd : (Tm.mk m xs).depth = (xs.map Tm.depth).foldl max 0 + 1 := Tm.depth_eq _
 by_cases hm : za2 m = true
 ·rw [ziw hm] at h
  have hx : xs = [] := List.length_eq_zero_iff.1 (of_decide_eq_true h)
  subst hx
  rw [zif _ hm, hn, hd]
  have h1 := (lkP ps m).nodes_eq
  have h2 := (lkP ps m).depth_eq
  simp only [List.map_nil, List.sum_nil, List.foldl_nil]
  omega
 ·rw [zg3 hm] at h
  simp only [Bool.and_eq_true] at h
  rw [zgj _ hm, hn, hd]
  have hn2 : (Tm.mk m (xs.map (zb8 ps))).nodes = 1 + ((xs.map (zb8 ps)).map Tm.nodes).sum := Tm.nodes_eq _
  have hd2 : (Tm.mk m (xs.map (zb8 ps))).depth = ((xs.map (zb8 ps)).map Tm.depth).foldl max 0 + 1 := Tm.depth_eq _
  rw [hn2, hd2, List.map_map, List.map_map]
  have h1 := zjq Tm.nodes (Tm.nodes ∘ zb8 ps) xs fun x hx => (ih x hx (List.all_eq_true.1 h.2 x hx)).1
  have h2 := zel Tm.depth (Tm.depth ∘ zb8 ps) xs 0 0 (Nat.le_refl _) fun x hx => (ih x hx (List.all_eq_true.1 h.2 x hx)).2
  omega
theorem ztq (ps : List (Str × Tm)) {a : Tm} (h : nmA a = true) (hs : zck (zb8 ps a) = true) : zck a = true := by
 obtain ⟨h3, h4⟩ := zmi h
 have e : zb8 ps a = .mk a.name (a.args.map (zb8 ps)) := by rw [zfy, h3, if_neg (by simp)]
 rw [e] at hs
 unfold zck at hs ⊢
 simp only [Bool.and_eq_true, decide_eq_true_eq] at hs ⊢
 rw [Tm.nodes_eq, Tm.depth_eq] at hs
 rw [Tm.nodes_eq, Tm.depth_eq]
 have hs : 1 + ((a.args.map (zb8 ps)).map Tm.nodes).sum <= 30 /\ ((a.args.map (zb8 ps)).map Tm.depth).foldl max 0 + 1 <= 8 := hs
 rw [List.map_map, List.map_map] at hs
 have h1 := zjq Tm.nodes (Tm.nodes ∘ zb8 ps) a.args fun x hx => (zr7 ps x (List.all_eq_true.1 h4 x hx)).1
 have h2 := zel Tm.depth (Tm.depth ∘ zb8 ps) a.args 0 0 (Nat.le_refl _) fun x hx => (zr7 ps x (List.all_eq_true.1 h4 x hx)).2
 omega
theorem zsg {α : Type} (f : α -> Nat) : ∀ xs : List α, (xs.map fun x => 8 * f x).sum = 8 * (xs.map f).sum
 | [] => rfl
 | x :: xs => by rw [List.map_cons, List.sum_cons, zsg f xs, List.map_cons, List.sum_cons]; omega
theorem zpq {α : Type} (w : α -> Nat) : ∀ xs : List α, (xs.map fun x => 1 + w x).sum = xs.length + (xs.map w).sum
 | [] => rfl
 | a :: l => by rw [List.map_cons, List.sum_cons, zpq w l, List.length_cons, List.map_cons, List.sum_cons]; omega
theorem zoa {xs : List Tm} (H : ∀ x ∈ xs, 1 + x.wt <= 8 * x.nodes) : xs.length + (xs.map Tm.wt).sum <= 8 * (xs.map Tm.nodes).sum := by
 rw [<- zpq, <- zsg]
 exact zjq _ _ xs H
theorem zqr : ∀ a : Tm, a.names = true -> 1 + a.wt <= 8 * a.nodes := zbd fun m xs ih h => by
 have hw : (Tm.mk m xs).wt = m.length + xs.length + (xs.map Tm.wt).sum := Tm.wt_eq _
 have hn : (Tm.mk m xs).nodes = 1 + (xs.map Tm.nodes).sum := Tm.nodes_eq _
 rw [hw, hn]
 by_cases hm : za2 m = true
 ·rw [ziw hm] at h
  have hx : xs = [] := List.length_eq_zero_iff.1 (of_decide_eq_true h)
  subst hx
  unfold za2 inB at hm
  simp only [Bool.and_eq_true, decide_eq_true_eq] at hm
  simp only [List.map_nil, List.sum_nil, List.length_nil]
  omega
 ·rw [zg3 hm] at h
  simp only [Bool.and_eq_true] at h
  have h1 : zcg m = true := h.1.1
  unfold zcg inB at h1
  simp only [Bool.and_eq_true, decide_eq_true_eq] at h1
  have h2 := zoa fun x hx => ih x hx (List.all_eq_true.1 h.2 x hx)
  omega
theorem zmh {a : Tm} (h : a.atomOk = true) : a.wt <= 512 := by
 rw [ze4, Bool.and_eq_true] at h
 obtain ⟨h1, h2⟩ := h
 have h4 := (zmi h1).2
 have hl : a.name.length <= 6 := by
  unfold nmA at h1
  split at h1
  ·rename_i he
   rw [beq_iff_eq.1 he]; simp
  ·rw [Bool.and_eq_true] at h1
   have h1 := h1.1
   unfold zcg inB at h1
   simp only [Bool.and_eq_true, decide_eq_true_eq] at h1
   omega
 unfold zck at h2
 simp only [Bool.and_eq_true, decide_eq_true_eq] at h2
 have hn := a.nodes_eq
 have hw := a.wt_eq
 have h5 := zoa fun x hx => zqr x (List.all_eq_true.1 h4 x hx)
 omega
end Go.Proofs.YtemnhgmgeijkcaaGreat
namespace Go.Proofs.YtemnhgmgeijkcaaGreat
set_option linter.unusedSimpArgs false
set_option linter.unusedVariables false
set_option linter.unusedSectionVars false
set_option maxRecDepth 4000
open Go.RowKit
def atF : Fm -> List Tm := Fm.fold fun o a _ _ rs => if (o == 3) = true then [a] else rs.flatten
theorem qea (f : Fm) : atF f = if (f.op == 3) = true then [f.atom] else (f.parts.map atF).flatten := Fm.fold_eq _ f
def evF : Fm -> (Tm -> Bool) -> Bool := Fm.fold fun o a _ _ rs v =>
 if (o == 1) = true then true else if (o == 3) = true then v a else if (o == 4) = true then !((rs.map fun r => r v).getD 0 false)
 else if (o == 5) = true then (rs.map fun r => r v).getD 0 false && (rs.map fun r => r v).getD 1 false
 else if (o == 6) = true then (rs.map fun r => r v).getD 0 false || (rs.map fun r => r v).getD 1 false
 else if (o == 7) = true then !((rs.map fun r => r v).getD 0 false) || (rs.map fun r => r v).getD 1 false else false
def evs (f : Fm) (v : Tm -> Bool) : List Bool := f.parts.map fun p => evF p v
end Go.Proofs.YtemnhgmgeijkcaaGreat
namespace Go.Proofs.YtemnhgmgeijkcaaGreat
set_option linter.unusedSimpArgs false
set_option linter.unusedVariables false
set_option linter.unusedSectionVars false
set_option maxRecDepth 4000
open Go.RowKit
theorem zk3 {α β : Type} (f : α -> List β) (w : α -> Nat) : ∀ (l : List α), (∀ x ∈ l, (f x).length <= w x) -> (l.map f).flatten.length <= (l.map w).sum
 | [], _ => by simp
 | a :: l, h => by
  have h1 := h a (by simp)
  have h2 := zk3 f w l fun x hx => h x (by simp [hx])
  simp only [List.map_cons, List.flatten_cons, List.length_append, List.sum_cons]
  omega
theorem zxx {α : Type} (w : α -> Nat) : ∀ xs : List α, (xs.map fun x => 1 + w x).sum = xs.length + (xs.map w).sum
 | [] => rfl
 | a :: l => by rw [List.map_cons, List.sum_cons, zxx w l, List.length_cons, List.map_cons, List.sum_cons]; omega
theorem qg8 : ∀ a : Tm, (voI a).length <= 1 + a.wt := zbd fun n xs ih => by
 rw [zsb]
 split
 ·simp only [List.length_cons, List.length_nil]; omega
 ·have h1 := zk3 voI (fun x => 1 + x.wt) xs ih
  have h2 := zxx Tm.wt xs
  have h3 := Tm.wt_eq (.mk n xs)
  simp only [Tm.name, Tm.args] at h3 ⊢
  omega
end Go.Proofs.YtemnhgmgeijkcaaGreat
namespace Go.Proofs.YtemnhgmgeijkcaaGreat
set_option linter.unusedSimpArgs false
set_option linter.unusedVariables false
set_option linter.unusedSectionVars false
set_option maxRecDepth 4000
open Go.RowKit
theorem zpc {f : Fm} (hf : f.forms = true) : ∀ p ∈ f.parts, p.forms = true := by
 rw [Fm.forms_eq, Bool.and_eq_true] at hf
 exact List.all_eq_true.1 hf.2
theorem zf0 {f : Fm} (hf : zbh f = true) : ∀ p ∈ f.parts, zbh p = true := by
 rw [zdx, Bool.and_eq_true] at hf
 exact List.all_eq_true.1 hf.2
end Go.Proofs.YtemnhgmgeijkcaaGreat
namespace Go.Proofs.YtemnhgmgeijkcaaGreat
set_option linter.unusedSimpArgs false
set_option linter.unusedVariables false
set_option linter.unusedSectionVars false
set_option maxRecDepth 4000
open Go.RowKit
def pF (ps : List (Str × Tm)) : Fm -> Fm := Fm.fold fun o a v _ rs => if (o == 3) = true then .mk o (zb8 ps a) v [] else .mk o (.mk [] []) v rs
theorem pF_eq (ps : List (Str × Tm)) (f : Fm) : pF ps f = if (f.op == 3) = true then .mk f.op (zb8 ps f.atom) f.var [] else .mk f.op (.mk [] []) f.var (f.parts.map (pF ps)) := Fm.fold_eq _ f
theorem zz2 (ps : List (Str × Tm)) {o : Int} (h : (o == 3) = true) (a : Tm) (v : Str) (xs : List Fm) : pF ps (.mk o a v xs) = .mk o (zb8 ps a) v [] := by rw [pF_eq]; exact if_pos h
theorem zz3 (ps : List (Str × Tm)) {o : Int} (h : (o == 3) = false) (a : Tm) (v : Str) (xs : List Fm) : pF ps (.mk o a v xs) = .mk o (.mk [] []) v (xs.map (pF ps)) := by rw [pF_eq]; exact if_neg (by rw [show (Fm.mk o a v xs).op = o from rfl, h]; simp)
theorem qhe {o : Int} (h : (o == 3) = true) (a : Tm) (v : Str) (xs : List Fm) : atF (.mk o a v xs) = [a] := by rw [qea]; exact if_pos h
theorem qg1 {o : Int} (h : (o == 3) = false) (a : Tm) (v : Str) (xs : List Fm) : atF (.mk o a v xs) = (xs.map atF).flatten := by rw [qea]; exact if_neg (by rw [show (Fm.mk o a v xs).op = o from rfl, h]; simp)
theorem pl_q {f : Fm} (h : zbh f = true) : isQ f.op = false := by
 rw [zdx, Bool.and_eq_true] at h
 unfold isQ
 simpa using h.1
theorem qem (n : Str) (t : Tm) {o : Int} (h : (o == 3) = true) (a : Tm) (v : Str) (xs : List Fm) : zcp n t (.mk o a v xs) = (.mk o (zb8 (bnd n t) a) v [], (zb8 (bnd n t) a).atomOk) := by rw [zo8]; exact if_pos h
theorem qet (n : Str) (t : Tm) {o : Int} (h : (o == 3) = false) (hq : isQ o = false) (a : Tm) (v : Str) (xs : List Fm) : zcp n t (.mk o a v xs) = (.mk o (.mk [] []) v ((xs.takeWhile fun x => (zcp n t x).2).map fun x => (zcp n t x).1), xs.all fun x => (zcp n t x).2) := by
 rw [zo8]
 have e1 : ((Fm.mk o a v xs).op == 3) = false := h
 have e2 : isQ (Fm.mk o a v xs).op = false := hq
 rw [if_neg (by rw [e1]; simp), e2, Bool.false_and, Bool.false_and, if_neg (by simp), if_neg (by simp)]
 rfl
theorem zly {α β : Type} (f : α -> List β) (p : β -> Bool) : ∀ xs : List α, ((xs.map f).flatten).all p = xs.all fun x => (f x).all p
 | [] => rfl
 | x :: xs => by rw [List.map_cons, List.flatten_cons, List.all_append, zly f p xs, List.all_cons]
theorem zg6 {α : Type} {p q : α -> Bool} : ∀ {xs : List α}, (∀ x ∈ xs, p x = q x) -> xs.all p = xs.all q
 | [], _ => rfl
 | x :: xs, h => by rw [List.all_cons, List.all_cons, h x (by simp), zg6 fun y hy => h y (by simp [hy])]
theorem qd5 {α : Type} {p : α -> Bool} : ∀ {xs : List α}, (∀ x ∈ xs, p x = true) -> xs.takeWhile p = xs
 | [], _ => rfl
 | x :: xs, h => by rw [List.takeWhile_cons, h x (by simp), if_pos rfl, qd5 fun y hy => h y (by simp [hy])]
theorem zli (n : Str) (t : Tm) : ∀ f : Fm, zbh f = true -> (zcp n t f).2 = (atF f).all fun a => (zb8 (bnd n t) a).atomOk := zba fun o a v ps ih hp => by
 cases h3 : o == 3
 ·rw [qet n t h3 (pl_q hp), qg1 h3, zly]
  exact zg6 fun x hx => ih x hx (zf0 hp x hx)
 ·rw [qem n t h3, qhe h3]
  simp
theorem zp5 (n : Str) (t : Tm) : ∀ f : Fm, zbh f = true -> (zcp n t f).2 = true -> (zcp n t f).1 = pF (bnd n t) f := zba fun o a v ps ih hp ho => by
 cases h3 : o == 3
 ·rw [qet n t h3 (pl_q hp)] at ho ⊢
  rw [zz3 _ h3]
  show Fm.mk o (.mk [] []) v _ = _
  have ho : ∀ x ∈ ps, (zcp n t x).2 = true := List.all_eq_true.1 ho
  congr 1
  rw [qd5 ho]
  exact List.map_congr_left fun x hx => ih x hx (zf0 hp x hx) (ho x hx)
 ·rw [qem n t h3, zz2 _ h3]
theorem zyh (n : Str) (t : Tm) (ht : voS t = []) (ps : List (Str × Tm)) : ∀ f : Fm, pF ps (pF [(n, t)] f) = pF ((n, t) :: ps) f := zba fun o a v xs ih => by
 cases h3 : o == 3
 ·rw [zz3 _ h3, zz3 _ h3, zz3 _ h3, List.map_map]
  congr 1
  exact List.map_congr_left fun x hx => ih x hx
 ·rw [zz2 _ h3, zz2 _ h3, zz2 _ h3, zn2 n t ht]
theorem ze6 {o : Int} {a : Tm} {v : Str} {xs : List Fm} (h : (Fm.mk o a v xs).forms = true) : (Fm.mk o a v xs).here = true /\ ∀ x ∈ xs, x.forms = true := by
 rw [Fm.forms_eq, Bool.and_eq_true] at h
 exact ⟨h.1, List.all_eq_true.1 h.2⟩
theorem zi8 {o : Int} (h3 : (o == 3) = true) {a : Tm} {v : Str} {xs : List Fm} (h : (Fm.mk o a v xs).here = true) : o = 3 /\ xs = [] /\ v = [] /\ a.atomOk = true := by
 have e : o = 3 := by simpa using h3
 subst e
 rw [zqk] at h
 simp only [show ((3 : Int) == 1 || (3 : Int) == 2) = false from rfl, Bool.false_eq_true, if_false, h3, if_true, Bool.and_eq_true, decide_eq_true_eq, beq_iff_eq] at h
 exact ⟨rfl, List.length_eq_zero_iff.1 h.1.1, h.2, h.1.2⟩
theorem qbz (a : Tm) : (Fm.mk 3 a [] []).here = a.atomOk := by
 rw [zqk]
 simp
theorem zlb (ps : List (Str × Tm)) : ∀ f : Fm, zbh f = true -> zbh (pF ps f) = true := zba fun o a v xs ih hp => by
 have hq := pl_q hp
 unfold isQ at hq
 have hq : (o == 8 || o == 9) = false := hq
 cases h3 : o == 3
 ·rw [zz3 _ h3, zdx]
  show (!(o == 8 || o == 9) && (xs.map (pF ps)).all zbh) = true
  rw [hq, List.all_map]
  exact List.all_eq_true.2 fun x hx => ih x hx (zf0 hp x hx)
 ·rw [zz2 _ h3, zdx]
  show (!(o == 8 || o == 9) && [].all zbh) = true
  rw [hq]; rfl
theorem zh2 (ps : List (Str × Tm)) : ∀ f : Fm, f.forms = true -> (pF ps f).forms = (atF f).all fun a => (zb8 ps a).atomOk := zba fun o a v xs ih hf => by
 obtain ⟨hh, hx⟩ := ze6 hf
 cases h3 : o == 3
 ·have h3' : ((Fm.mk o a v xs).op == 3) = false := h3
  have ha : a = .mk [] [] := zf9 hh h3'
  subst ha
  rw [zz3 _ h3, qg1 h3, zly, zrn, show (Fm.mk o (.mk [] []) v (xs.map (pF ps))).here = true from zzb (f := .mk o (.mk [] []) v xs) hh h3' (by rw [List.length_map]; rfl), Bool.true_and, List.all_map]
  exact zg6 fun x hm => ih x hm (hx x hm)
 ·obtain ⟨rfl, rfl, rfl, h4⟩ := zi8 h3 hh
  rw [zz2 _ h3, qhe h3, zrn, qbz]
  simp
theorem qdj (ps : List (Str × Tm)) : ∀ f : Fm, f.forms = true -> (pF ps f).nodes = f.nodes := zba fun o a v xs ih hf => by
 obtain ⟨hh, hx⟩ := ze6 hf
 cases h3 : o == 3
 ·rw [zz3 _ h3, Fm.nodes_eq, Fm.nodes_eq]
  show 1 + ((xs.map (pF ps)).map Fm.nodes).sum = 1 + (xs.map Fm.nodes).sum
  rw [List.map_map, show xs.map (Fm.nodes ∘ pF ps) = xs.map Fm.nodes from List.map_congr_left fun x hm => ih x hm (hx x hm)]
 ·obtain ⟨rfl, rfl, rfl, h4⟩ := zi8 h3 hh
  rw [zz2 _ h3]; rfl
theorem qbc : ∀ a : Tm, a.names = true -> zb8 [] a = a := zbd fun m xs ih h => by
 by_cases hm : za2 m = true
 ·rw [ziw hm] at h
  have hx : xs = [] := List.length_eq_zero_iff.1 (of_decide_eq_true h)
  subst hx
  rw [zif _ hm]; rfl
 ·rw [zg3 hm] at h
  simp only [Bool.and_eq_true] at h
  rw [zgj _ hm]
  congr 1
  conv => rhs; rw [<- List.map_id xs]
  exact List.map_congr_left fun x hx => ih x hx (List.all_eq_true.1 h.2 x hx)
theorem zth {a : Tm} (h : nmA a = true) : zb8 [] a = a := by
 obtain ⟨h3, h4⟩ := zmi h
 cases a with
 | mk m xs =>
  have h3 : za2 m = false := h3
  have h4 : xs.all Tm.names = true := h4
  rw [zgj _ (by rw [h3]; simp)]
  congr 1
  conv => rhs; rw [<- List.map_id xs]
  exact List.map_congr_left fun x hx => qbc x (List.all_eq_true.1 h4 x hx)
theorem at_nm : ∀ f : Fm, f.forms = true -> ∀ a ∈ atF f, a.atomOk = true := zba fun o a v xs ih hf b hb => by
 obtain ⟨hh, hx⟩ := ze6 hf
 cases h3 : o == 3
 ·rw [qg1 h3] at hb
  obtain ⟨l, hl, hb⟩ := List.mem_flatten.1 hb
  obtain ⟨x, hm, rfl⟩ := List.mem_map.1 hl
  exact ih x hm (hx x hm) b hb
 ·obtain ⟨rfl, rfl, rfl, h4⟩ := zi8 h3 hh
  rw [qhe h3, List.mem_singleton] at hb
  rw [hb]; exact h4
theorem zg1 {a : Tm} (h : a.atomOk = true) : nmA a = true := by rw [ze4, Bool.and_eq_true] at h; exact h.1
theorem pF_nil : ∀ f : Fm, f.forms = true -> pF [] f = f := zba fun o a v xs ih hf => by
 obtain ⟨hh, hx⟩ := ze6 hf
 cases h3 : o == 3
 ·have h3' : ((Fm.mk o a v xs).op == 3) = false := h3
  have ha : a = .mk [] [] := zf9 hh h3'
  subst ha
  rw [zz3 _ h3]
  congr 1
  conv => rhs; rw [<- List.map_id xs]
  exact List.map_congr_left fun x hm => ih x hm (hx x hm)
 ·obtain ⟨rfl, rfl, rfl, h4⟩ := zi8 h3 hh
  rw [zz2 _ h3, zth (zg1 h4)]
theorem inF_is (ps : List (Str × Tm)) (hp : ∀ p ∈ ps, za2 p.1 = true) : ∀ f : Fm, f.forms = true -> inF ps f = pF ps f := zba fun o a v xs ih hf => by
 obtain ⟨hh, hx⟩ := ze6 hf
 rw [qec]
 cases h3 : o == 3
 ·have h3' : ((Fm.mk o a v xs).op == 3) = false := h3
  have ha : a = .mk [] [] := zf9 hh h3'
  subst ha
  rw [zz3 _ h3, h3', if_neg (by simp)]
  show Fm.mk o (.mk [] []) v (xs.map (inF ps)) = _
  congr 1
  exact List.map_congr_left fun x hm => ih x hm (hx x hm)
 ·obtain ⟨rfl, rfl, rfl, h4⟩ := zi8 h3 hh
  rw [zz2 _ h3]
  show Fm.mk 3 (rvT ps a) [] [] = _
  rw [zvf ps hp (zg1 h4)]
structure Grd (ps : List (Str × Tm)) : Prop where
 v : ∀ p ∈ ps, za2 p.1 = true
 g : ∀ p ∈ ps, p.2.good = true /\ voS p.2 = []
theorem Grd.tail {p : Str × Tm} {ps : List (Str × Tm)} (h : Grd (p :: ps)) : Grd ps := ⟨fun q hq => h.v q (by simp [hq]), fun q hq => h.g q (by simp [hq])⟩
theorem zkr {t : Tm} (h : t.good = true) : t.names = true := by unfold Tm.good at h; rw [Bool.and_eq_true] at h; exact h.2
theorem qd3 {n : Str} {t : Tm} (hn : za2 n = true) (ht : voS t = []) : bnd n t = [(n, t)] := by
 unfold bnd
 rw [if_neg]
 intro e
 rw [zij, beq_iff_eq.1 e, if_pos hn] at ht
 cases ht
def zrd : Fm -> List (Str × Tm) -> Fm × Bool
 | g, [] => (g, true)
 | g, (n, t) :: ps => if (zcp n t g).2 = true then zrd (zcp n t g).1 ps else ((zcp n t g).1, false)
theorem zqv : ∀ {ps : List (Str × Tm)} {f : Fm}, Grd ps -> f.forms = true -> zbh f = true -> (zrd f ps).2 = true -> (zrd f ps).1 = pF ps f /\ (pF ps f).forms = true
 | [], f, _, hf, _, _ => by rw [pF_nil f hf]; exact ⟨rfl, hf⟩
 | (n, t) :: ps, f, hg, hf, hp, h => by
  have hn := hg.v (n, t) (by simp)
  obtain ⟨ht, hv⟩ := hg.g (n, t) (by simp)
  have hb := qd3 hn hv
  unfold zrd at h ⊢
  split at h
  ·rename_i ho
   rw [if_pos ho]
   have hi := zp5 n t f hp ho
   rw [zli n t f hp, <- zh2 _ f hf, hb] at ho
   rw [hi, hb] at h ⊢
   obtain ⟨h1, h2⟩ := zqv hg.tail ho (zlb _ f hp) h
   rw [zyh n t hv] at h1 h2
   exact ⟨h1, h2⟩
  ·cases h
theorem zwe : ∀ {ps : List (Str × Tm)} {f : Fm}, Grd ps -> f.forms = true -> zbh f = true -> (pF ps f).forms = true -> (zrd f ps).2 = true
 | [], f, _, _, _, _ => rfl
 | (n, t) :: ps, f, hg, hf, hp, h => by
  have hn := hg.v (n, t) (by simp)
  obtain ⟨ht, hv⟩ := hg.g (n, t) (by simp)
  have hb := qd3 hn hv
  have hnm : ∀ p ∈ [(n, t)], p.2.names = true := fun p hp => by rw [List.mem_singleton.1 hp]; exact zkr ht
  have ho : (zcp n t f).2 = true := by
   rw [zli n t f hp, hb]
   rw [zh2 _ f hf] at h
   refine List.all_eq_true.2 fun a ha => ?_
   have h1 := List.all_eq_true.1 h a ha
   rw [<- zn2 n t hv, ze4, Bool.and_eq_true] at h1
   have h2 := qa0 [(n, t)] hnm (zg1 (at_nm f hf a ha))
   rw [ze4, h2, Bool.true_and]
   exact ztq ps h2 h1.2
  unfold zrd
  rw [if_pos ho, zp5 n t f hp ho, hb]
  have h1 : (pF [(n, t)] f).forms = true := by rw [zli n t f hp, <- zh2 _ f hf, hb] at ho; exact ho
  exact zwe hg.tail h1 (zlb _ f hp) (by rw [zyh n t hv]; exact h)
theorem zr6 {ps : List (Str × Tm)} {f : Fm} (hg : Grd ps) (hf : f.forms = true) (hp : zbh f = true) : ((zrd f ps).2 && (zrd f ps).1.good) = (pF ps f).good := by
 rw [Bool.eq_iff_iff, Bool.and_eq_true]
 constructor
 ·rintro ⟨h1, h2⟩
  rw [(zqv hg hf hp h1).1] at h2
  exact h2
 ·intro h
  have h1 := zwe hg hf hp (zfw h)
  exact ⟨h1, by rw [(zqv hg hf hp h1).1]; exact h⟩
theorem zll : ∀ f : Fm, f.forms = true -> f.wt <= 520 * f.nodes := zba fun o a v xs ih hf => by
 obtain ⟨hh, hx⟩ := ze6 hf
 have hw : (Fm.mk o a v xs).wt = a.wt + v.length + xs.length + (xs.map Fm.wt).sum := Fm.wt_eq _
 have hn : (Fm.mk o a v xs).nodes = 1 + (xs.map Fm.nodes).sum := Fm.nodes_eq _
 have hs : (xs.map Fm.wt).sum <= (xs.map fun x => 520 * x.nodes).sum := zjq _ _ xs fun x hm => ih x hm (hx x hm)
 have hs2 : (xs.map fun x => 520 * x.nodes).sum = 520 * (xs.map Fm.nodes).sum := by
  clear hs hw hn hx hh hf ih
  induction xs with
  | nil => rfl
  | cons x xs ih2 => rw [List.map_cons, List.sum_cons, ih2, List.map_cons, List.sum_cons]; omega
 rw [hw, hn]
 cases h3 : o == 3
 ·have h3' : ((Fm.mk o a v xs).op == 3) = false := h3
  have ha : a = .mk [] [] := zf9 hh h3'
  have haw : a.wt = 0 := by rw [ha]; rfl
  have hl : xs.length <= 2 /\ v.length <= 4 := by
   rcases zie hf with ⟨h1, h2⟩ | ⟨p, h1, _⟩ | ⟨o', p, q, _, h1, _⟩ | ⟨o', v', p, ho, h1, _⟩
   ·have h1 : xs = [] := h1
    refine ⟨by rw [h1]; simp, ?_⟩
    have := zsi hh (by rcases h2 with h | h | h <;> (rw [h]; rfl))
    have this : v = [] := this
    rw [this]; simp
   ·cases h1; exact ⟨by simp, by simp⟩
   ·cases h1; exact ⟨by simp, by simp⟩
   ·cases h1
    refine ⟨by simp, ?_⟩
    have := zy8 hh (by rcases ho with h | h <;> (rw [show (Fm.mk o _ v [p]).op = o from rfl, h]; rfl))
    have this : za2 v = true := this
    unfold za2 inB at this
    simp only [Bool.and_eq_true, decide_eq_true_eq] at this
    omega
  omega
 ·obtain ⟨rfl, rfl, rfl, h4⟩ := zi8 h3 hh
  have := zmh h4
  simp only [List.length_nil, List.map_nil, List.sum_nil]
  omega
theorem zih {f : Fm} (h : f.good = true) : f.wt <= 20800 := by
 have h1 := zll f (zfw h)
 unfold Fm.good at h
 rw [Bool.and_eq_true, decide_eq_true_eq] at h
 omega
end Go.Proofs.YtemnhgmgeijkcaaGreat
namespace Go.Proofs.YtemnhgmgeijkcaaGreat
set_option linter.unusedSimpArgs false
set_option linter.unusedVariables false
set_option linter.unusedSectionVars false
set_option maxRecDepth 4000
open Go.RowKit
def grT (t : Tm) : Bool := t.good && decide (voS t = [])
theorem zns (l : List Str) : (zbx [] l).length = 0 ↔ l = [] := by
 constructor
 ·intro h
  cases l with
  | nil => rfl
  | cons a l =>
   exfalso
   have h1 : ∀ (l ys : List Str), ys ≠ [] -> zbx ys l ≠ [] := fun l => by
    induction l with
    | nil => exact fun ys h => h
    | cons a l ih =>
     intro ys h
     show zbx (zke ys a) l ≠ []
     refine ih _ ?_
     unfold zke
     split
     ·exact h
     ·simp
   have : zbx [] (a :: l) = zbx (zke [] a) l := rfl
   rw [this] at h
   exact h1 l (zke [] a) (by unfold zke; simp) (List.length_eq_zero_iff.1 h)
 ·rintro rfl; rfl
theorem qfo {t : Tm} (h : t.good = true) : voI t = voS t /\ t.ne = true := zlq t (zkr h)
theorem zjl (t : Tm) (hw : t.wt <= 1048576) : FC Tryz.prog 68 [tmD t] [bD (grT t)] := by
 have HI := zge t (by omega)
 have hv : grT t = (t.good && decide (voS t = [])) := rfl
 rw [hv]
 cases hg : t.good
 ·rw [hg] at HI
  rw [Bool.false_and]
  simp only [tmD, zaa t] at HI ⊢
  refine zc3 Tryz.call68 Tryz.func68 rfl (by kernel_rfl) (za1 (by kernel_rfl)) ?_
  simp -implicitDefEqProofs only [go_sem, Tryz.results68]
  refine callF (HI) (by simp -implicitDefEqProofs only [go_sem]) ?_
  simp -implicitDefEqProofs only [go_sem]
 ·rw [hg] at HI
  rw [Bool.true_and]
  obtain ⟨h1, h2⟩ := qfo hg
  have hl := qg8 t
  have HC := zm4 t h2 (by omega) [] (by simp only [List.length_nil]; omega)
  have hd : (((zbx [] (voI t)).length : Int) == 0) = decide (voS t = []) := by
   rw [Bool.eq_iff_iff, beq_iff_eq, decide_eq_true_eq, <- h1, <- zns]
   omega
  rw [show zb2 [] = .sl 1 [] from rfl] at HC
  generalize zbx [] (voI t) = L at HC hd
  simp only [tmD, zaa t] at HI HC ⊢
  refine zc3 Tryz.call68 Tryz.func68 rfl (by kernel_rfl) (za1 (by kernel_rfl)) ?_
  simp -implicitDefEqProofs only [go_sem, Tryz.results68]
  refine callF (HI) (by simp -implicitDefEqProofs only [go_sem]) ?_
  simp -implicitDefEqProofs only [go_sem]
  refine zcj [1, 4, 5] [6] [] (HC) (by simp -implicitDefEqProofs only [go_sem, hd]) (by simp -implicitDefEqProofs only [go_sem, hd]) (by simp -implicitDefEqProofs only [go_sem, hd]) (by simp -implicitDefEqProofs only [go_sem, hd]) ?_
  simp -implicitDefEqProofs only [go_sem, hd]
theorem qbd : ∀ a : Tm, (voS a).length <= 1 + a.wt := zbd fun n xs ih => by
 rw [zij]
 split
 ·simp only [List.length_cons, List.length_nil]; omega
 ·have h1 := zk3 voS (fun x => 1 + x.wt) xs ih
  have h2 := zpq Tm.wt xs
  have h3 : (Tm.mk n xs).wt = n.length + xs.length + (xs.map Tm.wt).sum := Tm.wt_eq _
  simp only [Tm.args]
  omega
theorem zpk (t : Tm) (hw : t.wt <= 1048576) : FC Tryz.prog 174 [tmD t] [bD (decide (voS t = []))] := by
 have hn := zff t
 have hl := qbd t
 have HV := zk1 t (by omega) (by omega)
 have hd : (((zbf [] (voS t)).length : Int) == 0) = decide (voS t = []) := by
  rw [Bool.eq_iff_iff, beq_iff_eq, decide_eq_true_eq, <- zns, <- zlh, ze9]
  omega
 generalize zbf [] (voS t) = L at HV hd
 simp only [tmD, zaa t] at HV ⊢
 refine zam Tryz.call174 Tryz.func174 rfl (by kernel_rfl) (za1 (by kernel_rfl)) ?_
 simp -implicitDefEqProofs only [go_sem, Tryz.results174]
 refine callF (HV) (by simp -implicitDefEqProofs only [go_sem, hd]) ?_
 simp -implicitDefEqProofs only [go_sem, hd]
theorem ztj (ts : List Tm) (hw : zfd ts <= 1048576) (hl : ts.length <= 60) : FC Tryz.prog 112 [.one (tmS ts)] [bD (ts.all grT)] := by
 have h60 : decide ((ts.length : Int) <= 60) = true := by simp; omega
 refine zam Tryz.call112 Tryz.func112 rfl (by kernel_rfl) (za1 (by kernel_rfl)) ?_
 simp -implicitDefEqProofs only [go_sem, Tryz.results112]
 refine zaf (fun k : Nat => hd [(0, vT (tmS ts)), (3, vI k)] [] []) (fun k => k <= ts.length /\ (ts.take k).all grT = true) (fun k => ts.length - k) 0 (zac ?_) ⟨Nat.zero_le _, rfl⟩ ?_
 ·simp -implicitDefEqProofs only [go_sem]
 ·intro k ⟨hk, hT⟩
  have hk60 : ((k : Int) <= 60) = True := by simp; omega
  by_cases hlt : k < ts.length
  ·have htw := zbk Tm.wt ts ts[k] (List.getElem_mem hlt)
   have hW : zfd ts = ts.length + (ts.map Tm.wt).sum := rfl
   have HG := zqy ts[k] (by omega)
   have HR := zpk ts[k] (by omega)
   have hv : grT ts[k] = (ts[k].good && decide (voS ts[k] = [])) := rfl
   simp only [tmD, zaa ts[k]] at HG HR
   have hbad : grT ts[k] = false -> ts.all grT = false := fun h => List.all_eq_false.2 ⟨_, List.getElem_mem hlt, by rw [h]; simp⟩
   have hnx : grT ts[k] = true -> (ts.take (k + 1)).all grT = true := fun h => by
    rw [List.take_succ_eq_append_getElem hlt, List.all_append, hT]; simp [h]
   cases h1 : ts[k].good
   ·rw [h1] at HG
    rw [h1, Bool.false_and] at hv
    rw [hbad hv]
    simp -implicitDefEqProofs only [go_sem, hlt, hk60, zai, zaa ts[k]]
    refine callF (HG) (by simp -implicitDefEqProofs only [go_sem]) ?_
    simp -implicitDefEqProofs only [go_sem]
   ·rw [h1] at HG
    rw [h1, Bool.true_and] at hv
    simp -implicitDefEqProofs only [go_sem, hlt, hk60, zai, zaa ts[k]]
    refine callF (HG) (by simp -implicitDefEqProofs only [go_sem]) ?_
    simp -implicitDefEqProofs only [go_sem]
    simp -implicitDefEqProofs only [go_sem, hlt, zai, zaa ts[k]]
    refine callF (HR) (by simp -implicitDefEqProofs only [go_sem]) ?_
    simp -implicitDefEqProofs only [go_sem]
    refine ⟨fun h => ?_, fun h => ?_⟩
    ·rw [hbad (by rw [hv]; simpa using h)]
    ·refine ⟨k + 1, ⟨hlt, hnx (by rw [hv]; simpa using h)⟩, by omega, zac ?_⟩
     simp -implicitDefEqProofs only [go_sem]
     rw [zao (by omega)]
  ·rw [List.take_of_length_le (by omega)] at hT
   rw [hT]
   simp -implicitDefEqProofs only [go_sem, hlt, h60]
theorem zga : ∀ f : Fm, (exN f).2.nodes <= f.nodes /\ ∀ n ∈ (exN f).1, f.forms = true -> za2 n = true := zba fun o a v ps ih => by
 cases h9 : (Fm.mk o a v ps).op == 9
 ·rw [zwp h9]
  exact ⟨Nat.le_refl _, fun n hn => by cases hn⟩
 ·by_cases hl : 0 < ps.length
  ·have e : exN (.mk o a v ps) = ((Fm.mk o a v ps).var :: (exN ps[0]).1, (exN ps[0]).2) := by
    rw [exN, dif_pos ⟨by simpa using h9, hl⟩]; rfl
   rw [e]
   have hm : ps[0] ∈ ps := List.getElem_mem hl
   have h1 := (ih ps[0] hm).1
   have h2 := zdw (f := .mk o a v ps) hm
   refine ⟨by show (exN ps[0]).2.nodes <= _; omega, fun n hn hf => ?_⟩
   obtain ⟨hh, hx⟩ := ze6 hf
   rcases List.mem_cons.1 hn with rfl | hn
   ·exact zy8 hh (by unfold isQ; rw [h9, Bool.or_true])
   ·exact (ih ps[0] hm).2 n hn (hx _ hm)
  ·have e : exN (.mk o a v ps) = ([], .mk o a v ps) := by
    rw [exN, dif_neg]
    rintro ⟨_, h⟩
    exact hl h
   rw [e]
   exact ⟨Nat.le_refl _, fun n hn => by cases hn⟩
theorem pF_wt (ps : List (Str × Tm)) (W : Nat) (hW : ∀ p ∈ ps, p.2.wt <= W) : ∀ f : Fm, f.forms = true -> (pF ps f).wt <= (520 + 30 * W) * f.nodes := zba fun o a v xs ih hf => by
 obtain ⟨hh, hx⟩ := ze6 hf
 have hn : (Fm.mk o a v xs).nodes = 1 + (xs.map Fm.nodes).sum := Fm.nodes_eq _
 have hs : (xs.map fun x => (pF ps x).wt).sum <= (xs.map fun x => (520 + 30 * W) * x.nodes).sum := zjq _ _ xs fun x hm => ih x hm (hx x hm)
 have hs2 : (xs.map fun x => (520 + 30 * W) * x.nodes).sum = (520 + 30 * W) * (xs.map Fm.nodes).sum := by
  generalize 520 + 30 * W = K
  clear hs hn hx hh hf ih
  induction xs with
  | nil => rfl
  | cons x xs ih2 => rw [List.map_cons, List.sum_cons, ih2, List.map_cons, List.sum_cons, Nat.mul_add]
 rw [hn, Nat.mul_add, Nat.mul_one]
 cases h3 : o == 3
 ·have hw0 := zll _ hf
  rw [zz3 _ h3]
  have hw : (Fm.mk o (.mk [] []) v (xs.map (pF ps))).wt = 0 + v.length + (xs.map (pF ps)).length + ((xs.map (pF ps)).map Fm.wt).sum := Fm.wt_eq _
  have hl : xs.length <= 2 /\ v.length <= 4 := by
   rcases zie hf with ⟨h1, h2⟩ | ⟨p, h1, _⟩ | ⟨o', p, q, _, h1, _⟩ | ⟨o', v', p, ho, h1, _⟩
   ·have h1 : xs = [] := h1
    refine ⟨by rw [h1]; simp, ?_⟩
    have := zsi hh (by rcases h2 with h | h | h <;> (rw [h]; rfl))
    have this : v = [] := this
    rw [this]; simp
   ·cases h1; exact ⟨by simp, by simp⟩
   ·cases h1; exact ⟨by simp, by simp⟩
   ·cases h1
    refine ⟨by simp, ?_⟩
    have := zy8 hh (by rcases ho with h | h <;> (rw [show (Fm.mk o _ v [p]).op = o from rfl, h]; rfl))
    have this : za2 v = true := this
    unfold za2 inB at this
    simp only [Bool.and_eq_true, decide_eq_true_eq] at this
    omega
  have e2 : ((xs.map (pF ps)).map Fm.wt).sum = (xs.map fun x => (pF ps x).wt).sum := by rw [List.map_map]; rfl
  rw [hw, List.length_map, e2]
  omega
 ·obtain ⟨rfl, rfl, rfl, h4⟩ := zi8 h3 hh
  rw [zz2 _ h3]
  have hw : (Fm.mk 3 (zb8 ps a) [] []).wt = (zb8 ps a).wt + 0 + 0 + 0 := Fm.wt_eq _
  have h5 := zw1 ps W hW a
  have h6 := zmh h4
  have h7 : a.nodes <= 30 := by
   rw [ze4, Bool.and_eq_true] at h4
   have h8 := h4.2
   unfold zck at h8
   simp only [Bool.and_eq_true, decide_eq_true_eq] at h8
   exact h8.1
  have h8 : a.nodes * W <= 30 * W := Nat.mul_le_mul_right W h7
  rw [hw]
  omega
theorem zk9 {t : Tm} (h : t.good = true) : t.wt <= 240 := by
 have h1 := zqr t (zkr h)
 unfold Tm.good zck at h
 simp only [Bool.and_eq_true, decide_eq_true_eq] at h
 omega
theorem zp2 {ns : List Str} {ts : List Tm} (hv : ∀ n ∈ ns, za2 n = true) (ht : ts.all grT = true) : Grd (ns.zip ts) := by
 refine ⟨fun p hp => hv _ (List.of_mem_zip hp).1, fun p hp => ?_⟩
 have := List.all_eq_true.1 ht _ (List.of_mem_zip hp).2
 unfold grT at this
 rw [Bool.and_eq_true, decide_eq_true_eq] at this
 exact this
theorem qf6 {ps : List (Str × Tm)} (h : Grd ps) {g : Fm} (hf : g.forms = true) (hn : g.nodes <= 40) : (pF ps g).wt <= 308800 := by
 have h1 := pF_wt ps 240 (fun p hp => zk9 (h.g p hp).1) g hf
 have h2 : (520 + 30 * 240) * g.nodes <= (520 + 30 * 240) * 40 := Nat.mul_le_mul_left _ hn
 omega
end Go.Proofs.YtemnhgmgeijkcaaGreat
namespace Go.Proofs.YtemnhgmgeijkcaaGreat
set_option linter.unusedSimpArgs false
set_option linter.unusedVariables false
set_option linter.unusedSectionVars false
set_option maxRecDepth 4000
open Go.RowKit
def okT (n : Nat) (ts : List Tm) : Bool := decide (ts.length = n) && ts.all grT
def zt1 (tss : List (List Tm)) : Nat := tss.length + (tss.map zfd).sum
def zwi (f : Fm) (ts : List Tm) : Fm := pF ((exN f).1.zip ts) (exN f).2
def zuo (f : Fm) (tss : List (List Tm)) : Fm := zc1 6 (tss.map (zwi f)) (mkF 2 [])
noncomputable def qdh (f : Fm) (tss : List (List Tm)) : Bool := qcm f && tss.all (okT (exN f).1.length)
noncomputable def hdB (f : Fm) (tss : List (List Tm)) : Bool := qdh f tss && (zuo f tss).good
noncomputable def hdR (f : Fm) (tss : List (List Tm)) : Fm := if hdB f tss = true then zuo f tss else mkF 0 []
theorem zj5 {f : Fm} (h : qcm f = true) : f.good = true /\ (exN f).1.Nodup /\ zbh (exN f).2 = true /\ (exN f).2.forms = true := by
 unfold qcm at h
 simp only [Bool.and_eq_true, decide_eq_true_eq] at h
 exact ⟨h.1.1.1, h.1.2, h.2, zza f (zfw h.1.1.1)⟩
theorem zqi (t : Tm) (hw : t.wt <= 1048576) : FC Tryz.prog 67 [tmD t] [bD (!grT t)] := by
 have H := zjl t hw
 simp only [tmD, zaa t] at H ⊢
 refine zam Tryz.call67 Tryz.func67 rfl (by kernel_rfl) (za1 (by kernel_rfl)) ?_
 simp -implicitDefEqProofs only [go_sem, Tryz.results67]
 refine callF (H) (by simp -implicitDefEqProofs only [go_sem]) ?_
 simp -implicitDefEqProofs only [go_sem]
set_option maxHeartbeats 4000000 in
theorem qbp (f : Fm) (hw : f.wt <= 1048576) (tss : List (List Tm)) (ht : zt1 tss <= 1048576) : FC Tryz.prog 17 [fmD f, .one (zi9 tss)] [fmD (hdR f tss), bD (hdB f tss)] := by
 have HH := znl f hw
 cases hh : qcm f
 ·have e1 : hdB f tss = false := by unfold hdB qdh; rw [hh]; rfl
  unfold hdR
  rw [e1, if_neg (by simp)]
  rw [hh] at HH
  simp only [fmD, zab f, zcm, List.map_nil] at HH ⊢
  refine zc3 Tryz.call17 Tryz.func17 rfl (by kernel_rfl) (za1 (by kernel_rfl)) ?_
  simp -implicitDefEqProofs only [go_sem, Tryz.results17]
  refine callF (HH) (by simp -implicitDefEqProofs only [go_sem]) ?_
  simp -implicitDefEqProofs only [go_sem]
 ·rw [hh] at HH
  obtain ⟨hg, hnd, hpl, hfo⟩ := zj5 hh
  have HP := zrk f (zfw hg) hw
  have hbw := Nat.le_trans (zxg f) (zih hg)
  have hfn : f.nodes <= 40 := by unfold Fm.good at hg; rw [Bool.and_eq_true, decide_eq_true_eq] at hg; exact hg.1
  have hvn : ∀ n ∈ (exN f).1, za2 n = true := fun n hn => (zga f).2 n hn (zfw hg)
  have hgn := Nat.le_trans (zga f).1 hfn
  have hlen := zey f
  have hHG : zuo f tss = zc1 6 (tss.map (zwi f)) (mkF 2 []) := rfl
  have hBv : hdB f tss = (qdh f tss && (zuo f tss).good) := rfl
  have hRv : hdR f tss = if hdB f tss = true then zuo f tss else mkF 0 [] := rfl
  have hvO : qdh f tss = tss.all (okT (exN f).1.length) := by unfold qdh; rw [hh, Bool.true_and]
  rw [show tss.map (zwi f) = tss.map fun ts => pF ((exN f).1.zip ts) (exN f).2 from rfl] at hHG
  generalize exN f = B at HP hnd hpl hfo hbw hvO hvn hgn hlen hHG
  obtain ⟨ns, g⟩ := B
  simp only at HP hnd hpl hfo hbw hvO hvn hgn hlen hHG
  have hTL : zt1 tss = tss.length + (tss.map zfd).sum := rfl
  simp only [fmD, zab f, zab g] at HH HP ⊢
  refine qgu Tryz.call17 Tryz.func17 rfl (za1 (by kernel_rfl)) ?_
  refine zdi.cut 3 rfl (by kernel_rfl) ?_
  simp -implicitDefEqProofs only [go_sem, Tryz.results17]
  refine callF (HH) (by simp -implicitDefEqProofs only [go_sem]) ?_
  simp -implicitDefEqProofs only [go_sem]
  refine zr9 [1, 2, 4, 5] [19] [] (HP) (by simp -implicitDefEqProofs only [go_sem]) (by simp -implicitDefEqProofs only [go_sem]) (by simp -implicitDefEqProofs only [go_sem]) (by simp -implicitDefEqProofs only [go_sem]) ?_
  simp -implicitDefEqProofs only [go_sem]
  refine zbl (by simp -implicitDefEqProofs only [go_sem]) ?_
  simp -implicitDefEqProofs only [go_sem]
  refine zdi.seq ?_
  refine zdi.cut 0 rfl (by kernel_rfl) ?_
  simp -implicitDefEqProofs only [go_sem]
  refine zdi.block ?_
  refine zdi.loop (fun k : Nat => hd [(4, .one (.bx 4 0)), (5, vB false), (6, .one (.ow 640 0)), (7, .one (.bx 7 0)), (8, .one (.ow 736 0)), (24, .one (.rn (zi9 tss))), (25, vI tss.length), (26, vI k)] [(4, [.t (.int .i64 0), .t (.str []), .nl 2, .t (.str []), .nl 5]), (7, [.t (.int .i64 g.op), .t (.str g.atom.name), .rn (tmS g.atom.args), .t (.str g.var), .rn (fmS g.parts)])] [(640, ⟨true, 1, ns.map fun s => [.str s], 0, true⟩), (736, ⟨true, 5, (tss.take k).map fun ts => fmC (pF (ns.zip ts) g), 0, true⟩)]) (fun k => k <= tss.length /\ (tss.take k).all (okT ns.length) = true) (fun k => tss.length - k) 0 (zac ?_) ⟨Nat.zero_le _, rfl⟩ ?_
  ·simp -implicitDefEqProofs only [go_sem]
  ·intro k ⟨hk, hT⟩
   refine zdi.cut 1 rfl (by kernel_rfl) ?_
   by_cases hlt : k < tss.length
   ·simp -implicitDefEqProofs only [go_sem, hlt]
    refine zdi.seq ?_
    refine zdi.block ?_
    refine zdi.cut 0 rfl (by kernel_rfl) ?_
    simp -implicitDefEqProofs only [go_sem, zai, hlt]
    have hmw := zbk zfd tss tss[k] (List.getElem_mem hlt)
    have hbad : okT ns.length tss[k] = false -> hdB f tss = false := fun h => by
     rw [hBv, hvO, List.all_eq_false.2 ⟨_, List.getElem_mem hlt, by rw [h]; simp⟩]; rfl
    have hnx : okT ns.length tss[k] = true -> (tss.take (k + 1)).all (okT ns.length) = true := fun h => by
     rw [List.take_succ_eq_append_getElem hlt, List.all_append, hT]; simp [h]
    have htk : tss.take (k + 1) = tss.take k ++ [tss[k]] := by rw [List.take_succ_eq_append_getElem hlt]
    generalize tss[k] = ts at hmw hbad hnx htk ⊢
    have hF := zdn ts (fun t => !grT t) 67 [] fun x hx => zqi x (by
     have h1 := zbk Tm.wt ts x hx
     have h2 : zfd ts = ts.length + (ts.map Tm.wt).sum := rfl
     omega)
    have hov : okT ns.length ts = (decide (ts.length = ns.length) && ts.all grT) := rfl
    rw [<- zc0 ts grT] at hov
    generalize han : (ts.any fun t => !grT t) = an at hF hov
    by_cases hl : ts.length = ns.length
    ·have hl0 : ((ts.length : Int) != (ns.length : Int)) = false := by simp [hl]
     rw [decide_eq_true hl, Bool.true_and] at hov
     cases an
     ·have hok := hnx hov
      refine zdi.cut 0 rfl (by kernel_rfl) ?_
      simp -implicitDefEqProofs only [go_sem, hl0]
      refine callF (hF) (by simp -implicitDefEqProofs only [go_sem]) ?_
      simp -implicitDefEqProofs only [go_sem]
      refine zdi.scope true rfl rfl rfl (by simp only [Tryz.ntmps17]; omega) ?_
      intro b
      refine zes.cut 0 rfl (by kernel_rfl) ?_
      simp -implicitDefEqProofs only [go_sem]
      refine zes.block ?_
      refine zes.loop (fun j : Nat => hd [(4, .one (.bx 4 0)), (5, vB false), (6, .one (.ow 640 0)), (7, .one (.bx 7 0)), (8, .one (.ow 736 0)), (10, .one (.rn (tmS ts))), (11, .one (.cv (.map (some b)))), (24, .one (.rn (zi9 tss))), (25, vI tss.length), (26, vI k), (41, .one (.ow 640 0)), (42, vI ns.length), (43, vI j)] [(4, [.t (.int .i64 0), .t (.str []), .nl 2, .t (.str []), .nl 5]), (7, [.t (.int .i64 g.op), .t (.str g.atom.name), .rn (tmS g.atom.args), .t (.str g.var), .rn (fmS g.parts)])] [(640, ⟨true, 1, ns.map fun s => [.str s], 0, true⟩), (736, ⟨true, 5, (tss.take k).map fun ts => fmC (pF (ns.zip ts) g), 0, true⟩)])
       (fun j => ((ns.zip ts).take j).map bnC) (fun j => j <= ns.length) (fun j => ns.length - j) 0 (zac ?_) rfl (Nat.zero_le _) ?_
      ·simp -implicitDefEqProofs only [go_sem]
      ·intro j hj
       refine zes.cut 1 rfl (by kernel_rfl) ?_
       by_cases hlj : j < ns.length
       ·have hlj2 : j < ts.length := by omega
        have hzl : j < (ns.zip ts).length := by rw [List.length_zip]; omega
        have hfr : zdd (.str ns[j]) (((ns.zip ts).take j).map bnC) = some none := by
         rw [zg5, List.find?_eq_none.2]
         ·rfl
         ·intro p hp e
          obtain ⟨i, hi, rfl⟩ := List.getElem_of_mem hp
          rw [List.length_take] at hi
          rw [List.getElem_take, List.getElem_zip, beq_iff_eq] at e
          have := zyd hnd (by omega) hlj e
          omega
        have hrow : ((ns.zip ts).take (j + 1)).map bnC = ((ns.zip ts).take j).map bnC ++ [[.str ns[j], .str ts[j].name, .sl 2 (ts[j].args.map tmC)]] := by
         rw [List.take_succ_eq_append_getElem hzl, List.map_append, List.map_singleton, List.getElem_zip, zq2]
        generalize ((ns.zip ts).take j).map bnC = R at hfr hrow ⊢
        simp -implicitDefEqProofs only [go_sem, hlj]
        refine zes.seq ?_
        refine zes.block ?_
        refine zes.cut 0 rfl (by kernel_rfl) ?_
        simp -implicitDefEqProofs only [go_sem, zai, hlj]
        refine zes.upd 6 rfl rfl rfl (by kernel_rfl) ?_
        simp -implicitDefEqProofs only [go_sem, zai, hlj, hlj2, zaa ts[j], hfr, Tryz.underlying105, Tryz.underlying9]
        refine zes.ofEx (by kernel_rfl) ?_
        simp -implicitDefEqProofs only [go_sem]
        refine ⟨j + 1, hlj, by omega, hrow, zac ?_⟩
        simp -implicitDefEqProofs only [go_sem]
        rw [zao (by omega)]
       ·have htz : (ns.zip ts).take j = ns.zip ts := List.take_of_length_le (by rw [List.length_zip]; omega)
        have hgr := zp2 hvn (by rw [<- zc0, han]; rfl : ts.all grT = true)
        have HI := zt6 (ns.zip ts) (fun p hp => by have := zk9 (hgr.g p hp).1; omega) g (by omega)
        rw [inF_is _ hgr.v g hfo] at HI
        have ha : k <= 4294967295 := by omega
        have ha2 : min k tss.length <= 4294967295 := by omega
        unfold mpS at HI
        simp -implicitDefEqProofs only [go_sem, hlj, htz]
        refine zdi.ofEx (by kernel_rfl) ?_
        generalize hr : pF (ns.zip ts) g = r at HI ⊢
        simp only [fmD, zab g, zab r] at HI
        simp -implicitDefEqProofs only [go_sem]
        refine callF (HI) (by simp -implicitDefEqProofs only [go_sem]) ?_
        simp -implicitDefEqProofs only [go_sem]
        refine zbl (by simp -implicitDefEqProofs only [go_sem]) ?_
        simp -implicitDefEqProofs only [go_sem]
        refine apD true (by simp -implicitDefEqProofs only [go_sem, ne_eq, List.length_map, List.length_take, ha, ha2]) ?_
        simp -implicitDefEqProofs only [go_sem, ne_eq, List.length_map, List.length_take, ha, ha2]
        refine zdi.ofEx (by kernel_rfl) ?_
        simp -implicitDefEqProofs only [go_sem]
        refine ⟨k + 1, ⟨hlt, hok⟩, by omega, zac ?_⟩
        simp -implicitDefEqProofs only [go_sem]
        rw [zao (by omega), htk, List.map_append, List.map_singleton, hr, zab r]
        exact ⟨rfl, rfl⟩
     ·have hB := hbad hov
      rw [hRv, hB, if_neg (by simp)]
      simp only [zcm, List.map_nil]
      refine zdi.cut 0 rfl (by kernel_rfl) ?_
      simp -implicitDefEqProofs only [go_sem, hl0]
      refine callF (hF) (by simp -implicitDefEqProofs only [go_sem]) ?_
      simp -implicitDefEqProofs only [go_sem]
    ·have hl0 : ((ts.length : Int) != (ns.length : Int)) = true := by rw [bne_iff_ne]; omega
     rw [decide_eq_false hl, Bool.false_and] at hov
     have hB := hbad hov
     rw [hRv, hB, if_neg (by simp)]
     simp only [zcm, List.map_nil]
     refine zdi.cut 0 rfl (by kernel_rfl) ?_
     simp -implicitDefEqProofs only [go_sem, hl0]
   ·rw [List.take_of_length_le (by omega)] at hT
    rw [hvO, hT, Bool.true_and] at hBv
    have ht : tss.take k = tss := List.take_of_length_le (by omega)
    have hall : ∀ x ∈ tss.map (fun ts => pF (ns.zip ts) g), x.wt <= 308800 := fun x hx => by
     obtain ⟨ts, hm, rfl⟩ := List.mem_map.1 hx
     have h1 := List.all_eq_true.1 hT ts hm
     unfold okT at h1
     rw [Bool.and_eq_true] at h1
     exact qf6 (zp2 hvn h1.2) hfo hgn
    have hsum : ∀ l : List Fm, (∀ x ∈ l, x.wt <= 308800) -> (l.map Fm.wt).sum <= 308800 * l.length := fun l => by
     induction l with
     | nil => intro _; simp
     | cons x l ih =>
      intro h
      have := ih fun y hy => h y (by simp [hy])
      have := h x (by simp)
      rw [List.map_cons, List.sum_cons, List.length_cons]; omega
    have hs := hsum _ hall
    have hj := zo1 6 (mkF 2 []) (tss.map fun ts => pF (ns.zip ts) g)
    rw [List.length_map] at hs hj
    have h2 : (mkF 2 []).wt = 0 := rfl
    have HL := ztz 6 (tss.map fun ts => pF (ns.zip ts) g) (mkF 2 [])
    rw [<- hHG] at HL hj
    have HI := zqd (zuo f tss) (by omega)
    rw [hRv, hBv]
    generalize zuo f tss = G at HL HI
    generalize G.good = gd at HI
    generalize hC : (if gd = true then G else mkF 0 []) = C at HI ⊢
    simp only [fmD, zcm, List.map_nil, List.map_cons, zab G, zab C, fmS, List.map_map, Function.comp_def] at HL HI ⊢
    simp -implicitDefEqProofs only [go_sem, hlt, ht]
    refine zdi.ofEx (by kernel_rfl) ?_
    simp -implicitDefEqProofs only [go_sem]
    refine zcj [4, 5] [62, 63] [] (HL) (by simp -implicitDefEqProofs only [go_sem]) (by simp -implicitDefEqProofs only [go_sem]) (by simp -implicitDefEqProofs only [go_sem]) (by simp -implicitDefEqProofs only [go_sem]) ?_
    simp -implicitDefEqProofs only [go_sem]
    refine zcj [4, 5] [64] [] (HI) (by simp -implicitDefEqProofs only [go_sem]) (by simp -implicitDefEqProofs only [go_sem]) (by simp -implicitDefEqProofs only [go_sem]) (by simp -implicitDefEqProofs only [go_sem]) ?_
    simp -implicitDefEqProofs only [go_sem]
end Go.Proofs.YtemnhgmgeijkcaaGreat
