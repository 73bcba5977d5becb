/-
  The walk over plain data, and contracts of functions of the program and of its laws.
  Conditions: those that each theorem names.
-/
import Derived.Test.YtemnhgmgeijkcaaGreatQS9
import Derived.Test.YtemnhgmgeijkcaaGreatQS7
import Derived.Test.YtemnhgmgeijkcaaGreatQS5
namespace Go.Proofs.YtemnhgmgeijkcaaGreat
set_option linter.unusedSimpArgs false
set_option linter.unusedVariables false
set_option linter.unusedSectionVars false
set_option maxRecDepth 4000
open Go.RowKit
theorem zib (xs ys : List Fm) : FC Tryz.prog 271 [.one (fmS xs), .one (fmS ys)] [bD (same xs ys)] := by
 refine zc8 (fun hw => ?_) Tryz.call271
 have hl : xs.length <= 9223372036854775807 := by simpa [ze9, wfT] using hw.1.1
 have hl2 : ys.length <= 9223372036854775807 := by simpa [ze9, wfT] using hw.2.1.1
 refine zag Tryz.call271 Tryz.func271 rfl (by kernel_rfl) (zau (by kernel_rfl)) ?_
 simp -implicitDefEqProofs only [go_sem, Tryz.results271]
 refine ⟨fun h => ?_, fun h => ?_⟩
 ·rw [zbp.2 (by rintro rfl; simp at h)]
 ·have hlen : xs.length = ys.length := by simp at h; omega
  refine zae (fun k : Nat => hd [(0, vT (fmS xs)), (1, vT (fmS ys)), (5, vI k)] [] []) (fun k => k <= xs.length /\ same xs ys = same (xs.drop k) (ys.drop k)) (fun k => xs.length - k) 0 (zac ?_) ?_ ?_
  ·simp -implicitDefEqProofs only [go_sem]
  ·simp
  ·intro k ⟨hk, hr⟩
   by_cases hlt : k < xs.length
   ·have hk2 : k < ys.length := by omega
    have HS := zic xs[k] ys[k]
    simp only [fmD, zaa xs[k], zaa ys[k]] at HS
    simp -implicitDefEqProofs only [go_sem, List.length_map, hlt]
    refine drawn (by kernel_rfl) ?_
    simp -implicitDefEqProofs only [go_sem, List.length_map, zaf, hlt, hk2, zaa xs[k], zaa ys[k]]
    refine zam (HS) (by simp -implicitDefEqProofs only [go_sem]) ?_
    simp -implicitDefEqProofs only [go_sem]
    refine ⟨by kernel_rfl, fun h => ?_, fun h => ?_⟩
    ·rw [hr, List.drop_eq_getElem_cons hlt, List.drop_eq_getElem_cons hk2, zby, show same xs[k] ys[k] = false by simpa using h]; rfl
    ·rw [List.drop_eq_getElem_cons hlt, List.drop_eq_getElem_cons hk2, zby, show same xs[k] ys[k] = true by simpa using h, Bool.true_and] at hr
     rw [zap (by omega)]
     exact ⟨k + 1, ⟨by omega, hr⟩, by omega, zac (by simp -implicitDefEqProofs only [go_sem])⟩
   ·simp -implicitDefEqProofs only [go_sem, List.length_map, hlt]
    rw [hr, List.drop_of_length_le (by omega), List.drop_of_length_le (by omega), zdl]
theorem qgb (a b : Sq) : FC Tryz.prog 214 [sqD a, sqD b] [bD (same a b)] := by
 have H1 := zib a.left b.left
 have H2 := zib a.right b.right
 rw [qck]
 simp only [sqD, zah]
 cases h : same a.left b.left
 ·rw [h] at H1
  refine zag Tryz.call214 Tryz.func214 rfl (by kernel_rfl) (zau (by kernel_rfl)) ?_
  simp -implicitDefEqProofs only [go_sem, Tryz.results214]
  refine callF (H1) (by simp -implicitDefEqProofs only [go_sem]) ?_
  simp -implicitDefEqProofs only [go_sem]
 ·rw [h] at H1
  refine zag Tryz.call214 Tryz.func214 rfl (by kernel_rfl) (zau (by kernel_rfl)) ?_
  simp -implicitDefEqProofs only [go_sem, Tryz.results214]
  refine callF (H1) (by simp -implicitDefEqProofs only [go_sem]) ?_
  simp -implicitDefEqProofs only [go_sem]
  refine callF (H2) (by simp -implicitDefEqProofs only [go_sem]) ?_
  simp -implicitDefEqProofs only [go_sem]
theorem zxa (l : List Int) : flR (l.map fun s => [T.int .i64 s]) = true := qk5 fun r hr => by obtain ⟨s, _, rfl⟩ := List.mem_map.1 hr; rfl
theorem qm7 (xs : List Int) (hl : xs.length <= 4294967296) : FC Tryz.prog 146 [.one (zhx xs)] [.one (zhx xs)] := by
 refine zag Tryz.call146 Tryz.func146 rfl (by kernel_rfl) (zau (by kernel_rfl)) ?_
 simp -implicitDefEqProofs only [go_sem, Tryz.results146]
 refine zal (by simp -implicitDefEqProofs only [go_sem]) ?_
 simp -implicitDefEqProofs only [go_sem]
 refine apD true (by simp -implicitDefEqProofs only [go_sem, ne_eq, List.length_map, Nat.zero_add, hl, zxa]) ?_
 simp -implicitDefEqProofs only [go_sem, ne_eq, List.length_map, Nat.zero_add, hl, zxa]
set_option maxHeartbeats 2000000 in
theorem qb2 (d : Dv) (hdw : d.wt <= 1048576) : FC Tryz.prog 145 [dvD d] [bD (qjx d.seq d)] := by
 have hW := d.wt_eq
 have HG := zmb d.seq (by omega)
 have hv : qjx d.seq d = ((zmj d.seq d).2 && same (zmj d.seq d).1 (d.parts.map Dv.seq)) := rfl
 rw [hv]
 have hsz := zq1 d.seq d
 cases hg : d.seq.good
 ·rw [hg] at HG
  have hp : zmj d.seq d = ([], false) := by unfold zmj; rw [hg]; rfl
  rw [hp]
  simp only [sqD, zah, dvD, zax d] at HG ⊢
  show FC _ _ _ [bD false]
  refine zag Tryz.call145 Tryz.func145 rfl (by kernel_rfl) (zau (by kernel_rfl)) ?_
  simp -implicitDefEqProofs only [go_sem, Tryz.results145]
  refine callF (HG) (by simp -implicitDefEqProofs only [go_sem]) ?_
  simp -implicitDefEqProofs only [go_sem]
 ·rw [hg] at HG
  have hp : zmj d.seq d = prR d.seq d := by unfold zmj; rw [hg]; rfl
  have HP := zis d.seq hg d hdw
  rw [<- qga d.seq d hg, <- hp] at HP
  generalize zmj d.seq d = A at HP hsz ⊢
  obtain ⟨L, b⟩ := A
  simp only at HP hsz ⊢
  have hll : L.length <= 2000000 := by unfold sqsW at hsz; omega
  simp only [sqD, zah, dvD, zax d] at HG HP ⊢
  cases b
  ·rw [Bool.false_and]
   refine zag Tryz.call145 Tryz.func145 rfl (by kernel_rfl) (zau (by kernel_rfl)) ?_
   simp -implicitDefEqProofs only [go_sem, Tryz.results145]
   refine callF (HG) (by simp -implicitDefEqProofs only [go_sem]) ?_
   simp -implicitDefEqProofs only [go_sem]
   refine callF (HP) (by simp -implicitDefEqProofs only [go_sem]) ?_
   simp -implicitDefEqProofs only [go_sem]
  ·rw [Bool.true_and]
   refine zag Tryz.call145 Tryz.func145 rfl (by kernel_rfl) (zau (by kernel_rfl)) ?_
   simp -implicitDefEqProofs only [go_sem, Tryz.results145]
   refine callF (HG) (by simp -implicitDefEqProofs only [go_sem]) ?_
   simp -implicitDefEqProofs only [go_sem]
   refine callF (HP) (by simp -implicitDefEqProofs only [go_sem]) ?_
   simp -implicitDefEqProofs only [go_sem]
   refine ⟨fun h => ?_, fun h => ?_⟩
   ·rw [zbp.2 (by rintro rfl; simp at h)]
   ·have hlen : L.length = d.parts.length := by simp at h; omega
    refine zae (fun k : Nat => hd [(1, .one (.bx 1 0)), (3, .one (.ow 448 0)), (5, vI k)] [(1, [.t (.int .i64 d.rule), .t (fmS d.seq.left), .t (fmS d.seq.right), .t (.int .i64 d.main), .t (.str d.term.name), .t (tmS d.term.args), .t (.int .i64 d.cut.op), .t (.str d.cut.atom.name), .t (tmS d.cut.atom.args), .t (.str d.cut.var), .t (fmS d.cut.parts), .t (dvS d.parts)])] [(448, ⟨true, 2, L.map sqC, 0, true⟩)]) (fun k => k <= L.length /\ same L (d.parts.map Dv.seq) = same (L.drop k) ((d.parts.drop k).map Dv.seq)) (fun k => L.length - k) 0 (zac ?_) ⟨Nat.zero_le _, by rw [List.drop_zero, List.drop_zero]⟩ ?_
    ·simp -implicitDefEqProofs only [go_sem]
    ·rintro k ⟨hk, hr⟩
     by_cases hlt : k < L.length
     ·have hk2 : k < d.parts.length := by omega
      have HS := qgb L[k] d.parts[k].seq
      simp only [sqD, zah] at HS
      rw [List.drop_eq_getElem_cons hlt, List.drop_eq_getElem_cons hk2, List.map_cons, zby] at hr
      simp -implicitDefEqProofs only [go_sem, hlt]
      refine drawn (by kernel_rfl) ?_
      simp -implicitDefEqProofs only [go_sem, zaf, hlt, hk2, zah L[k], zax d.parts[k]]
      refine zam (HS) (by simp -implicitDefEqProofs only [go_sem]) ?_
      simp -implicitDefEqProofs only [go_sem]
      refine ⟨by kernel_rfl, fun h => ?_, fun h => ?_⟩
      ·rw [hr, show same L[k] d.parts[k].seq = false by simpa using h]; rfl
      ·rw [show same L[k] d.parts[k].seq = true by simpa using h, Bool.true_and] at hr
       rw [zap (by omega)]
       exact ⟨k + 1, ⟨hlt, hr⟩, by omega, zac (by simp -implicitDefEqProofs only [go_sem])⟩
     ·rw [List.drop_of_length_le (by omega), List.drop_of_length_le (by omega), List.map_nil, zdl] at hr
      rw [hr]
      simp -implicitDefEqProofs only [go_sem, hlt]
def wrR (p : List Int) (R : List Int × Bool) : List Int := if R.2 = true then p ++ R.1 else []
set_option maxHeartbeats 2000000 in
theorem zsq (a : Dv) (hdw : a.wt <= 1048576) (H : ∀ x ∈ a.parts, ∀ p : List Int, p.length + x.nodes <= 4000000 -> RC Tryz.prog 95 [dvD x, .one (zhx p)] [.one (zhx (wrR p (fwD x))), bD (fwD x).2]) (p : List Int) (hp : p.length + a.nodes <= 4000000) : RC Tryz.prog 95 [dvD a, .one (zhx p)] [.one (zhx (wrR p (fwD a))), bD (fwD a).2] := by
 have hW := a.wt_eq
 have hn := a.nodes_eq
 have HN := qb2 a hdw
 rw [zuv]
 simp only [dvD, zax a] at HN ⊢
 cases hr : qjx a.seq a
 ·rw [hr] at HN
  rw [if_neg (by simp)]
  show RC _ _ _ [.one (zhx (p ++ [])), bD true]
  rw [List.append_nil]
  refine zbg Tryz.call95 Tryz.func95 rfl (by kernel_rfl) (zau (by kernel_rfl)) ?_
  simp -implicitDefEqProofs only [go_sem, Tryz.results95]
  refine callF (HN) (by simp -implicitDefEqProofs only [go_sem]) ?_
  simp -implicitDefEqProofs only [go_sem]
 ·rw [hr] at HN
  rw [if_pos rfl]
  have hrec0 : fwL 0 (a.parts.map fwD) = fwL 0 ((a.parts.drop 0).map fwD) := by rw [List.drop_zero]
  generalize fwL 0 (a.parts.map fwD) = X at hrec0 ⊢
  refine zbg Tryz.call95 Tryz.func95 rfl (by kernel_rfl) (zau (by kernel_rfl)) ?_
  simp -implicitDefEqProofs only [go_sem, Tryz.results95]
  refine callF (HN) (by simp -implicitDefEqProofs only [go_sem]) ?_
  simp -implicitDefEqProofs only [go_sem]
  refine zae (fun k : Nat => hd [(1, vT (zhx p)), (2, .one (.bx 2 0)), (6, vI k)] [(2, [.t (.int .i64 a.rule), .t (fmS a.seq.left), .t (fmS a.seq.right), .t (.int .i64 a.main), .t (.str a.term.name), .t (tmS a.term.args), .t (.int .i64 a.cut.op), .t (.str a.cut.atom.name), .t (tmS a.cut.atom.args), .t (.str a.cut.var), .t (fmS a.cut.parts), .t (dvS a.parts)])] []) (fun k => k <= a.parts.length /\ X = fwL k ((a.parts.drop k).map fwD)) (fun k => a.parts.length - k) 0 (zac ?_) ⟨Nat.zero_le _, hrec0⟩ ?_
  ·simp -implicitDefEqProofs only [go_sem]
  ·rintro k ⟨hk, hrec⟩
   by_cases hlt : k < a.parts.length
   ·have hxn := zbx Dv.nodes a.parts a.parts[k] (List.getElem_mem hlt)
    have hxn1 : 1 <= a.parts[k].nodes := by have := a.parts[k].nodes_eq; omega
    have HO := qm7 p (by omega)
    have HC := H a.parts[k] (List.getElem_mem hlt) (p ++ [(k : Int)]) (by rw [List.length_append]; simp; omega)
    rw [List.drop_eq_getElem_cons hlt, List.map_cons, fwL] at hrec
    generalize fwD a.parts[k] = B at HC hrec
    obtain ⟨R, b⟩ := B
    simp only at HC hrec
    have hap : p.length <= 4294967295 := by omega
    simp only [dvD, zax a.parts[k], wrR, zhx, List.map_append, List.map_cons, List.map_nil] at HC
    cases b
    ·rw [if_neg (by simp)] at hrec
     rw [if_neg (by simp)] at HC
     simp -implicitDefEqProofs only [go_sem, hlt]
     refine drawn (by kernel_rfl) ?_
     simp -implicitDefEqProofs only [go_sem, hlt, zaf, zax a.parts[k]]
     refine zam (HO) (by simp -implicitDefEqProofs only [go_sem]) ?_
     simp -implicitDefEqProofs only [go_sem]
     refine zbv (by simp -implicitDefEqProofs only [go_sem]) ?_
     simp -implicitDefEqProofs only [go_sem]
     refine zpy true (by simp -implicitDefEqProofs only [go_sem, ne_eq, List.length_map, hap]) ?_
     simp -implicitDefEqProofs only [go_sem, ne_eq, List.length_map, hap]
     refine qd3 864 HC (by simp -implicitDefEqProofs only [go_sem]) ?_
     simp -implicitDefEqProofs only [go_sem]
     refine ⟨by kernel_rfl, k + 1, ⟨hlt, hrec⟩, by omega, zac ?_⟩
     simp -implicitDefEqProofs only [go_sem]
     rw [zap (by omega)]
    ·rw [if_pos rfl] at hrec
     rw [if_pos rfl] at HC
     have hX : zhx (wrR p X) = .sl 1 ((p ++ [(k : Int)] ++ R).map fun s => [.int .i64 s]) := by
      rw [hrec]
      show zhx (p ++ ((k : Int) :: R)) = _
      rw [show p ++ ((k : Int) :: R) = p ++ [(k : Int)] ++ R by simp]
     have hX2 : X.2 = true := by rw [hrec]
     rw [hX, hX2]
     simp only [List.map_append, List.map_cons, List.map_nil]
     simp -implicitDefEqProofs only [go_sem, hlt]
     refine drawn (by kernel_rfl) ?_
     simp -implicitDefEqProofs only [go_sem, hlt, zaf, zax a.parts[k]]
     refine zam (HO) (by simp -implicitDefEqProofs only [go_sem]) ?_
     simp -implicitDefEqProofs only [go_sem]
     refine zbv (by simp -implicitDefEqProofs only [go_sem]) ?_
     simp -implicitDefEqProofs only [go_sem]
     refine zpy true (by simp -implicitDefEqProofs only [go_sem, ne_eq, List.length_map, hap]) ?_
     simp -implicitDefEqProofs only [go_sem, ne_eq, List.length_map, hap]
     refine qd3 864 HC (by simp -implicitDefEqProofs only [go_sem]) ?_
     simp -implicitDefEqProofs only [go_sem]
     refine ⟨by kernel_rfl, ?_⟩
     simp only [List.map_append, List.map_cons, List.map_nil]
   ·rw [List.drop_of_length_le (by omega)] at hrec
    have hX : zhx (wrR p X) = .sl 1 [] := by rw [hrec]; rfl
    have hX2 : X.2 = false := by rw [hrec]; rfl
    rw [hX, hX2]
    simp -implicitDefEqProofs only [go_sem, hlt]
    refine zal (by simp -implicitDefEqProofs only [go_sem]) ?_
    simp -implicitDefEqProofs only [go_sem]
end Go.Proofs.YtemnhgmgeijkcaaGreat
namespace Go.Proofs.YtemnhgmgeijkcaaGreat
set_option linter.unusedSimpArgs false
set_option linter.unusedVariables false
set_option linter.unusedSectionVars false
set_option maxRecDepth 4000
open Go.RowKit
def zmq : Int -> Nat -> Int × Nat
 | o0, k => (((k : Nat) : Int), (k + 1))
def zhy : List Int -> Nat -> List Int × Nat
 | [], k => ([], k)
 | a :: xs, k => ((zmq a k).1 :: (zhy xs (zmq a k).2).1, (zhy xs (zmq a k).2).2)
def zrl : Int -> Nat
 | _ => 1 + 1
def zqq : List Int -> Nat
 | [] => 0
 | a :: xs => zrl a + zqq xs
theorem qis : ∀ (a : Int) (k : Nat), k <= (zmq a k).2 /\ (zmq a k).2 <= k + zrl a
 | o0, k => by simp only [zmq, zrl]; omega
theorem zz9 : ∀ (xs : List Int) (k : Nat), k <= (zhy xs k).2 /\ (zhy xs k).2 <= k + zqq xs
 | [], k => ⟨Nat.le_refl _, Nat.le_refl _⟩
 | a :: xs, k => by have h1 := qis a k; have h2 := zz9 xs (zmq a k).2; simp only [zhy, zqq]; omega
theorem zpr : ∀ xs : List Int, xs.length <= zqq xs
  | [] => Nat.le_refl _
  | a :: xs => by have := zpr xs; have : 1 <= zrl a := by simp only [zrl]; omega
                  simp only [List.length_cons, zqq]; omega
theorem zt4 (xs : List Int) :
  ∀ k : Nat, 0 < k -> k + zqq xs <= 4611686018427387904 -> IC Tryz.prog 28 [] (.one (zhx xs)) [iD k] (.one (zhx (zhy xs k).1)) [iD (zhy xs k).2] := by
 intro k h0 hk
 refine zp4 Tryz.call28 Tryz.func28 rfl (by kernel_rfl) (by simp only [zdf, rd, List.map_cons, List.map_nil, List.nil_append, List.length_cons, List.length_nil, Tryz.ntmps28]; omega) (by simp only [Tryz.ntmps28]; omega) (fun vs => ?_)
 simp -implicitDefEqProofs only [go_sem, Tryz.results28, zxx, zji, zdf, PI]
 refine zae (fun (x : List Int × List Int × Nat) => hd [(0, .one (.ow 0 0)), (1000000, .one (.ow 0 0)), (1, vI x.2.2), (5, vI x.1.length)] [] [(0, ⟨true, 1, x.1.map (fun s => [T.int .i64 s]) ++ zd2 vs x.1.length (x.2.1.map (fun s => [T.int .i64 s])), 0, true⟩)])
  (fun x => (zhy xs k).1 = x.1 ++ (zhy x.2.1 x.2.2).1 /\ (zhy xs k).2 = (zhy x.2.1 x.2.2).2 /\ 0 < x.2.2 /\ x.2.2 + zqq x.2.1 <= 4611686018427387904 /\ x.1.length + x.2.1.length = xs.length /\ ∀ a ∈ x.2.1, a ∈ xs) (fun x => x.2.1.length) ([], xs, k) (zac ?_) ?_ ?_
 ·simp -implicitDefEqProofs only [go_sem]
 ·exact ⟨rfl, rfl, h0, hk, by simp, fun _ h => h⟩
 ·intro ⟨dn, rest, kk⟩ ⟨h1, h2, h3, h4, h6, h5⟩
  simp only at h1 h2 h3 h4 h5 h6
  cases rest with
  | nil =>
   simp only [zhy, List.append_nil] at h1 h2
   simp -implicitDefEqProofs only [go_sem, h1, h2]
  | cons o0 rest =>
   simp only [zhy, zmq, zqq, zrl] at h1 h2 h4
   have w0 : IntKind.i64.wrap (((kk : Nat) : Int) + 1) = ((kk + 1 : Nat) : Int) := zap (by omega)
   have hln := zpr xs
   rw [List.length_cons] at h6
   have wl : IntKind.i64.wrap ((dn.length : Int) + 1) = ((dn.length + 1 : Nat) : Int) := zap (by omega)
   simp -implicitDefEqProofs only [go_sem, List.map_cons]
   refine zek (by simp -implicitDefEqProofs only [go_sem, implies_true, w0]) ?_
   simp -implicitDefEqProofs only [go_sem, implies_true, w0]
   refine ⟨(dn ++ [((kk : Nat) : Int)], rest, (kk + 1)), ⟨by simpa using h1, h2, by show 0 < (kk + 1); omega, by show (kk + 1) + zqq rest <= _; omega, by simp; omega, fun b hb => h5 b (by simp [hb])⟩, by simp, zac ?_⟩
   simp -implicitDefEqProofs only [go_sem, wl, List.map_cons, List.map_append, List.append_assoc]
theorem zx8 (xs : List Int) (k : Nat) (h0 : 0 < k) (hk : k + zqq xs <= 4611686018427387904) : IC Tryz.prog 28 [] (.one (zhx xs)) [iD k] (.one (zhx (zhy xs k).1)) [iD (zhy xs k).2] := zt4 xs k h0 hk
theorem zs9 (xs : List Int) :
  ∀ k : Nat, 0 < k -> k + zqq xs <= 4611686018427387904 -> FC Tryz.prog 29 [.one (zhx (zhy xs k).1), iD k] [iD (zhy xs k).2] := by
 intro k h0 hk
 refine zag Tryz.call29 Tryz.func29 rfl (by kernel_rfl) (zau (by kernel_rfl)) ?_
 simp -implicitDefEqProofs only [go_sem, Tryz.results29]
 refine zae (fun (x : List Int × List Int × Nat) => hd [(0, vT (.sl 1 (x.1.map (fun s => [T.int .i64 s]) ++ (zhy x.2.1 x.2.2).1.map (fun s => [T.int .i64 s])))), (1, vI x.2.2), (5, vI x.1.length)] [] [])
  (fun x => (zhy xs k).1 = x.1 ++ (zhy x.2.1 x.2.2).1 /\ (zhy xs k).2 = (zhy x.2.1 x.2.2).2 /\ 0 < x.2.2 /\ x.2.2 + zqq x.2.1 <= 4611686018427387904 /\ x.1.length + x.2.1.length = xs.length /\ ∀ a ∈ x.2.1, a ∈ xs) (fun x => x.2.1.length) ([], xs, k) (zac ?_) ?_ ?_
 ·simp -implicitDefEqProofs only [go_sem]
 ·exact ⟨rfl, rfl, h0, hk, by simp, fun _ h => h⟩
 ·intro ⟨dn, rest, kk⟩ ⟨h1, h2, h3, h4, h6, h5⟩
  simp only at h1 h2 h3 h4 h5 h6
  cases rest with
  | nil =>
   simp only [zhy, List.append_nil] at h1 h2
   simp -implicitDefEqProofs only [go_sem, h2, zhy]
  | cons o0 rest =>
   simp only [zhy, zmq, zqq, zrl] at h1 h2 h4
   have w0 : IntKind.i64.wrap (((kk : Nat) : Int) + 1) = ((kk + 1 : Nat) : Int) := zap (by omega)
   have hln := zpr xs
   rw [List.length_cons] at h6
   have wl : IntKind.i64.wrap ((dn.length : Int) + 1) = ((dn.length + 1 : Nat) : Int) := zap (by omega)
   simp -implicitDefEqProofs only [go_sem, zhy, zmq, List.map_cons]
   simp only [bne_self_eq_false]
   simp -implicitDefEqProofs only [go_sem, w0]
   refine ⟨(dn ++ [((kk : Nat) : Int)], rest, (kk + 1)), ⟨by simpa using h1, h2, by show 0 < (kk + 1); omega, by show (kk + 1) + zqq rest <= _; omega, by simp; omega, fun b hb => h5 b (by simp [hb])⟩, by simp, zac ?_⟩
   simp -implicitDefEqProofs only [go_sem, wl, List.map_cons, List.map_append, List.append_assoc]
theorem zyg (xs : List Int) (k : Nat) (h0 : 0 < k) (hk : k + zqq xs <= 4611686018427387904) : FC Tryz.prog 29 [.one (zhx (zhy xs k).1), iD k] [iD (zhy xs k).2] := zs9 xs k h0 hk
theorem qi9 (xs ys : List Int) : FC Tryz.prog 27 [.one (zhx xs), .one (zhx ys)] [bD (same xs ys)] := by
 refine zc8 (fun hw => ?_) Tryz.call27
 have hl : xs.length <= 9223372036854775807 := by simpa [ze9, wfT] using hw.1.1
 have hl2 : ys.length <= 9223372036854775807 := by simpa [ze9, wfT] using hw.2.1.1
 refine zag Tryz.call27 Tryz.func27 rfl (by kernel_rfl) (zau (by kernel_rfl)) ?_
 simp -implicitDefEqProofs only [go_sem, Tryz.results27]
 refine ⟨fun h => ?_, fun h => ?_⟩
 ·rw [zbp.2 (by rintro rfl; simp at h)]
 ·have hlen : xs.length = ys.length := by simp at h; omega
  refine zae (fun k : Nat => hd [(0, vT (zhx xs)), (1, vT (zhx ys)), (4, vB false), (5, vI k)] [] []) (fun k => k <= xs.length /\ same xs ys = same (xs.drop k) (ys.drop k)) (fun k => xs.length - k) 0 (zac ?_) ?_ ?_
  ·simp -implicitDefEqProofs only [go_sem]
  ·simp
  ·intro k ⟨hk, hr⟩
   by_cases hlt : k < xs.length
   ·have hk2 : k < ys.length := by omega
    simp -implicitDefEqProofs only [go_sem, List.length_map, hlt]
    refine drawn (by kernel_rfl) ?_
    simp -implicitDefEqProofs only [go_sem, List.length_map, zaf, hlt, hk2]
    refine ⟨by kernel_rfl, fun h => ?_, fun h => ?_⟩
    ·rw [hr, List.drop_eq_getElem_cons hlt, List.drop_eq_getElem_cons hk2, zby, show same xs[k] ys[k] = false from zbp.2 (by simpa using h)]; rfl
    ·rw [List.drop_eq_getElem_cons hlt, List.drop_eq_getElem_cons hk2, zby, show same xs[k] ys[k] = true from zbu.2 (by simpa using h), Bool.true_and] at hr
     rw [zap (by omega)]
     exact ⟨k + 1, ⟨by omega, hr⟩, by omega, zac (by simp -implicitDefEqProofs only [go_sem])⟩
   ·simp -implicitDefEqProofs only [go_sem, List.length_map, hlt]
    rw [hr, List.drop_of_length_le (by omega), List.drop_of_length_le (by omega), zdl]
theorem qdn : ∀ xs : List Int, zqq xs = 2 * xs.length
 | [] => rfl
 | a :: xs => by rw [zqq, qdn xs, zrl, List.length_cons]; omega
end Go.Proofs.YtemnhgmgeijkcaaGreat
namespace Go.Proofs.YtemnhgmgeijkcaaGreat
set_option linter.unusedSimpArgs false
set_option linter.unusedVariables false
set_option linter.unusedSectionVars false
set_option maxRecDepth 4000
open Go.RowKit
theorem zxv : ∀ a : Dv, a.wt <= 1048576 -> ∀ p : List Int, p.length + a.nodes <= 4000000 -> RC Tryz.prog 95 [dvD a, .one (zhx p)] [.one (zhx (wrR p (fwD a))), bD (fwD a).2] :=
 zfc fun b0 b1 b2 b3 b4 xs ih hdw => zsq (.mk b0 b1 b2 b3 b4 xs) hdw fun x hx => ih x hx (Nat.le_trans (zgw (a := .mk b0 b1 b2 b3 b4 xs) hx) hdw)
theorem qm0 (d : Dv) : wrR [] (fwD d) = (fwD d).1 := by
 unfold wrR
 split
 ·rfl
 ·rename_i h
  rw [fwD_no d (by simpa using h)]
theorem zvl (d : Dv) (hdw : d.wt <= 1048576) : RC Tryz.prog 95 [dvD d, .one (.sl 1 [])] [.one (zhx (fwD d).1), bD (fwD d).2] := by
 have h := zxv d hdw [] (by have := zh6 d; simp only [List.length_nil]; omega)
 rw [qm0] at h
 exact h
theorem qlr (d : Dv) : (zeo d 60 > 60) = ¬ (d.nodes <= 60) := by
 have h := qhy d 60
 rw [decide_eq_decide] at h
 have h : zeo d 60 <= 60 ↔ d.nodes <= 60 := h
 rw [<- h]
 exact propext ⟨fun h1 h2 => by omega, fun h1 => by omega⟩
theorem zha (d : Dv) (hdw : d.wt <= 1048576) : RC Tryz.prog 45 [dvD d] [.one (zhx (zud d).1), bD (zud d).2.1, bD (zud d).2.2] := by
 have HN := zr2 d (by omega) 60 (by omega) (by omega)
 have HF := zvl d hdw
 have hm := qlr d
 unfold zud
 generalize zeo d 60 = n at HN hm
 simp only [dvD, zax d] at HN HF ⊢
 by_cases h : d.nodes <= 60
 ·rw [if_pos h]
  have hn : (n > 60) = False := by rw [hm]; simp [h]
  refine zbg Tryz.call45 Tryz.func45 rfl (by kernel_rfl) (zau (by kernel_rfl)) ?_
  simp -implicitDefEqProofs only [go_sem, Tryz.results45]
  refine callF (HN) (by simp -implicitDefEqProofs only [go_sem, hn]) ?_
  simp -implicitDefEqProofs only [go_sem, hn]
  refine qlu (by simp -implicitDefEqProofs only [go_sem]) ?_
  simp -implicitDefEqProofs only [go_sem]
  refine callR (HF) (by simp -implicitDefEqProofs only [go_sem]) ?_
  simp -implicitDefEqProofs only [go_sem]
 ·rw [if_neg h]
  have hn : (n > 60) = True := by rw [hm]; simp [h]
  show RC _ _ _ [.one (.sl 1 []), _, _]
  refine zbg Tryz.call45 Tryz.func45 rfl (by kernel_rfl) (zau (by kernel_rfl)) ?_
  simp -implicitDefEqProofs only [go_sem, Tryz.results45]
  refine callF (HN) (by simp -implicitDefEqProofs only [go_sem, hn]) ?_
  simp -implicitDefEqProofs only [go_sem, hn]
  refine zal (by simp -implicitDefEqProofs only [go_sem]) ?_
  simp -implicitDefEqProofs only [go_sem]
theorem zxj (d : Dv) (hdw : d.wt <= 1048576) : FC Tryz.prog 93 [dvD d] [bD (vdOk d)] := by
 have HN := zr2 d (by omega) 60 (by omega) (by omega)
 have HF := zvl d hdw
 have hm := qlr d
 unfold vdOk zud
 generalize zeo d 60 = n at HN hm
 simp only [dvD, zax d] at HN HF ⊢
 by_cases h : d.nodes <= 60
 ·rw [if_pos h]
  have hn : (n > 60) = False := by rw [hm]; simp [h]
  rw [Bool.true_and]
  refine zag Tryz.call93 Tryz.func93 rfl (by kernel_rfl) (zau (by kernel_rfl)) ?_
  simp -implicitDefEqProofs only [go_sem, Tryz.results93]
  refine callF (HN) (by simp -implicitDefEqProofs only [go_sem, hn]) ?_
  simp -implicitDefEqProofs only [go_sem, hn]
  refine qlu (by simp -implicitDefEqProofs only [go_sem]) ?_
  simp -implicitDefEqProofs only [go_sem]
  refine callR (HF) (by simp -implicitDefEqProofs only [go_sem]) ?_
  simp -implicitDefEqProofs only [go_sem]
 ·rw [if_neg h]
  have hn : (n > 60) = True := by rw [hm]; simp [h]
  show FC _ _ _ [bD false]
  refine zag Tryz.call93 Tryz.func93 rfl (by kernel_rfl) (zau (by kernel_rfl)) ?_
  simp -implicitDefEqProofs only [go_sem, Tryz.results93]
  refine callF (HN) (by simp -implicitDefEqProofs only [go_sem, hn]) ?_
  simp -implicitDefEqProofs only [go_sem, hn]
theorem zgx (d : Dv) (hdw : d.wt <= 1048576) : FC Tryz.prog 43 [dvD d] [bD (vdOk d)] := by
 have H := zxj d hdw
 simp only [dvD, zax d] at H ⊢
 refine zag Tryz.call43 Tryz.func43 rfl (by kernel_rfl) (zau (by kernel_rfl)) ?_
 simp -implicitDefEqProofs only [go_sem, Tryz.results43]
 refine callF (H) (by simp -implicitDefEqProofs only [go_sem]) ?_
 simp -implicitDefEqProofs only [go_sem]
set_option maxHeartbeats 2000000 in
theorem qmv (d : Dv) : FC Tryz.prog 7 [dvD d] [bD true] := by
 have HZ := ze1 d 1048576 (by omega) (by omega)
 simp only [dvD, zax d] at HZ ⊢
 refine zf2 Tryz.call7 Tryz.func7 rfl (by kernel_rfl) (zau (by kernel_rfl)) ?_
 simp -implicitDefEqProofs only [go_sem, Tryz.results7]
 refine callF (HZ) (by simp -implicitDefEqProofs only [go_sem]) ?_
 simp -implicitDefEqProofs only [go_sem]
 refine ⟨fun h => trivial, fun h => ?_⟩
 have hw : d.wt <= 1048576 := by have := (zc4 (by simpa using h)).1; omega
 have HS := zgx d hw
 have HI := zho d hw
 have HT := zey d hw
 have HE := zez d d
 generalize vdOk d = G at HS HI
 simp only [dvD, zax d] at HS HI HT HE
 have n1 : ∀ b : Bool, (!(b == b)) = false := by decide
 have n2 : ∀ b : Bool, (b != b) = false := by decide
 refine callF (HT) (by simp -implicitDefEqProofs only [go_sem]) ?_
 simp -implicitDefEqProofs only [go_sem]
 refine callF (HS) (by simp -implicitDefEqProofs only [go_sem]) ?_
 simp -implicitDefEqProofs only [go_sem]
 refine callF (HT) (by simp -implicitDefEqProofs only [go_sem]) ?_
 simp -implicitDefEqProofs only [go_sem]
 refine callF (HI) (by simp -implicitDefEqProofs only [go_sem, n1, n2]) ?_
 simp -implicitDefEqProofs only [go_sem, n1, n2]
 refine drawn (by kernel_rfl) ?_
 simp -implicitDefEqProofs only [go_sem]
 refine zam (HT) (by simp -implicitDefEqProofs only [go_sem]) ?_
 simp -implicitDefEqProofs only [go_sem]
 refine zam (HE) (by simp -implicitDefEqProofs only [go_sem]) ?_
 simp -implicitDefEqProofs only [go_sem]
 refine ⟨by kernel_rfl, fun h => ?_, fun _ => trivial⟩
 simp [za6] at h
end Go.Proofs.YtemnhgmgeijkcaaGreat
namespace Go.Proofs.YtemnhgmgeijkcaaGreat
set_option linter.unusedSimpArgs false
set_option linter.unusedVariables false
set_option linter.unusedSectionVars false
set_option maxRecDepth 4000
open Go.RowKit
theorem qiv (d : Dv) : (zud d).1.length <= 60 := by
 unfold zud
 split
 ·have := qbu d; simp only; omega
 ·simp
set_option maxHeartbeats 4000000 in
theorem qhq (d : Dv) : FC Tryz.prog 8 [dvD d] [bD true] := by
 have HZ := ze1 d 1048576 (by omega) (by omega)
 simp only [dvD, zax d] at HZ ⊢
 refine zf2 Tryz.call8 Tryz.func8 rfl (by kernel_rfl) (zau (by kernel_rfl)) ?_
 simp -implicitDefEqProofs only [go_sem, Tryz.results8]
 refine callF (HZ) (by simp -implicitDefEqProofs only [go_sem]) ?_
 simp -implicitDefEqProofs only [go_sem]
 refine ⟨fun h => trivial, fun h => ?_⟩
 have hw : d.wt <= 1048576 := by have := (zc4 (by simpa using h)).1; omega
 have HS := zha d hw
 have HI := zf6 d hw
 have HT := zey d hw
 have HE := zez d d
 have hrl := qiv d
 generalize zud d = A at HS HI hrl
 obtain ⟨R, G, G2⟩ := A
 simp only at HS HI hrl
 have HF := qi9 R R
 simp only [dvD, zax d] at HS HI HT HE
 refine callF (HT) (by simp -implicitDefEqProofs only [go_sem]) ?_
 simp -implicitDefEqProofs only [go_sem]
 refine qh1 769 rfl rfl ?_
 simp -implicitDefEqProofs only [go_sem]
 refine qh1 770 rfl rfl ?_
 simp -implicitDefEqProofs only [go_sem]
 refine qh1 773 rfl rfl ?_
 simp -implicitDefEqProofs only [go_sem]
 refine qh1 776 rfl rfl ?_
 simp -implicitDefEqProofs only [go_sem]
 refine qh1 778 rfl rfl ?_
 simp -implicitDefEqProofs only [go_sem]
 refine qh1 779 rfl rfl ?_
 simp -implicitDefEqProofs only [go_sem]
 refine callRn (HS) (by simp -implicitDefEqProofs only [go_sem]) ?_
 simp -implicitDefEqProofs only [go_sem]
 refine callF (HT) (by simp -implicitDefEqProofs only [go_sem]) ?_
 simp -implicitDefEqProofs only [go_sem]
 refine callF (HI) (by simp -implicitDefEqProofs only [go_sem]) ?_
 simp -implicitDefEqProofs only [go_sem]
 refine callF (HF) (by simp -implicitDefEqProofs only [go_sem, za6, beq_self_eq_true, Bool.not_true]) ?_
 simp -implicitDefEqProofs only [go_sem, za6, beq_self_eq_true, Bool.not_true]
 refine drawn (by kernel_rfl) ?_
 simp -implicitDefEqProofs only [go_sem]
 refine zam (HT) (by simp -implicitDefEqProofs only [go_sem]) ?_
 simp -implicitDefEqProofs only [go_sem]
 refine zam (HE) (by simp -implicitDefEqProofs only [go_sem]) ?_
 simp -implicitDefEqProofs only [go_sem]
 refine ⟨by kernel_rfl, fun h => ?_, fun _ => ?_⟩
 ·simp [za6] at h
 have hcD := zf7 d
 have hcR := qdn R
 have HM1 := zf9 d 1 (by omega) (by omega)
 have hm1 := zf5 d 1
 have HM2 := zx8 R 1 (by omega) (by omega)
 have HL := zyg R 1 (by omega) (by omega)
 have hmR := (zz9 R 1).1
 rw [zef] at HM1
 generalize (zaw d 1).2 = k3 at HM1 hm1
 generalize (zaw d 1).1.seq.left = f3 at HM1
 generalize (zaw d 1).1.seq.right = f4 at HM1
 generalize (zaw d 1).1.term.args = f5 at HM1
 generalize (zaw d 1).1.cut.atom.args = f6 at HM1
 generalize (zaw d 1).1.cut.parts = f7 at HM1
 generalize (zaw d 1).1.parts = f8 at HM1
 generalize (zhy R 1).2 = k2 at HM2 HL hmR
 generalize (zhy R 1).1 = r1 at HM2 HL
 simp only [zax d] at HM1
 refine zf0 [1, 4, 5, 6, 7, 8, 9, 10, 56, 57] (HM1) (by simp -implicitDefEqProofs only [go_sem]) (by simp -implicitDefEqProofs only [go_sem]) (by simp -implicitDefEqProofs only [go_sem]) (by simp -implicitDefEqProofs only [go_sem]) (by simp -implicitDefEqProofs only [go_sem]) rfl ?_
 simp -implicitDefEqProofs only [go_sem]
 refine callF (HF) (by simp -implicitDefEqProofs only [go_sem, za6, beq_self_eq_true, Bool.not_true]) ?_
 simp -implicitDefEqProofs only [go_sem, za6, beq_self_eq_true, Bool.not_true]
 refine zf0 [1, 4, 5, 6, 8, 9, 10, 77, 78] (HM2) (by simp -implicitDefEqProofs only [go_sem]) (by simp -implicitDefEqProofs only [go_sem]) (by simp -implicitDefEqProofs only [go_sem]) (by simp -implicitDefEqProofs only [go_sem]) (by simp -implicitDefEqProofs only [go_sem]) rfl ?_
 simp -implicitDefEqProofs only [go_sem]
 refine callF (HL) (by simp -implicitDefEqProofs only [go_sem]) ?_
 simp -implicitDefEqProofs only [go_sem]
 refine ⟨fun h => by simp at h, fun _ => ?_⟩
 refine callF (HT) (by simp -implicitDefEqProofs only [go_sem]) ?_
 simp -implicitDefEqProofs only [go_sem]
 refine callF (HI) (by simp -implicitDefEqProofs only [go_sem]) ?_
 simp -implicitDefEqProofs only [go_sem]
 refine callF (HF) (by simp -implicitDefEqProofs only [go_sem, za6, beq_self_eq_true, Bool.not_true]) ?_
 simp -implicitDefEqProofs only [go_sem, za6, beq_self_eq_true, Bool.not_true]
 refine callF (HL) (by simp -implicitDefEqProofs only [go_sem]) ?_
 simp -implicitDefEqProofs only [go_sem]
 refine ⟨fun h => by simp at h, fun _ => trivial⟩
end Go.Proofs.YtemnhgmgeijkcaaGreat
