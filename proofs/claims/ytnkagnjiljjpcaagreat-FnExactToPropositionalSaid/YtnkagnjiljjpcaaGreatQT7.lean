/-
  The walk over plain data, and contracts of functions of the program and of its laws.
  Conditions: those that each theorem names.
-/
import Derived.Test.YtnkagnjiljjpcaaGreatQT6
namespace Go.Proofs.YtnkagnjiljjpcaaGreat
set_option linter.unusedSimpArgs false
set_option linter.unusedVariables false
set_option linter.unusedSectionVars false
set_option maxRecDepth 4000
open Go.RowKit
theorem zwu (xs ys : List (List Int)) : FC Tryz.prog 18 [.one (zff xs), .one (zff ys)] [bD (same xs ys)] := by
 refine zbz (fun hw => ?_) Tryz.call18
 have hl : xs.length <= 9223372036854775807 := by simpa [zd4, wfT] using hw.1.1
 by_cases hne : xs.length = ys.length
 ·have hni : ((xs.length : Int) != (ys.length : Int)) = false := by rw [hne]; simp
  refine zan Tryz.call18 Tryz.func18 rfl (by kernel_rfl) (za2 (by kernel_rfl)) ?_
  simp -implicitDefEqProofs only [go_sem, Tryz.results18, hni]
  refine zaf (fun k : Nat => hd [(0, vT (zff xs)), (1, vT (zff ys)), (5, vI k)] [] []) (fun k => k <= xs.length /\ same xs ys = same (xs.drop k) (ys.drop k)) (fun k => xs.length - k) 0 (zab ?_) ?_ ?_
  ·simp -implicitDefEqProofs only [go_sem]
  ·simp
  ·intro k ⟨hk, hr⟩
   by_cases hlt : k < xs.length
   ·have hlt2 : k < ys.length := by omega
    have hwk : IntKind.i64.wrap ((k : Int) + 1) = ((k + 1 : Nat) : Int) := zam (by omega)
    have HE := zyq xs[k] ys[k]
    rw [List.drop_eq_getElem_cons hlt, List.drop_eq_getElem_cons hlt2, zbn] at hr
    simp -implicitDefEqProofs only [go_sem, hlt]
    refine drawn (by kernel_rfl) ?_
    simp -implicitDefEqProofs only [go_sem, zae, hlt, hlt2]
    refine za0 (HE) (by simp -implicitDefEqProofs only [go_sem]) ?_
    simp -implicitDefEqProofs only [go_sem]
    refine ⟨by kernel_rfl, ?_⟩
    rw [hwk]
    refine ⟨fun h => ?_, fun h => ⟨k + 1, ⟨hlt, ?_⟩, by omega, zab (by simp -implicitDefEqProofs only [go_sem])⟩⟩
    ·rw [hr, show same xs[k] ys[k] = false by simpa using h, Bool.false_and]
    ·rw [hr, show same xs[k] ys[k] = true by simpa using h, Bool.true_and]
   ·simp -implicitDefEqProofs only [go_sem, hlt]
    rw [hr, List.drop_of_length_le (by omega), List.drop_of_length_le (by omega), zau]
 ·have hni : ((xs.length : Int) != (ys.length : Int)) = true := by simp; omega
  refine zan Tryz.call18 Tryz.func18 rfl (by kernel_rfl) (za2 (by kernel_rfl)) ?_
  simp -implicitDefEqProofs only [go_sem, Tryz.results18, hni]
  rw [zbb.2 (fun e => hne (by rw [e]))]
end Go.Proofs.YtnkagnjiljjpcaaGreat
namespace Go.Proofs.YtnkagnjiljjpcaaGreat
set_option linter.unusedSimpArgs false
set_option linter.unusedVariables false
set_option linter.unusedSectionVars false
set_option maxRecDepth 4000
open Go.RowKit
def zd5 : (List Int) -> Nat -> (List Int) × Nat
 | s0, k => ((zdg s0 k).1, (zdg s0 k).2)
def zbv : List (List Int) -> Nat -> List (List Int) × Nat
 | [], k => ([], k)
 | a :: xs, k => ((zd5 a k).1 :: (zbv xs (zd5 a k).2).1, (zbv xs (zd5 a k).2).2)
def zfj : (List Int) -> Nat
 | s0 => 1 + zkl s0
def zdi : List (List Int) -> Nat
 | [] => 0
 | a :: xs => zfj a + zdi xs
theorem zsr : ∀ (a : (List Int)) (k : Nat), k <= (zd5 a k).2 /\ (zd5 a k).2 <= k + zfj a
 | s0, k => by have h_s0 := zj2 s0 k; simp only [zd5, zfj]; omega
theorem zoq : ∀ (xs : List (List Int)) (k : Nat), k <= (zbv xs k).2 /\ (zbv xs k).2 <= k + zdi xs
 | [], k => ⟨Nat.le_refl _, Nat.le_refl _⟩
 | a :: xs, k => by have h1 := zsr a k; have h2 := zoq xs (zd5 a k).2; simp only [zbv, zdi]; omega
theorem zg7 : ∀ xs : List (List Int), xs.length <= zdi xs
 | [] => Nat.le_refl _
 | a :: xs => by
  have := zg7 xs
  have : 1 <= zfj a := by simp only [zfj]; omega
  simp only [List.length_cons, zdi]; omega
theorem zmq (xs : List (List Int)) :
  ∀ k : Nat, 0 < k -> k + zdi xs <= 4611686018427387904 -> IC Tryz.prog 19 [] (.one (zff xs)) [iD k] (.one (zff (zbv xs k).1)) [iD (zbv xs k).2] := by
 intro k h0 hk
 refine zl4 Tryz.call19 Tryz.func19 rfl (by kernel_rfl) (by simp only [zcw, rd, List.map_cons, List.map_nil, List.nil_append, List.length_cons, List.length_nil, Tryz.ntmps19]; omega) (by simp only [Tryz.ntmps19]; omega) (fun vs => ?_)
 simp -implicitDefEqProofs only [go_sem, Tryz.results19, zrp, zky, zcw, PI]
 refine zaf (fun (x : List (List Int) × List (List Int) × Nat) => hd [(0, .one (.ow 0 0)), (1000000, .one (.ow 0 0)), (1, vI x.2.2), (5, vI x.1.length)] [] [(0, ⟨true, 1, x.1.map (fun s => [zfh s]) ++ zdb vs x.1.length (x.2.1.map (fun s => [zfh s])), 0, true⟩)])
  (fun x => (zbv xs k).1 = x.1 ++ (zbv x.2.1 x.2.2).1 /\ (zbv xs k).2 = (zbv x.2.1 x.2.2).2 /\ 0 < x.2.2 /\ x.2.2 + zdi x.2.1 <= 4611686018427387904 /\ x.1.length + x.2.1.length = xs.length /\ ∀ a ∈ x.2.1, a ∈ xs) (fun x => x.2.1.length) ([], xs, k) (zab ?_) ?_ ?_
 ·simp -implicitDefEqProofs only [go_sem]
 ·exact ⟨rfl, rfl, h0, hk, by simp, fun _ h => h⟩
 ·intro ⟨dn, rest, kk⟩ ⟨h1, h2, h3, h4, h6, h5⟩
  simp only at h1 h2 h3 h4 h5 h6
  cases rest with
  | nil =>
   simp only [zbv, List.append_nil] at h1 h2
   simp -implicitDefEqProofs only [go_sem, h1, h2]
  | cons s0 rest =>
   simp only [zbv, zd5, zdi, zfj] at h1 h2 h4
   have hc_s0 := zj2 s0 kk
   have hln := zg7 xs
   rw [List.length_cons] at h6
   have wl : IntKind.i64.wrap ((dn.length : Int) + 1) = ((dn.length + 1 : Nat) : Int) := zam (by omega)
   simp -implicitDefEqProofs only [go_sem, List.map_cons]
   refine callN (l := [(0, .one (.ow 0 0)), (1000000, .one (.ow 0 0)), (5, vI dn.length), (15, .one (.cv (vs dn.length 0))), (16, vI (kk : Nat))]) (bl := []) (el := [(0, ⟨true, 1, dn.map (fun s => [zfh s]) ++ [.pin (vs dn.length 0) (zfh s0)] :: zdb vs (dn.length + 1) (rest.map (fun s => [zfh s])), 0, true⟩)]) 0 dn.length 0 (zr4 s0 kk (by omega) (by omega)) (by simp -implicitDefEqProofs only [go_sem, zfh]) rfl rfl rfl (by simp -implicitDefEqProofs only [go_sem, zfh]) rfl ?_
   simp -implicitDefEqProofs only [go_sem, wl]
   refine ⟨(dn ++ [(zdg s0 kk).1], rest, (zdg s0 kk).2), ⟨by simpa using h1, h2, by show 0 < (zdg s0 kk).2; omega, by show (zdg s0 kk).2 + zdi rest <= _; omega, by simp; omega, fun b hb => h5 b (by simp [hb])⟩, by simp, zab ?_⟩
   simp -implicitDefEqProofs only [go_sem, wl, List.map_cons, List.map_append, List.append_assoc]
theorem zm4 (xs : List (List Int)) (k : Nat) (h0 : 0 < k) (hk : k + zdi xs <= 4611686018427387904) : IC Tryz.prog 19 [] (.one (zff xs)) [iD k] (.one (zff (zbv xs k).1)) [iD (zbv xs k).2] := zmq xs k h0 hk
end Go.Proofs.YtnkagnjiljjpcaaGreat
namespace Go.Proofs.YtnkagnjiljjpcaaGreat
set_option linter.unusedSimpArgs false
set_option linter.unusedVariables false
set_option linter.unusedSectionVars false
set_option maxRecDepth 4000
open Go.RowKit
theorem zlg (xs : List (List Int)) :
  ∀ k : Nat, 0 < k -> k + zdi xs <= 4611686018427387904 -> FC Tryz.prog 20 [.one (zff (zbv xs k).1), iD k] [iD (zbv xs k).2] := by
 intro k h0 hk
 refine zan Tryz.call20 Tryz.func20 rfl (by kernel_rfl) (za2 (by kernel_rfl)) ?_
 simp -implicitDefEqProofs only [go_sem, Tryz.results20]
 refine zaf (fun (x : List (List Int) × List (List Int) × Nat) => hd [(0, vT (.sl 1 (x.1.map (fun s => [zfh s]) ++ (zbv x.2.1 x.2.2).1.map (fun s => [zfh s])))), (1, vI x.2.2), (5, vI x.1.length)] [] [])
  (fun x => (zbv xs k).1 = x.1 ++ (zbv x.2.1 x.2.2).1 /\ (zbv xs k).2 = (zbv x.2.1 x.2.2).2 /\ 0 < x.2.2 /\ x.2.2 + zdi x.2.1 <= 4611686018427387904 /\ x.1.length + x.2.1.length = xs.length /\ ∀ a ∈ x.2.1, a ∈ xs) (fun x => x.2.1.length) ([], xs, k) (zab ?_) ?_ ?_
 ·simp -implicitDefEqProofs only [go_sem]
 ·exact ⟨rfl, rfl, h0, hk, by simp, fun _ h => h⟩
 ·intro ⟨dn, rest, kk⟩ ⟨h1, h2, h3, h4, h6, h5⟩
  simp only at h1 h2 h3 h4 h5 h6
  cases rest with
  | nil =>
   simp only [zbv, List.append_nil] at h1 h2
   simp -implicitDefEqProofs only [go_sem, h2, zbv]
  | cons s0 rest =>
   simp only [zbv, zd5, zdi, zfj] at h1 h2 h4
   have hc_s0 := zj2 s0 kk
   have hln := zg7 xs
   rw [List.length_cons] at h6
   have wl : IntKind.i64.wrap ((dn.length : Int) + 1) = ((dn.length + 1 : Nat) : Int) := zam (by omega)
   simp -implicitDefEqProofs only [go_sem, zbv, zd5, List.map_cons]
   refine callF (zrd s0 kk (by omega) (by omega)) (by simp -implicitDefEqProofs only [go_sem, wl]) ?_
   simp -implicitDefEqProofs only [go_sem, wl]
   refine ⟨(dn ++ [(zdg s0 kk).1], rest, (zdg s0 kk).2), ⟨by simpa using h1, h2, by show 0 < (zdg s0 kk).2; omega, by show (zdg s0 kk).2 + zdi rest <= _; omega, by simp; omega, fun b hb => h5 b (by simp [hb])⟩, by simp, zab ?_⟩
   simp -implicitDefEqProofs only [go_sem, wl, List.map_cons, List.map_append, List.append_assoc]
theorem zoi (xs : List (List Int)) (k : Nat) (h0 : 0 < k) (hk : k + zdi xs <= 4611686018427387904) : FC Tryz.prog 20 [.one (zff (zbv xs k).1), iD k] [iD (zbv xs k).2] := zlg xs k h0 hk
end Go.Proofs.YtnkagnjiljjpcaaGreat
namespace Go.Proofs.YtnkagnjiljjpcaaGreat
set_option linter.unusedSimpArgs false
set_option linter.unusedVariables false
set_option linter.unusedSectionVars false
set_option maxRecDepth 4000
open Go.RowKit
theorem qb2 : ∀ xs : List Int, zkl xs <= 2 * xs.length
 | [] => Nat.zero_le _
 | a :: xs => by
  have := qb2 xs
  simp only [zkl, zkw, List.length_cons]
  omega
theorem zs7 (B : Nat) : ∀ xs : List (List Int), (∀ x ∈ xs, x.length <= B) -> zdi xs <= xs.length * (2 + 2 * B)
 | [], _ => Nat.zero_le _
 | a :: xs, h => by
  have h1 := zs7 B xs fun x hx => h x (by simp [hx])
  have h2 := qb2 a
  have h3 := h a (by simp)
  rw [List.length_cons, Nat.add_mul]
  simp only [zdi, zfj]
  omega
theorem toR_ct (cs : List Cq) : zdi (toR cs) <= 720 := by
 unfold toR
 split
 ·rename_i hg
  have hv3 := zpe cs
  rw [hg] at hv3
  have hp := (Bool.and_eq_true _ _).mp hv3.symm
  have hall : cs.all grC = true := ((Bool.and_eq_true _ _).mp hp.1).2
  have h40 : cs.length <= 40 := of_decide_eq_true ((Bool.and_eq_true _ _).mp hp.1).1
  have h1 := zs7 8 (toL (gaL cs) cs) fun x hx => by
   unfold toL at hx
   obtain ⟨c, hc, rfl⟩ := List.mem_map.1 hx
   have := zkt (zs3 (List.all_eq_true.1 hall c (List.mem_filter.1 hc).1))
   unfold prC
   rw [List.length_map]
   exact this
  have h2 := zna (gaL cs) cs
  omega
 ·exact Nat.zero_le _
set_option maxHeartbeats 4000000 in
theorem qed (cs : List Cq) : FC Tryz.prog 4 [.one (cqS cs)] [bD true] := by
 have HZ := znz cs 1048576 (by omega) (by omega)
 refine zis Tryz.call4 Tryz.func4 rfl (by kernel_rfl) (za2 (by kernel_rfl)) ?_
 simp -implicitDefEqProofs only [go_sem, Tryz.results4]
 refine callF (HZ) (by simp -implicitDefEqProofs only [go_sem]) ?_
 simp -implicitDefEqProofs only [go_sem]
 refine ⟨fun h => trivial, fun h => ?_⟩
 obtain ⟨hw1, hw2⟩ := zed (show ¬ szR (zid cs) 1048576 < 0 by simpa using h)
 have hw : zid cs <= 1048576 := by omega
 have HS := zy7 cs hw
 have HI := zxw cs hw
 have HT := zn4 cs hw
 have HE := zm2 cs cs
 have hcR := toR_ct cs
 generalize toR cs = R at HS HI hcR
 generalize zn8 cs = G at HS HI
 have HF := zwu R R
 have n2 : ∀ b : Bool, (b != b) = false := by decide
 refine callF (HT) (by simp -implicitDefEqProofs only [go_sem]) ?_
 simp -implicitDefEqProofs only [go_sem]
 refine frzO 672 rfl rfl ?_
 simp -implicitDefEqProofs only [go_sem]
 refine callRn (HS) (by simp -implicitDefEqProofs only [go_sem]) ?_
 simp -implicitDefEqProofs only [go_sem]
 refine callF (HT) (by simp -implicitDefEqProofs only [go_sem]) ?_
 simp -implicitDefEqProofs only [go_sem]
 refine callF (HI) (by simp -implicitDefEqProofs only [go_sem]) ?_
 simp -implicitDefEqProofs only [go_sem]
 refine callF (HF) (by simp -implicitDefEqProofs only [go_sem, zau, beq_self_eq_true, bne_self_eq_false, Bool.not_true, n2]) ?_
 simp -implicitDefEqProofs only [go_sem, zau, beq_self_eq_true, bne_self_eq_false, Bool.not_true, n2]
 refine callF (HT) (by simp -implicitDefEqProofs only [go_sem]) ?_
 simp -implicitDefEqProofs only [go_sem]
 refine callF (HE) (by simp -implicitDefEqProofs only [go_sem, zau]) ?_
 simp -implicitDefEqProofs only [go_sem, zau]
 have hc1 := zph cs
 have HM := zjr cs 1 (by omega) (by omega)
 have hm := zom cs 1
 have HM2 := zm4 R 1 (by omega) (by omega)
 have HL := zoi R 1 (by omega) (by omega)
 have hmR := (zoq R 1).1
 generalize (zdk cs 1).2 = k1 at HM hm
 generalize (zdk cs 1).1 = f2 at HM
 generalize (zbv R 1).2 = k2 at HM2 HL hmR
 generalize (zbv R 1).1 = r1 at HM2 HL
 refine zof [0, 4, 5, 7, 8, 46, 47] (HM) (by simp -implicitDefEqProofs only [go_sem]) (by simp -implicitDefEqProofs only [go_sem]) (by simp -implicitDefEqProofs only [go_sem]) (by simp -implicitDefEqProofs only [go_sem]) (by simp -implicitDefEqProofs only [go_sem]) rfl ?_
 simp -implicitDefEqProofs only [go_sem]
 refine callF (HF) (by simp -implicitDefEqProofs only [go_sem, zau, beq_self_eq_true, bne_self_eq_false, Bool.not_true, n2]) ?_
 simp -implicitDefEqProofs only [go_sem, zau, beq_self_eq_true, bne_self_eq_false, Bool.not_true, n2]
 refine zof [0, 4, 5, 7, 62, 63] (HM2) (by simp -implicitDefEqProofs only [go_sem]) (by simp -implicitDefEqProofs only [go_sem]) (by simp -implicitDefEqProofs only [go_sem]) (by simp -implicitDefEqProofs only [go_sem]) (by simp -implicitDefEqProofs only [go_sem]) rfl ?_
 simp -implicitDefEqProofs only [go_sem]
 refine callF (HL) (by simp -implicitDefEqProofs only [go_sem]) ?_
 simp -implicitDefEqProofs only [go_sem]
 refine ⟨fun h => by simp at h, fun _ => ?_⟩
 refine callF (HT) (by simp -implicitDefEqProofs only [go_sem]) ?_
 simp -implicitDefEqProofs only [go_sem]
 refine callF (HI) (by simp -implicitDefEqProofs only [go_sem]) ?_
 simp -implicitDefEqProofs only [go_sem]
 refine callF (HF) (by simp -implicitDefEqProofs only [go_sem, zau, beq_self_eq_true, bne_self_eq_false, Bool.not_true, n2]) ?_
 simp -implicitDefEqProofs only [go_sem, zau, beq_self_eq_true, bne_self_eq_false, Bool.not_true, n2]
 refine callF (HL) (by simp -implicitDefEqProofs only [go_sem]) ?_
 simp -implicitDefEqProofs only [go_sem]
 refine ⟨fun h => by simp at h, fun _ => trivial⟩
end Go.Proofs.YtnkagnjiljjpcaaGreat
