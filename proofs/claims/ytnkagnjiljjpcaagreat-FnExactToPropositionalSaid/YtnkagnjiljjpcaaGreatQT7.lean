/-
  The walk over plain data, and contracts of functions of the program and of its laws.
  Conditions: those that each theorem names.
-/
import Derived.Test.YtnkagnjiljjpcaaGreatQT5
import Derived.Test.YtnkagnjiljjpcaaGreatQT4
import Derived.Test.YtnkagnjiljjpcaaGreatQT6
namespace Go.Proofs.YtnkagnjiljjpcaaGreat
set_option linter.unusedSimpArgs false
set_option linter.unusedVariables false
set_option linter.unusedSectionVars false
set_option maxRecDepth 4000
open Go.RowKit
def zh9 : Int -> Nat -> Int × Nat
 | o0, k => (((k : Nat) : Int), (k + 1))
def zdh : List Int -> Nat -> List Int × Nat
 | [], k => ([], k)
 | a :: xs, k => ((zh9 a k).1 :: (zdh xs (zh9 a k).2).1, (zdh xs (zh9 a k).2).2)
def zla : Int -> Nat
 | _ => 1 + 1
def zkp : List Int -> Nat
 | [] => 0
 | a :: xs => zla a + zkp xs
theorem qbb : ∀ (a : Int) (k : Nat), k <= (zh9 a k).2 /\ (zh9 a k).2 <= k + zla a
 | o0, k => by simp only [zh9, zla]; omega
theorem zi1 : ∀ (xs : List Int) (k : Nat), k <= (zdh xs k).2 /\ (zdh xs k).2 <= k + zkp xs
 | [], k => ⟨Nat.le_refl _, Nat.le_refl _⟩
 | a :: xs, k => by have h1 := qbb a k; have h2 := zi1 xs (zh9 a k).2; simp only [zdh, zkp]; omega
theorem zju : ∀ xs : List Int, xs.length <= zkp xs
 | [] => Nat.le_refl _
 | a :: xs => by
  have := zju xs
  have : 1 <= zla a := by simp only [zla]; omega
  simp only [List.length_cons, zkp]; omega
theorem zm7 (xs : List Int) :
  ∀ k : Nat, 0 < k -> k + zkp xs <= 4611686018427387904 -> IC Tryz.prog 47 [] (.one (ze7 xs)) [iD k] (.one (ze7 (zdh xs k).1)) [iD (zdh xs k).2] := by
 intro k h0 hk
 refine zma Tryz.call47 Tryz.func47 rfl (by kernel_rfl) (by simp only [zc0, rd, List.map_cons, List.map_nil, List.nil_append, List.length_cons, List.length_nil, Tryz.ntmps47]; omega) (by simp only [Tryz.ntmps47]; omega) (fun vs => ?_)
 simp -implicitDefEqProofs only [go_sem, Tryz.results47, zq2, zkz, zc0, PI]
 refine zag (fun (x : List Int × List Int × Nat) => hd [(0, .one (.ow 0 0)), (1000000, .one (.ow 0 0)), (1, vI x.2.2), (5, vI x.1.length)] [] [(0, ⟨true, 1, x.1.map (fun s => [T.int .i64 s]) ++ zde vs x.1.length (x.2.1.map (fun s => [T.int .i64 s])), 0, true⟩)])
  (fun x => (zdh xs k).1 = x.1 ++ (zdh x.2.1 x.2.2).1 /\ (zdh xs k).2 = (zdh x.2.1 x.2.2).2 /\ 0 < x.2.2 /\ x.2.2 + zkp x.2.1 <= 4611686018427387904 /\ x.1.length + x.2.1.length = xs.length /\ ∀ a ∈ x.2.1, a ∈ xs) (fun x => x.2.1.length) ([], xs, k) (zab ?_) ?_ ?_
 ·simp -implicitDefEqProofs only [go_sem]
 ·exact ⟨rfl, rfl, h0, hk, by simp, fun _ h => h⟩
 ·intro ⟨dn, rest, kk⟩ ⟨h1, h2, h3, h4, h6, h5⟩
  simp only at h1 h2 h3 h4 h5 h6
  cases rest with
  | nil =>
   simp only [zdh, List.append_nil] at h1 h2
   simp -implicitDefEqProofs only [go_sem, h1, h2]
  | cons o0 rest =>
   simp only [zdh, zh9, zkp, zla] at h1 h2 h4
   have w0 : IntKind.i64.wrap (((kk : Nat) : Int) + 1) = ((kk + 1 : Nat) : Int) := zam (by omega)
   have hln := zju xs
   rw [List.length_cons] at h6
   have wl : IntKind.i64.wrap ((dn.length : Int) + 1) = ((dn.length + 1 : Nat) : Int) := zam (by omega)
   simp -implicitDefEqProofs only [go_sem, List.map_cons]
   refine zfi (by simp -implicitDefEqProofs only [go_sem, implies_true, w0]) ?_
   simp -implicitDefEqProofs only [go_sem, implies_true, w0]
   refine ⟨(dn ++ [((kk : Nat) : Int)], rest, (kk + 1)), ⟨by simpa using h1, h2, by show 0 < (kk + 1); omega, by show (kk + 1) + zkp rest <= _; omega, by simp; omega, fun b hb => h5 b (by simp [hb])⟩, by simp, zab ?_⟩
   simp -implicitDefEqProofs only [go_sem, wl, List.map_cons, List.map_append, List.append_assoc]
theorem zrd (xs : List Int) (k : Nat) (h0 : 0 < k) (hk : k + zkp xs <= 4611686018427387904) : IC Tryz.prog 47 [] (.one (ze7 xs)) [iD k] (.one (ze7 (zdh xs k).1)) [iD (zdh xs k).2] := zm7 xs k h0 hk
theorem zn5 (xs : List Int) :
  ∀ k : Nat, 0 < k -> k + zkp xs <= 4611686018427387904 -> FC Tryz.prog 48 [.one (ze7 (zdh xs k).1), iD k] [iD (zdh xs k).2] := by
 intro k h0 hk
 refine zan Tryz.call48 Tryz.func48 rfl (by kernel_rfl) (za3 (by kernel_rfl)) ?_
 simp -implicitDefEqProofs only [go_sem, Tryz.results48]
 refine zag (fun (x : List Int × List Int × Nat) => hd [(0, vT (.sl 1 (x.1.map (fun s => [T.int .i64 s]) ++ (zdh x.2.1 x.2.2).1.map (fun s => [T.int .i64 s])))), (1, vI x.2.2), (5, vI x.1.length)] [] [])
  (fun x => (zdh xs k).1 = x.1 ++ (zdh x.2.1 x.2.2).1 /\ (zdh xs k).2 = (zdh x.2.1 x.2.2).2 /\ 0 < x.2.2 /\ x.2.2 + zkp x.2.1 <= 4611686018427387904 /\ x.1.length + x.2.1.length = xs.length /\ ∀ a ∈ x.2.1, a ∈ xs) (fun x => x.2.1.length) ([], xs, k) (zab ?_) ?_ ?_
 ·simp -implicitDefEqProofs only [go_sem]
 ·exact ⟨rfl, rfl, h0, hk, by simp, fun _ h => h⟩
 ·intro ⟨dn, rest, kk⟩ ⟨h1, h2, h3, h4, h6, h5⟩
  simp only at h1 h2 h3 h4 h5 h6
  cases rest with
  | nil =>
   simp only [zdh, List.append_nil] at h1 h2
   simp -implicitDefEqProofs only [go_sem, h2, zdh]
  | cons o0 rest =>
   simp only [zdh, zh9, zkp, zla] at h1 h2 h4
   have w0 : IntKind.i64.wrap (((kk : Nat) : Int) + 1) = ((kk + 1 : Nat) : Int) := zam (by omega)
   have hln := zju xs
   rw [List.length_cons] at h6
   have wl : IntKind.i64.wrap ((dn.length : Int) + 1) = ((dn.length + 1 : Nat) : Int) := zam (by omega)
   simp -implicitDefEqProofs only [go_sem, zdh, zh9, List.map_cons]
   simp only [bne_self_eq_false]
   simp -implicitDefEqProofs only [go_sem, w0]
   refine ⟨(dn ++ [((kk : Nat) : Int)], rest, (kk + 1)), ⟨by simpa using h1, h2, by show 0 < (kk + 1); omega, by show (kk + 1) + zkp rest <= _; omega, by simp; omega, fun b hb => h5 b (by simp [hb])⟩, by simp, zab ?_⟩
   simp -implicitDefEqProofs only [go_sem, wl, List.map_cons, List.map_append, List.append_assoc]
theorem zrx (xs : List Int) (k : Nat) (h0 : 0 < k) (hk : k + zkp xs <= 4611686018427387904) : FC Tryz.prog 48 [.one (ze7 (zdh xs k).1), iD k] [iD (zdh xs k).2] := zn5 xs k h0 hk
theorem qao (xs ys : List Int) : FC Tryz.prog 46 [.one (ze7 xs), .one (ze7 ys)] [bD (same xs ys)] := by
 refine zbw (fun hw => ?_) Tryz.call46
 have hl : xs.length <= 9223372036854775807 := by simpa [zd3, wfT] using hw.1.1
 have hl2 : ys.length <= 9223372036854775807 := by simpa [zd3, wfT] using hw.2.1.1
 refine zan Tryz.call46 Tryz.func46 rfl (by kernel_rfl) (za3 (by kernel_rfl)) ?_
 simp -implicitDefEqProofs only [go_sem, Tryz.results46]
 refine ⟨fun h => ?_, fun h => ?_⟩
 ·rw [zbc.2 (by rintro rfl; simp at h)]
 ·have hlen : xs.length = ys.length := by simp at h; omega
  refine zag (fun k : Nat => hd [(0, vT (ze7 xs)), (1, vT (ze7 ys)), (4, vB false), (5, vI k)] [] []) (fun k => k <= xs.length /\ same xs ys = same (xs.drop k) (ys.drop k)) (fun k => xs.length - k) 0 (zab ?_) ?_ ?_
  ·simp -implicitDefEqProofs only [go_sem]
  ·simp
  ·intro k ⟨hk, hr⟩
   by_cases hlt : k < xs.length
   ·have hk2 : k < ys.length := by omega
    simp -implicitDefEqProofs only [go_sem, List.length_map, hlt]
    refine drawn (by kernel_rfl) ?_
    simp -implicitDefEqProofs only [go_sem, List.length_map, zaf, hlt, hk2]
    refine ⟨by kernel_rfl, fun h => ?_, fun h => ?_⟩
    ·rw [hr, List.drop_eq_getElem_cons hlt, List.drop_eq_getElem_cons hk2, zbl, show same xs[k] ys[k] = false from zbc.2 (by simpa using h)]; rfl
    ·rw [List.drop_eq_getElem_cons hlt, List.drop_eq_getElem_cons hk2, zbl, show same xs[k] ys[k] = true from za1.2 (by simpa using h), Bool.true_and] at hr
     rw [zam (by omega)]
     exact ⟨k + 1, ⟨by omega, hr⟩, by omega, zab (by simp -implicitDefEqProofs only [go_sem])⟩
   ·simp -implicitDefEqProofs only [go_sem, List.length_map, hlt]
    rw [hr, List.drop_of_length_le (by omega), List.drop_of_length_le (by omega), zd2]
end Go.Proofs.YtnkagnjiljjpcaaGreat
namespace Go.Proofs.YtnkagnjiljjpcaaGreat
set_option linter.unusedSimpArgs false
set_option linter.unusedVariables false
set_option linter.unusedSectionVars false
set_option maxRecDepth 4000
open Go.RowKit
theorem zsn (xs ys : List (List Int)) : FC Tryz.prog 18 [.one (zfc xs), .one (zfc ys)] [bD (same xs ys)] := by
 refine zbw (fun hw => ?_) Tryz.call18
 have hl : xs.length <= 9223372036854775807 := by simpa [zd3, wfT] using hw.1.1
 by_cases hne : xs.length = ys.length
 ·have hni : ((xs.length : Int) != (ys.length : Int)) = false := by rw [hne]; simp
  refine zan Tryz.call18 Tryz.func18 rfl (by kernel_rfl) (za3 (by kernel_rfl)) ?_
  simp -implicitDefEqProofs only [go_sem, Tryz.results18, hni]
  refine zag (fun k : Nat => hd [(0, vT (zfc xs)), (1, vT (zfc ys)), (5, vI k)] [] []) (fun k => k <= xs.length /\ same xs ys = same (xs.drop k) (ys.drop k)) (fun k => xs.length - k) 0 (zab ?_) ?_ ?_
  ·simp -implicitDefEqProofs only [go_sem]
  ·simp
  ·intro k ⟨hk, hr⟩
   by_cases hlt : k < xs.length
   ·have hlt2 : k < ys.length := by omega
    have hwk : IntKind.i64.wrap ((k : Int) + 1) = ((k + 1 : Nat) : Int) := zam (by omega)
    have HE := qao xs[k] ys[k]
    rw [List.drop_eq_getElem_cons hlt, List.drop_eq_getElem_cons hlt2, zbl] at hr
    simp -implicitDefEqProofs only [go_sem, hlt]
    refine drawn (by kernel_rfl) ?_
    simp -implicitDefEqProofs only [go_sem, zaf, hlt, hlt2]
    refine za0 (HE) (by simp -implicitDefEqProofs only [go_sem]) ?_
    simp -implicitDefEqProofs only [go_sem]
    refine ⟨by kernel_rfl, ?_⟩
    rw [hwk]
    refine ⟨fun h => ?_, fun h => ⟨k + 1, ⟨hlt, ?_⟩, by omega, zab (by simp -implicitDefEqProofs only [go_sem])⟩⟩
    ·rw [hr, show same xs[k] ys[k] = false by simpa using h, Bool.false_and]
    ·rw [hr, show same xs[k] ys[k] = true by simpa using h, Bool.true_and]
   ·simp -implicitDefEqProofs only [go_sem, hlt]
    rw [hr, List.drop_of_length_le (by omega), List.drop_of_length_le (by omega), zau]
 ·have hni : ((xs.length : Int) != (ys.length : Int)) = true := by simp; omega
  refine zan Tryz.call18 Tryz.func18 rfl (by kernel_rfl) (za3 (by kernel_rfl)) ?_
  simp -implicitDefEqProofs only [go_sem, Tryz.results18, hni]
  rw [zbc.2 (fun e => hne (by rw [e]))]
end Go.Proofs.YtnkagnjiljjpcaaGreat
namespace Go.Proofs.YtnkagnjiljjpcaaGreat
set_option linter.unusedSimpArgs false
set_option linter.unusedVariables false
set_option linter.unusedSectionVars false
set_option maxRecDepth 4000
open Go.RowKit
def zd5 : (List Int) -> Nat -> (List Int) × Nat
 | s0, k => ((zdh s0 k).1, (zdh s0 k).2)
def zbv : List (List Int) -> Nat -> List (List Int) × Nat
 | [], k => ([], k)
 | a :: xs, k => ((zd5 a k).1 :: (zbv xs (zd5 a k).2).1, (zbv xs (zd5 a k).2).2)
def zfv : (List Int) -> Nat
 | s0 => 1 + zkp s0
def zdj : List (List Int) -> Nat
 | [] => 0
 | a :: xs => zfv a + zdj xs
theorem zxo : ∀ (a : (List Int)) (k : Nat), k <= (zd5 a k).2 /\ (zd5 a k).2 <= k + zfv a
 | s0, k => by have h_s0 := zi1 s0 k; simp only [zd5, zfv]; omega
theorem zpy : ∀ (xs : List (List Int)) (k : Nat), k <= (zbv xs k).2 /\ (zbv xs k).2 <= k + zdj xs
 | [], k => ⟨Nat.le_refl _, Nat.le_refl _⟩
 | a :: xs, k => by have h1 := zxo a k; have h2 := zpy xs (zd5 a k).2; simp only [zbv, zdj]; omega
theorem zg7 : ∀ xs : List (List Int), xs.length <= zdj xs
 | [] => Nat.le_refl _
 | a :: xs => by
  have := zg7 xs
  have : 1 <= zfv a := by simp only [zfv]; omega
  simp only [List.length_cons, zdj]; omega
theorem zlb (xs : List (List Int)) :
  ∀ k : Nat, 0 < k -> k + zdj xs <= 4611686018427387904 -> IC Tryz.prog 19 [] (.one (zfc xs)) [iD k] (.one (zfc (zbv xs k).1)) [iD (zbv xs k).2] := by
 intro k h0 hk
 refine zma Tryz.call19 Tryz.func19 rfl (by kernel_rfl) (by simp only [zc0, rd, List.map_cons, List.map_nil, List.nil_append, List.length_cons, List.length_nil, Tryz.ntmps19]; omega) (by simp only [Tryz.ntmps19]; omega) (fun vs => ?_)
 simp -implicitDefEqProofs only [go_sem, Tryz.results19, zq2, zkz, zc0, PI]
 refine zag (fun (x : List (List Int) × List (List Int) × Nat) => hd [(0, .one (.ow 0 0)), (1000000, .one (.ow 0 0)), (1, vI x.2.2), (5, vI x.1.length)] [] [(0, ⟨true, 1, x.1.map (fun s => [ze7 s]) ++ zde vs x.1.length (x.2.1.map (fun s => [ze7 s])), 0, true⟩)])
  (fun x => (zbv xs k).1 = x.1 ++ (zbv x.2.1 x.2.2).1 /\ (zbv xs k).2 = (zbv x.2.1 x.2.2).2 /\ 0 < x.2.2 /\ x.2.2 + zdj x.2.1 <= 4611686018427387904 /\ x.1.length + x.2.1.length = xs.length /\ ∀ a ∈ x.2.1, a ∈ xs) (fun x => x.2.1.length) ([], xs, k) (zab ?_) ?_ ?_
 ·simp -implicitDefEqProofs only [go_sem]
 ·exact ⟨rfl, rfl, h0, hk, by simp, fun _ h => h⟩
 ·intro ⟨dn, rest, kk⟩ ⟨h1, h2, h3, h4, h6, h5⟩
  simp only at h1 h2 h3 h4 h5 h6
  cases rest with
  | nil =>
   simp only [zbv, List.append_nil] at h1 h2
   simp -implicitDefEqProofs only [go_sem, h1, h2]
  | cons s0 rest =>
   simp only [zbv, zd5, zdj, zfv] at h1 h2 h4
   have hc_s0 := zi1 s0 kk
   have hln := zg7 xs
   rw [List.length_cons] at h6
   have wl : IntKind.i64.wrap ((dn.length : Int) + 1) = ((dn.length + 1 : Nat) : Int) := zam (by omega)
   simp -implicitDefEqProofs only [go_sem, List.map_cons]
   refine callN (l := [(0, .one (.ow 0 0)), (1000000, .one (.ow 0 0)), (5, vI dn.length), (15, .one (.cv (vs dn.length 0))), (16, vI (kk : Nat))]) (bl := []) (el := [(0, ⟨true, 1, dn.map (fun s => [ze7 s]) ++ [.pin (vs dn.length 0) (ze7 s0)] :: zde vs (dn.length + 1) (rest.map (fun s => [ze7 s])), 0, true⟩)]) 0 dn.length 0 (zrd s0 kk (by omega) (by omega)) (by simp -implicitDefEqProofs only [go_sem, ze7]) rfl rfl rfl (by simp -implicitDefEqProofs only [go_sem, ze7]) rfl ?_
   simp -implicitDefEqProofs only [go_sem, wl]
   refine ⟨(dn ++ [(zdh s0 kk).1], rest, (zdh s0 kk).2), ⟨by simpa using h1, h2, by show 0 < (zdh s0 kk).2; omega, by show (zdh s0 kk).2 + zdj rest <= _; omega, by simp; omega, fun b hb => h5 b (by simp [hb])⟩, by simp, zab ?_⟩
   simp -implicitDefEqProofs only [go_sem, wl, List.map_cons, List.map_append, List.append_assoc]
theorem znl (xs : List (List Int)) (k : Nat) (h0 : 0 < k) (hk : k + zdj xs <= 4611686018427387904) : IC Tryz.prog 19 [] (.one (zfc xs)) [iD k] (.one (zfc (zbv xs k).1)) [iD (zbv xs k).2] := zlb xs k h0 hk
end Go.Proofs.YtnkagnjiljjpcaaGreat
namespace Go.Proofs.YtnkagnjiljjpcaaGreat
set_option linter.unusedSimpArgs false
set_option linter.unusedVariables false
set_option linter.unusedSectionVars false
set_option maxRecDepth 4000
open Go.RowKit
theorem zlw (xs : List (List Int)) :
  ∀ k : Nat, 0 < k -> k + zdj xs <= 4611686018427387904 -> FC Tryz.prog 20 [.one (zfc (zbv xs k).1), iD k] [iD (zbv xs k).2] := by
 intro k h0 hk
 refine zan Tryz.call20 Tryz.func20 rfl (by kernel_rfl) (za3 (by kernel_rfl)) ?_
 simp -implicitDefEqProofs only [go_sem, Tryz.results20]
 refine zag (fun (x : List (List Int) × List (List Int) × Nat) => hd [(0, vT (.sl 1 (x.1.map (fun s => [ze7 s]) ++ (zbv x.2.1 x.2.2).1.map (fun s => [ze7 s])))), (1, vI x.2.2), (5, vI x.1.length)] [] [])
  (fun x => (zbv xs k).1 = x.1 ++ (zbv x.2.1 x.2.2).1 /\ (zbv xs k).2 = (zbv x.2.1 x.2.2).2 /\ 0 < x.2.2 /\ x.2.2 + zdj x.2.1 <= 4611686018427387904 /\ x.1.length + x.2.1.length = xs.length /\ ∀ a ∈ x.2.1, a ∈ xs) (fun x => x.2.1.length) ([], xs, k) (zab ?_) ?_ ?_
 ·simp -implicitDefEqProofs only [go_sem]
 ·exact ⟨rfl, rfl, h0, hk, by simp, fun _ h => h⟩
 ·intro ⟨dn, rest, kk⟩ ⟨h1, h2, h3, h4, h6, h5⟩
  simp only at h1 h2 h3 h4 h5 h6
  cases rest with
  | nil =>
   simp only [zbv, List.append_nil] at h1 h2
   simp -implicitDefEqProofs only [go_sem, h2, zbv]
  | cons s0 rest =>
   simp only [zbv, zd5, zdj, zfv] at h1 h2 h4
   have hc_s0 := zi1 s0 kk
   have hln := zg7 xs
   rw [List.length_cons] at h6
   have wl : IntKind.i64.wrap ((dn.length : Int) + 1) = ((dn.length + 1 : Nat) : Int) := zam (by omega)
   simp -implicitDefEqProofs only [go_sem, zbv, zd5, List.map_cons]
   refine callF (zrx s0 kk (by omega) (by omega)) (by simp -implicitDefEqProofs only [go_sem, wl]) ?_
   simp -implicitDefEqProofs only [go_sem, wl]
   refine ⟨(dn ++ [(zdh s0 kk).1], rest, (zdh s0 kk).2), ⟨by simpa using h1, h2, by show 0 < (zdh s0 kk).2; omega, by show (zdh s0 kk).2 + zdj rest <= _; omega, by simp; omega, fun b hb => h5 b (by simp [hb])⟩, by simp, zab ?_⟩
   simp -implicitDefEqProofs only [go_sem, wl, List.map_cons, List.map_append, List.append_assoc]
theorem zof (xs : List (List Int)) (k : Nat) (h0 : 0 < k) (hk : k + zdj xs <= 4611686018427387904) : FC Tryz.prog 20 [.one (zfc (zbv xs k).1), iD k] [iD (zbv xs k).2] := zlw xs k h0 hk
end Go.Proofs.YtnkagnjiljjpcaaGreat
namespace Go.Proofs.YtnkagnjiljjpcaaGreat
set_option linter.unusedSimpArgs false
set_option linter.unusedVariables false
set_option linter.unusedSectionVars false
set_option maxRecDepth 4000
open Go.RowKit
theorem qb8 : ∀ xs : List Int, zkp xs <= 2 * xs.length
 | [] => Nat.zero_le _
 | a :: xs => by
  have := qb8 xs
  simp only [zkp, zla, List.length_cons]
  omega
theorem zt1 (B : Nat) : ∀ xs : List (List Int), (∀ x ∈ xs, x.length <= B) -> zdj xs <= xs.length * (2 + 2 * B)
 | [], _ => Nat.zero_le _
 | a :: xs, h => by
  have h1 := zt1 B xs fun x hx => h x (by simp [hx])
  have h2 := qb8 a
  have h3 := h a (by simp)
  rw [List.length_cons, Nat.add_mul]
  simp only [zdj, zfv]
  omega
theorem toR_ct (cs : List Cq) : zdj (toR cs) <= 720 := by
 unfold toR
 split
 ·rename_i hg
  have hv3 := zp1 cs
  rw [hg] at hv3
  have hp := (Bool.and_eq_true _ _).mp hv3.symm
  have hall : cs.all grC = true := ((Bool.and_eq_true _ _).mp hp.1).2
  have h40 : cs.length <= 40 := of_decide_eq_true ((Bool.and_eq_true _ _).mp hp.1).1
  have h1 := zt1 8 (toL (gaL cs) cs) fun x hx => by
   unfold toL at hx
   obtain ⟨c, hc, rfl⟩ := List.mem_map.1 hx
   have := zmr (zu5 (List.all_eq_true.1 hall c (List.mem_filter.1 hc).1))
   unfold prC
   rw [List.length_map]
   exact this
  have h2 := znm (gaL cs) cs
  omega
 ·exact Nat.zero_le _
set_option maxHeartbeats 4000000 in
theorem qdu (cs : List Cq) : FC Tryz.prog 4 [.one (cqS cs)] [bD true] := by
 have HZ := zn2 cs 1048576 (by omega) (by omega)
 refine zig Tryz.call4 Tryz.func4 rfl (by kernel_rfl) (za3 (by kernel_rfl)) ?_
 simp -implicitDefEqProofs only [go_sem, Tryz.results4]
 refine callF (HZ) (by simp -implicitDefEqProofs only [go_sem]) ?_
 simp -implicitDefEqProofs only [go_sem]
 refine ⟨fun h => trivial, fun h => ?_⟩
 obtain ⟨hw1, hw2⟩ := zec (show ¬ szR (zij cs) 1048576 < 0 by simpa using h)
 have hw : zij cs <= 1048576 := by omega
 have HS := zzh cs hw
 have HI := zyx cs hw
 have HT := zob cs hw
 have HE := znu cs cs
 have hcR := toR_ct cs
 generalize toR cs = R at HS HI hcR
 generalize zoh cs = G at HS HI
 have HF := zsn R R
 have n2 : ∀ b : Bool, (b != b) = false := by decide
 refine callF (HT) (by simp -implicitDefEqProofs only [go_sem]) ?_
 simp -implicitDefEqProofs only [go_sem]
 refine frzO 672 rfl rfl ?_
 simp -implicitDefEqProofs only [go_sem]
 refine callRn (HS) (by simp -implicitDefEqProofs only [go_sem]) ?_
 simp -implicitDefEqProofs only [go_sem]
 refine callF (HT) (by simp -implicitDefEqProofs only [go_sem]) ?_
 simp -implicitDefEqProofs only [go_sem]
 refine callF (HI) (by simp -implicitDefEqProofs only [go_sem]) ?_
 simp -implicitDefEqProofs only [go_sem]
 refine callF (HF) (by simp -implicitDefEqProofs only [go_sem, zau, beq_self_eq_true, bne_self_eq_false, Bool.not_true, n2]) ?_
 simp -implicitDefEqProofs only [go_sem, zau, beq_self_eq_true, bne_self_eq_false, Bool.not_true, n2]
 refine callF (HT) (by simp -implicitDefEqProofs only [go_sem]) ?_
 simp -implicitDefEqProofs only [go_sem]
 refine callF (HE) (by simp -implicitDefEqProofs only [go_sem, zau]) ?_
 simp -implicitDefEqProofs only [go_sem, zau]
 have hc1 := zon cs
 have HM := zjx cs 1 (by omega) (by omega)
 have hm := zou cs 1
 have HM2 := znl R 1 (by omega) (by omega)
 have HL := zof R 1 (by omega) (by omega)
 have hmR := (zpy R 1).1
 generalize (zdl cs 1).2 = k1 at HM hm
 generalize (zdl cs 1).1 = f2 at HM
 generalize (zbv R 1).2 = k2 at HM2 HL hmR
 generalize (zbv R 1).1 = r1 at HM2 HL
 refine zm0 [0, 4, 5, 7, 8, 46, 47] (HM) (by simp -implicitDefEqProofs only [go_sem]) (by simp -implicitDefEqProofs only [go_sem]) (by simp -implicitDefEqProofs only [go_sem]) (by simp -implicitDefEqProofs only [go_sem]) (by simp -implicitDefEqProofs only [go_sem]) rfl ?_
 simp -implicitDefEqProofs only [go_sem]
 refine callF (HF) (by simp -implicitDefEqProofs only [go_sem, zau, beq_self_eq_true, bne_self_eq_false, Bool.not_true, n2]) ?_
 simp -implicitDefEqProofs only [go_sem, zau, beq_self_eq_true, bne_self_eq_false, Bool.not_true, n2]
 refine zm0 [0, 4, 5, 7, 62, 63] (HM2) (by simp -implicitDefEqProofs only [go_sem]) (by simp -implicitDefEqProofs only [go_sem]) (by simp -implicitDefEqProofs only [go_sem]) (by simp -implicitDefEqProofs only [go_sem]) (by simp -implicitDefEqProofs only [go_sem]) rfl ?_
 simp -implicitDefEqProofs only [go_sem]
 refine callF (HL) (by simp -implicitDefEqProofs only [go_sem]) ?_
 simp -implicitDefEqProofs only [go_sem]
 refine ⟨fun h => by simp at h, fun _ => ?_⟩
 refine callF (HT) (by simp -implicitDefEqProofs only [go_sem]) ?_
 simp -implicitDefEqProofs only [go_sem]
 refine callF (HI) (by simp -implicitDefEqProofs only [go_sem]) ?_
 simp -implicitDefEqProofs only [go_sem]
 refine callF (HF) (by simp -implicitDefEqProofs only [go_sem, zau, beq_self_eq_true, bne_self_eq_false, Bool.not_true, n2]) ?_
 simp -implicitDefEqProofs only [go_sem, zau, beq_self_eq_true, bne_self_eq_false, Bool.not_true, n2]
 refine callF (HL) (by simp -implicitDefEqProofs only [go_sem]) ?_
 simp -implicitDefEqProofs only [go_sem]
 refine ⟨fun h => by simp at h, fun _ => trivial⟩
end Go.Proofs.YtnkagnjiljjpcaaGreat
