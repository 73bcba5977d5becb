/-
  The walk over plain data, and contracts of functions of the program and of its laws.
  Conditions: those that each theorem names.
-/
import Derived.Test.YteeaofpphmhjdaaQU5
namespace Go.Proofs.Yteeaofpphmhjdaa
set_option linter.unusedSimpArgs false
set_option linter.unusedVariables false
set_option linter.unusedSectionVars false
set_option maxRecDepth 4000
open Go.RowKit
def zez (S : List (List Int)) (st : List Ps) : Bool := zrl S st && (chk S st == -1)
theorem chk_nn (S : List (List Int)) (st : List Ps) : chk S st = -1 \/ 0 <= chk S st := by
 unfold chk
 split
 ·exact Or.inr (by omega)
 ·split
  ·exact Or.inr (by omega)
  ·exact Or.inl rfl
structure SzR (S : List (List Int)) (U : List Ps) : Prop where
 s : S.length <= 1048576
 st : U.length <= 1048576
 sc : ∀ c ∈ S, c.length <= 1048576
 tc : ∀ x ∈ U, x.c.length <= 1048576
theorem zdm {S : List (List Int)} {st : List Ps} (h : SzR S st) : FC Try.prog 84 [.one (za9 S), .one (psS st)] [bD (zez S st)] := by
 have HC := zec S st h.s h.st h.sc h.tc
 unfold zez
 cases hk : zrl S st
 ·rw [hk] at HC
  refine zav Try.call84 Try.func84 rfl (by kernel_rfl) (zbi (by kernel_rfl)) ?_
  simp -implicitDefEqProofs only [go_sem, Try.results84]
  refine callF (HC) (by simp -implicitDefEqProofs only [go_sem]) ?_
  simp -implicitDefEqProofs only [go_sem]
 ·rw [hk, if_pos rfl] at HC
  generalize chk S st = c at HC ⊢
  refine zav Try.call84 Try.func84 rfl (by kernel_rfl) (zbi (by kernel_rfl)) ?_
  simp -implicitDefEqProofs only [go_sem, Try.results84]
  refine callF (HC) (by simp -implicitDefEqProofs only [go_sem]) ?_
  simp -implicitDefEqProofs only [go_sem]
theorem zgc {S : List (List Int)} {st : List Ps} (h : zez S st = true) : zin S = true /\ (1 <= st.length /\ st.length <= 200) /\ chk S st = -1 /\ ∀ i < st.length, 0 <= (st.getD i ps0).l /\ (st.getD i ps0).l < S.length + i /\ 0 <= (st.getD i ps0).r /\ (st.getD i ps0).r < S.length + i := by
 unfold zez zrl at h
 rw [Bool.and_eq_true, Bool.and_eq_true] at h
 obtain ⟨⟨h1, h2⟩, h3⟩ := h
 unfold inB at h2
 simp at h2 h3
 exact ⟨h1, by omega, h3, zsr (zsd h3).1⟩
set_option maxHeartbeats 1000000 in
theorem zjr (S : List (List Int)) (st : List Ps) (hS : S.length <= 100000) (hst : st.length <= 100000) (hpos : 0 < st.length) (hb : ∀ i < st.length, 0 <= (st.getD i ps0).l /\ (st.getD i ps0).l < S.length + i /\ 0 <= (st.getD i ps0).r /\ (st.getD i ps0).r < S.length + i) : FC Try.prog 90 [.one (za9 S), .one (psS st)] [.one (bolS (nd S.length st))] := by
 have e1 : IntKind.i64.wrap ((S.length : Int) + st.length) = ((S.length + st.length : Nat) : Int) := by rw [zas (by omega) (by omega)]; omega
 have e2 : IntKind.i64.wrap (((S.length + st.length : Nat) : Int) - 1) = ((S.length + st.length - 1 : Nat) : Int) := by rw [zas (by omega) (by omega)]; omega
 have e3 : IntKind.i64.wrap ((st.length : Int) - 1) = (st.length : Int) - 1 := zas (by omega) (by omega)
 have hlt : S.length + st.length - 1 < (List.replicate (S.length + st.length) false).length := by simp; omega
 have hs0 := zgb (List.replicate (S.length + st.length) false) (S.length + st.length - 1) true hlt
 have hn0 : (List.replicate (S.length + st.length) false).set (S.length + st.length - 1) true = nd0 S.length st.length := rfl
 have hl0 : (nd0 S.length st.length).length = S.length + st.length := by unfold nd0; simp
 refine zav Try.call90 Try.func90 rfl (by kernel_rfl) (zbi (by kernel_rfl)) ?_
 simp -implicitDefEqProofs only [go_sem, Try.results90]
 rw [e1]
 refine zqc (by simp -implicitDefEqProofs only [go_sem]; omega) ?_
 simp -implicitDefEqProofs only [go_sem]
 rw [List.length_replicate, e2]
 refine ⟨by omega, ?_⟩
 refine zcw (by simp -implicitDefEqProofs only [go_sem]; simp) ?_
 simp -implicitDefEqProofs only [go_sem]
 rw [<- List.map_replicate (f := fun s => [T.bool s]) (a := false), hs0, hn0, e3]
 refine zaj (fun x : Nat × List Bool => hd [(0, vT (za9 S)), (1, vT (psS st)), (5, vI S.length), (6, .one (.ow 448 0)), (7, vI ((x.1 : Int) - 1))] [] [(448, ⟨true, 1, x.2.map fun b => [.bool b], 0, true⟩)]) (fun x => x.1 <= st.length /\ x.2.length = S.length + st.length /\ ndB S.length st x.1 x.2 = nd S.length st) (fun x => x.1) (st.length, nd0 S.length st.length) (zad ?_) ⟨Nat.le_refl _, hl0, rfl⟩ ?_
 ·simp -implicitDefEqProofs only [go_sem]
  skip
 ·rintro ⟨j, out⟩ ⟨hj, hol, hnd⟩
  simp only at hj hol hnd
  cases j with
  | zero =>
   have hlt0 : (0 <= ((0 : Nat) : Int) - 1) = False := by simp
   rw [ndB] at hnd
   rw [<- hnd]
   simp -implicitDefEqProofs only [go_sem, hlt0]
   skip
  | succ j =>
   have ej : ((j + 1 : Nat) : Int) - 1 = (j : Int) := by omega
   have hwj : IntKind.i64.wrap ((S.length : Int) + (j : Int)) = ((S.length + j : Nat) : Int) := by rw [zas (by omega) (by omega)]; omega
   have hwn : IntKind.i64.wrap ((j : Int) - 1) = (j : Int) - 1 := zas (by omega) (by omega)
   have hjl : S.length + j < out.length := by omega
   have hjs : j < st.length := by omega
   have hbi := hb j hjs
   have hgs : st.getD j ps0 = st[j] := by rw [List.getD_eq_getElem?_getD, List.getElem?_eq_getElem hjs]; rfl
   have hgo : out.getD (S.length + j) false = out[S.length + j] := by rw [List.getD_eq_getElem?_getD, List.getElem?_eq_getElem hjl]; rfl
   rw [ndB] at hnd
   rw [hgs] at hbi hnd
   rw [ej]
   have hpc := zay st[j]
   generalize hsj : st[j] = s at hbi hnd hpc
   obtain ⟨sl, sr, sp, sc⟩ := s
   simp only at hbi
   obtain ⟨l, rfl⟩ : ∃ l : Nat, sl = l := ⟨sl.toNat, by omega⟩
   obtain ⟨r, rfl⟩ : ∃ r : Nat, sr = r := ⟨sr.toNat, by omega⟩
   have hll : l < out.length := by omega
   have hrl : r < out.length := by omega
   have hrl2 : r < (out.set l true).length := by rw [List.length_set]; omega
   have hsl := zgb out l true hll
   have hsr := zgb (out.set l true) r true hrl2
   cases hm : out[S.length + j]
   ·have hN : zmw S.length ⟨l, r, sp, sc⟩ j out = out := by
     unfold zmw
     rw [hgo, if_neg (by rw [hm]; simp)]
    rw [hN] at hnd
    have h0j : (0 <= (j : Int)) = True := by simp
    simp -implicitDefEqProofs only [go_sem, h0j]
    rw [hwj]
    simp -implicitDefEqProofs only [go_sem, hjl, zaf, hm]
    rw [hwn]
    refine ⟨(j, out), ⟨by simp only; omega, hol, hnd⟩, by simp, zad ?_⟩
    simp -implicitDefEqProofs only [go_sem]
   ·have hN : zmw S.length ⟨l, r, sp, sc⟩ j out = (out.set l true).set r true := by
     unfold zmw
     rw [hgo, if_pos hm]
     rfl
    rw [hN] at hnd
    have h0j : (0 <= (j : Int)) = True := by simp
    simp -implicitDefEqProofs only [go_sem, h0j]
    rw [hwj]
    simp -implicitDefEqProofs only [go_sem, hjl, zaf, hm, hjs, hsj, zay, hll]
    refine zcw (by simp -implicitDefEqProofs only [go_sem]; simp) ?_
    simp -implicitDefEqProofs only [go_sem]
    rw [hsl]
    simp -implicitDefEqProofs only [go_sem, List.length_set, zaf, hjs, hsj, zay, hrl]
    refine zcw (by simp -implicitDefEqProofs only [go_sem]; simp) ?_
    simp -implicitDefEqProofs only [go_sem]
    rw [hsr, hwn]
    refine ⟨(j, (out.set l true).set r true), ⟨by simp only; omega, by simp [hol], hnd⟩, by simp, zad ?_⟩
    simp -implicitDefEqProofs only [go_sem]
    skip
def usP (B : List Bool) : Nat -> List Int
 | 0 => []
 | k + 1 => usP B k ++ if B.getD k false = true then [(k : Int)] else []
theorem zg3 (B : List Bool) : ∀ k, (usP B k).length <= k
 | 0 => Nat.le_refl _
 | k + 1 => by
  have := zg3 B k
  unfold usP
  rw [List.length_append]
  split <;> simp <;> omega
def usR (S : List (List Int)) (st : List Ps) : List Int × Bool := if zez S st = true then (usP (nd S.length st) S.length, true) else ([], false)
set_option maxHeartbeats 1000000 in
theorem zhk {S : List (List Int)} {st : List Ps} (h : SzR S st) : FC Try.prog 29 [.one (za9 S), .one (psS st)] [.one (za8 (usR S st).1), bD (usR S st).2] := by
 have HC := zdm h
 unfold usR
 cases hk : zez S st
 ·rw [hk] at HC
  rw [if_neg (by simp)]
  refine zav Try.call29 Try.func29 rfl (by kernel_rfl) (zbi (by kernel_rfl)) ?_
  simp -implicitDefEqProofs only [go_sem, Try.results29]
  refine callF (HC) (by simp -implicitDefEqProofs only [go_sem]) ?_
  simp -implicitDefEqProofs only [go_sem]
 ·obtain ⟨h1, h2, h3, h4⟩ := zgc hk
  rw [hk] at HC
  rw [if_pos rfl]
  have hSl := zgj h1
  have HN := zsu S st (by omega) (by omega) (by omega) h4
  have hBl := zu1 S.length st
  generalize nd S.length st = B at HN hBl ⊢
  have hmt : ((B.map fun b => [T.bool b]).take S.length) = (B.take S.length).map fun b => [T.bool b] := by rw [List.map_take]
  refine zav Try.call29 Try.func29 rfl (by kernel_rfl) (zbi (by kernel_rfl)) ?_
  simp -implicitDefEqProofs only [go_sem, Try.results29]
  refine callF (HC) (by simp -implicitDefEqProofs only [go_sem]) ?_
  simp -implicitDefEqProofs only [go_sem]
  refine zbv (by simp -implicitDefEqProofs only [go_sem]) ?_
  simp -implicitDefEqProofs only [go_sem]
  refine callF (HN) (by simp -implicitDefEqProofs only [go_sem]) ?_
  simp -implicitDefEqProofs only [go_sem]
  refine sliceF 512 ?_
  simp -implicitDefEqProofs only [go_sem, List.length_map, hBl, hmt]
  refine ⟨by omega, ?_⟩
  have htl : (B.take S.length).length = S.length := by rw [List.length_take]; omega
  rw [htl]
  refine zaj (fun k : Nat => hd [(6, .one (.ow 416 (usP B k).length)), (19, .one (.rn (bolS (B.take S.length)))), (20, vI S.length), (21, vI k)] [] [(416, ⟨true, 1, (usP B k).map fun s => [.int .i64 s], (usP B k).length, true⟩)]) (fun k => k <= S.length) (fun k => S.length - k) 0 (zad ?_) (Nat.zero_le _) ?_
  ·simp -implicitDefEqProofs only [go_sem]
   rfl
  ·intro k hk
   by_cases hkl : k < S.length
   ·have hwk : IntKind.i64.wrap ((k : Int) + 1) = ((k + 1 : Nat) : Int) := zaw (by omega)
    have hkt : k < (B.take S.length).length := by omega
    have hgt : (B.take S.length)[k] = B[k] := List.getElem_take
    have hgb : B.getD k false = B[k] := by rw [List.getD_eq_getElem?_getD, List.getElem?_eq_getElem (by omega)]; rfl
    have hul := zg3 B k
    have hol : (usP B k).length <= 4294967295 := by omega
    have hu : usP B (k + 1) = usP B k ++ if B[k] = true then [(k : Int)] else [] := by rw [usP, hgb]
    cases hb : B[k]
    ·rw [hb, if_neg (by simp), List.append_nil] at hu
     rw [hb] at hgt
     simp -implicitDefEqProofs only [go_sem, hkl, zaf, hkt, hgt]
     rw [hwk]
     refine ⟨k + 1, hkl, by omega, zad ?_⟩
     simp -implicitDefEqProofs only [go_sem]
     rw [hu]
    ·rw [hb, if_pos rfl] at hu
     rw [hb] at hgt
     simp -implicitDefEqProofs only [go_sem, hkl, zaf, hkt, hgt]
     refine zbv (by simp -implicitDefEqProofs only [go_sem]) ?_
     simp -implicitDefEqProofs only [go_sem]
     refine apD true (by simp -implicitDefEqProofs only [go_sem, ne_eq, List.length_map, hol]) ?_
     simp -implicitDefEqProofs only [go_sem, ne_eq, List.length_map, hol]
     rw [hwk]
     refine ⟨k + 1, hkl, by omega, zad ?_⟩
     simp -implicitDefEqProofs only [go_sem]
     rw [hu, List.length_append, List.map_append]
     rfl
   ·have hkn : k = S.length := by omega
    subst hkn
    simp -implicitDefEqProofs only [go_sem, hkl]
    skip
set_option maxHeartbeats 1000000 in
theorem zsl (S : List (List Int)) (st : List Ps) : FC Try.prog 32 [.one (za9 S), .one (psS st)] [.one (za8 (usR S st).1), bD (usR S st).2] := by
 have H1 := zl9 S st
 unfold usR
 cases hk : zrl S st
 ·have hr : zez S st = false := by unfold zez; rw [hk]; rfl
  rw [hk] at H1
  rw [hr, if_neg (by simp)]
  refine zav Try.call32 Try.func32 rfl (by kernel_rfl) (zbi (by kernel_rfl)) ?_
  simp -implicitDefEqProofs only [go_sem, Try.results32]
  refine zbv (by simp -implicitDefEqProofs only [go_sem]) ?_
  simp -implicitDefEqProofs only [go_sem]
  refine callF (H1) (by simp -implicitDefEqProofs only [go_sem]) ?_
  simp -implicitDefEqProofs only [go_sem]
  skip
 ·rw [hk] at H1
  have hk' := hk
  unfold zrl at hk'
  rw [Bool.and_eq_true] at hk'
  have h2 : 1 <= st.length /\ st.length <= 200 := by have := hk'.2; unfold inB at this; simp at this; omega
  have HK := zmb S st hk'.1 (by omega)
  rcases chk_nn S st with hc | hc
  ·have hr : zez S st = true := by unfold zez; rw [hk, hc]; rfl
   obtain ⟨h1, _, h3, h4⟩ := zgc hr
   have hSl := zgj h1
   have HN := zjr S st (by omega) (by omega) (by omega) h4
   have hBl := zu1 S.length st
   rw [hr, if_pos rfl]
   rw [hc] at HK
   generalize nd S.length st = B at HN hBl ⊢
   refine zav Try.call32 Try.func32 rfl (by kernel_rfl) (zbi (by kernel_rfl)) ?_
   simp -implicitDefEqProofs only [go_sem, Try.results32]
   refine zbv (by simp -implicitDefEqProofs only [go_sem]) ?_
   simp -implicitDefEqProofs only [go_sem]
   refine callF (H1) (by simp -implicitDefEqProofs only [go_sem]) ?_
   simp -implicitDefEqProofs only [go_sem]
   refine callF (HK) (by simp -implicitDefEqProofs only [go_sem]) ?_
   simp -implicitDefEqProofs only [go_sem]
   refine callF (HN) (by simp -implicitDefEqProofs only [go_sem]) ?_
   simp -implicitDefEqProofs only [go_sem]
   refine zaj (fun k : Nat => hd [(0, vT (za9 S)), (6, .one (.ow 288 (usP B k).length)), (7, .one (.ow 736 0)), (8, vI k)] [] [(288, ⟨true, 1, (usP B k).map fun s => [.int .i64 s], (usP B k).length, true⟩), (736, ⟨true, 1, B.map fun b => [.bool b], 0, true⟩)]) (fun k => k <= S.length) (fun k => S.length - k) 0 (zad ?_) (Nat.zero_le _) ?_
   ·simp -implicitDefEqProofs only [go_sem]
    rfl
   ·intro k hk
    by_cases hkl : k < S.length
    ·have hwk : IntKind.i64.wrap ((k : Int) + 1) = ((k + 1 : Nat) : Int) := zaw (by omega)
     have hkt : k < B.length := by omega
     have hgb : B.getD k false = B[k] := by rw [List.getD_eq_getElem?_getD, List.getElem?_eq_getElem (by omega)]; rfl
     have hul := zg3 B k
     have hol : (usP B k).length <= 4294967295 := by omega
     have hu : usP B (k + 1) = usP B k ++ if B[k] = true then [(k : Int)] else [] := by rw [usP, hgb]
     cases hb : B[k]
     ·rw [hb, if_neg (by simp), List.append_nil] at hu
      simp -implicitDefEqProofs only [go_sem, hkl, zaf, hkt, hb]
      rw [hwk]
      refine ⟨k + 1, hkl, by omega, zad ?_⟩
      simp -implicitDefEqProofs only [go_sem]
      rw [hu]
     ·rw [hb, if_pos rfl] at hu
      simp -implicitDefEqProofs only [go_sem, hkl, zaf, hkt, hb]
      refine zbv (by simp -implicitDefEqProofs only [go_sem]) ?_
      simp -implicitDefEqProofs only [go_sem]
      refine apD true (by simp -implicitDefEqProofs only [go_sem, ne_eq, List.length_map, hol]) ?_
      simp -implicitDefEqProofs only [go_sem, ne_eq, List.length_map, hol]
      rw [hwk]
      refine ⟨k + 1, hkl, by omega, zad ?_⟩
      simp -implicitDefEqProofs only [go_sem]
      rw [hu, List.length_append, List.map_append]
      rfl
    ·have hkn : k = S.length := by omega
     subst hkn
     simp -implicitDefEqProofs only [go_sem, hkl]
     skip
  ·have hr : zez S st = false := by unfold zez; rw [hk, show (chk S st == -1) = false by simp; omega]; rfl
   rw [hr, if_neg (by simp)]
   have hc' : (0 <= chk S st) = True := by simpa using hc
   refine zav Try.call32 Try.func32 rfl (by kernel_rfl) (zbi (by kernel_rfl)) ?_
   simp -implicitDefEqProofs only [go_sem, Try.results32]
   refine zbv (by simp -implicitDefEqProofs only [go_sem]) ?_
   simp -implicitDefEqProofs only [go_sem]
   refine callF (H1) (by simp -implicitDefEqProofs only [go_sem]) ?_
   simp -implicitDefEqProofs only [go_sem]
   refine callF (HK) (by simp -implicitDefEqProofs only [go_sem, hc']) ?_
   simp -implicitDefEqProofs only [go_sem, hc']
   skip
end Go.Proofs.Yteeaofpphmhjdaa
namespace Go.Proofs.Yteeaofpphmhjdaa
set_option linter.unusedSimpArgs false
set_option linter.unusedVariables false
set_option linter.unusedSectionVars false
set_option maxRecDepth 4000
open Go.RowKit
def zej : (List Int) -> Nat -> (List Int) × Nat
 | s0, k => ((zcd s0 k).1, (zcd s0 k).2)
def zco : List (List Int) -> Nat -> List (List Int) × Nat
 | [], k => ([], k)
 | a :: xs, k => ((zej a k).1 :: (zco xs (zej a k).2).1, (zco xs (zej a k).2).2)
def zfs : (List Int) -> Nat
 | s0 => 1 + zhi s0
def zed : List (List Int) -> Nat
 | [] => 0
 | a :: xs => zfs a + zed xs
theorem zny : ∀ (a : (List Int)) (k : Nat), k <= (zej a k).2 /\ (zej a k).2 <= k + zfs a
 | s0, k => by have h_s0 := zee s0 k; simp only [zej, zfs]; omega
theorem zkt : ∀ (xs : List (List Int)) (k : Nat), k <= (zco xs k).2 /\ (zco xs k).2 <= k + zed xs
 | [], k => ⟨Nat.le_refl _, Nat.le_refl _⟩
 | a :: xs, k => by have h1 := zny a k; have h2 := zkt xs (zej a k).2; simp only [zco, zed]; omega
theorem zh8 : ∀ xs : List (List Int), xs.length <= zed xs
 | [] => Nat.le_refl _
 | a :: xs => by
  have := zh8 xs
  have : 1 <= zfs a := by simp only [zfs]; omega
  simp only [List.length_cons, zed]; omega
theorem zix (xs : List (List Int)) :
  ∀ k : Nat, 0 < k -> k + zed xs <= 4611686018427387904 -> IC Try.prog 38 [] (.one (za9 xs)) [iD k] (.one (za9 (zco xs k).1)) [iD (zco xs k).2] := by
 intro k h0 hk
 refine zpt Try.call38 Try.func38 rfl (by kernel_rfl) (by simp only [zc9, rd, List.map_cons, List.map_nil, List.nil_append, List.length_cons, List.length_nil, Try.ntmps38]; omega) (by simp only [Try.ntmps38]; omega) (fun vs => ?_)
 simp -implicitDefEqProofs only [go_sem, Try.results38, zso, zm4, zc9, PI]
 refine zaj (fun (x : List (List Int) × List (List Int) × Nat) => hd [(0, .one (.ow 0 0)), (1000000, .one (.ow 0 0)), (1, vI x.2.2), (5, vI x.1.length)] [] [(0, ⟨true, 1, x.1.map (fun s => [za8 s]) ++ zdd vs x.1.length (x.2.1.map (fun s => [za8 s])), 0, true⟩)])
  (fun x => (zco xs k).1 = x.1 ++ (zco x.2.1 x.2.2).1 /\ (zco xs k).2 = (zco x.2.1 x.2.2).2 /\ 0 < x.2.2 /\ x.2.2 + zed x.2.1 <= 4611686018427387904 /\ x.1.length + x.2.1.length = xs.length /\ ∀ a ∈ x.2.1, a ∈ xs) (fun x => x.2.1.length) ([], xs, k) (zad ?_) ?_ ?_
 ·simp -implicitDefEqProofs only [go_sem]
 ·exact ⟨rfl, rfl, h0, hk, by simp, fun _ h => h⟩
 ·intro ⟨dn, rest, kk⟩ ⟨h1, h2, h3, h4, h6, h5⟩
  simp only at h1 h2 h3 h4 h5 h6
  cases rest with
  | nil =>
   simp only [zco, List.append_nil] at h1 h2
   simp -implicitDefEqProofs only [go_sem, h1, h2]
  | cons s0 rest =>
   simp only [zco, zej, zed, zfs] at h1 h2 h4
   have hc_s0 := zee s0 kk
   have hln := zh8 xs
   rw [List.length_cons] at h6
   have wl : IntKind.i64.wrap ((dn.length : Int) + 1) = ((dn.length + 1 : Nat) : Int) := zaw (by omega)
   simp -implicitDefEqProofs only [go_sem, List.map_cons]
   refine callN (l := [(0, .one (.ow 0 0)), (1000000, .one (.ow 0 0)), (5, vI dn.length), (15, .one (.cv (vs dn.length 0))), (16, vI (kk : Nat))]) (bl := []) (el := [(0, ⟨true, 1, dn.map (fun s => [za8 s]) ++ [.pin (vs dn.length 0) (za8 s0)] :: zdd vs (dn.length + 1) (rest.map (fun s => [za8 s])), 0, true⟩)]) 0 dn.length 0 (zd2 s0 kk (by omega) (by omega)) (by simp -implicitDefEqProofs only [go_sem, za8]) rfl rfl rfl (by simp -implicitDefEqProofs only [go_sem, za8]) rfl ?_
   simp -implicitDefEqProofs only [go_sem, wl]
   refine ⟨(dn ++ [(zcd s0 kk).1], rest, (zcd s0 kk).2), ⟨by simpa using h1, h2, by show 0 < (zcd s0 kk).2; omega, by show (zcd s0 kk).2 + zed rest <= _; omega, by simp; omega, fun b hb => h5 b (by simp [hb])⟩, by simp, zad ?_⟩
   simp -implicitDefEqProofs only [go_sem, wl, List.map_cons, List.map_append, List.append_assoc]
theorem zju (xs : List (List Int)) (k : Nat) (h0 : 0 < k) (hk : k + zed xs <= 4611686018427387904) : IC Try.prog 38 [] (.one (za9 xs)) [iD k] (.one (za9 (zco xs k).1)) [iD (zco xs k).2] := zix xs k h0 hk
def zeo : Ps -> Nat -> Ps × Nat
 | ⟨l0, r0, p0, c0⟩, k => (⟨((k : Nat) : Int), (((k + 1) : Nat) : Int), ((((k + 1) + 1) : Nat) : Int), (zcd c0 (((k + 1) + 1) + 1)).1⟩, (zcd c0 (((k + 1) + 1) + 1)).2)
def zcv : List Ps -> Nat -> List Ps × Nat
 | [], k => ([], k)
 | a :: xs, k => ((zeo a k).1 :: (zcv xs (zeo a k).2).1, (zcv xs (zeo a k).2).2)
def zfi : Ps -> Nat
 | ⟨l0, r0, p0, c0⟩ => 1 + 1 + 1 + 1 + zhi c0
def zd4 : List Ps -> Nat
 | [] => 0
 | a :: xs => zfi a + zd4 xs
theorem znp : ∀ (a : Ps) (k : Nat), k <= (zeo a k).2 /\ (zeo a k).2 <= k + zfi a
 | ⟨l0, r0, p0, c0⟩, k => by have h_c0 := zee c0 (((k + 1) + 1) + 1); simp only [zeo, zfi]; omega
theorem zkp : ∀ (xs : List Ps) (k : Nat), k <= (zcv xs k).2 /\ (zcv xs k).2 <= k + zd4 xs
 | [], k => ⟨Nat.le_refl _, Nat.le_refl _⟩
 | a :: xs, k => by have h1 := znp a k; have h2 := zkp xs (zeo a k).2; simp only [zcv, zd4]; omega
theorem zh3 : ∀ xs : List Ps, xs.length <= zd4 xs
 | [] => Nat.le_refl _
 | a :: xs => by
  have := zh3 xs
  have : 1 <= zfi a := by obtain ⟨l0, r0, p0, c0⟩ := a; simp only [zfi]; omega
  simp only [List.length_cons, zd4]; omega
theorem ze0 (xs : List Ps) :
  ∀ k : Nat, 0 < k -> k + zd4 xs <= 4611686018427387904 -> IC Try.prog 39 [] (.one (psS xs)) [iD k] (.one (psS (zcv xs k).1)) [iD (zcv xs k).2] := by
 intro k h0 hk
 refine zpt Try.call39 Try.func39 rfl (by kernel_rfl) (by simp only [zc9, rd, List.map_cons, List.map_nil, List.nil_append, List.length_cons, List.length_nil, Try.ntmps39]; omega) (by simp only [Try.ntmps39]; omega) (fun vs => ?_)
 simp -implicitDefEqProofs only [go_sem, Try.results39, zso, zm4, zc9, PI]
 refine zaj (fun (x : List Ps × List Ps × Nat) => hd [(0, .one (.ow 0 0)), (1000000, .one (.ow 0 0)), (1, vI x.2.2), (5, vI x.1.length)] [] [(0, ⟨true, 4, x.1.map psC ++ zdd vs x.1.length (x.2.1.map psC), 0, true⟩)])
  (fun x => (zcv xs k).1 = x.1 ++ (zcv x.2.1 x.2.2).1 /\ (zcv xs k).2 = (zcv x.2.1 x.2.2).2 /\ 0 < x.2.2 /\ x.2.2 + zd4 x.2.1 <= 4611686018427387904 /\ x.1.length + x.2.1.length = xs.length /\ ∀ a ∈ x.2.1, a ∈ xs) (fun x => x.2.1.length) ([], xs, k) (zad ?_) ?_ ?_
 ·simp -implicitDefEqProofs only [go_sem]
 ·exact ⟨rfl, rfl, h0, hk, by simp, fun _ h => h⟩
 ·intro ⟨dn, rest, kk⟩ ⟨h1, h2, h3, h4, h6, h5⟩
  simp only at h1 h2 h3 h4 h5 h6
  cases rest with
  | nil =>
   simp only [zcv, List.append_nil] at h1 h2
   simp -implicitDefEqProofs only [go_sem, h1, h2]
  | cons a rest =>
   obtain ⟨l0, r0, p0, c0⟩ := a
   simp only [zcv, zeo, zd4, zfi] at h1 h2 h4
   have hc_c0 := zee c0 (((kk + 1) + 1) + 1)
   have w0 : IntKind.i64.wrap (((kk : Nat) : Int) + 1) = ((kk + 1 : Nat) : Int) := zaw (by omega)
   have w1 : IntKind.i64.wrap ((((kk + 1) : Nat) : Int) + 1) = (((kk + 1) + 1 : Nat) : Int) := zaw (by omega)
   have w2 : IntKind.i64.wrap (((((kk + 1) + 1) : Nat) : Int) + 1) = ((((kk + 1) + 1) + 1 : Nat) : Int) := zaw (by omega)
   have hln := zh3 xs
   rw [List.length_cons] at h6
   have wl : IntKind.i64.wrap ((dn.length : Int) + 1) = ((dn.length + 1 : Nat) : Int) := zaw (by omega)
   simp -implicitDefEqProofs only [go_sem, psC]
   refine zcw (by simp -implicitDefEqProofs only [go_sem, implies_true, w0, w1, w2]) ?_
   simp -implicitDefEqProofs only [go_sem, implies_true, w0, w1, w2]
   refine zcw (by simp -implicitDefEqProofs only [go_sem, implies_true, w0, w1, w2]) ?_
   simp -implicitDefEqProofs only [go_sem, implies_true, w0, w1, w2]
   refine zcw (by simp -implicitDefEqProofs only [go_sem, implies_true, w0, w1, w2]) ?_
   simp -implicitDefEqProofs only [go_sem, implies_true, w0, w1, w2]
   refine callN (l := [(0, .one (.ow 0 0)), (1000000, .one (.ow 0 0)), (5, vI dn.length), (37, .one (.cv (vs dn.length 3))), (38, vI ((((kk + 1) + 1) + 1) : Nat))]) (bl := []) (el := [(0, ⟨true, 4, dn.map psC ++ [.int .i64 ((kk : Nat) : Int), .int .i64 (((kk + 1) : Nat) : Int), .int .i64 ((((kk + 1) + 1) : Nat) : Int), .pin (vs dn.length 3) (za8 c0)] :: zdd vs (dn.length + 1) (rest.map psC), 0, true⟩)]) 0 dn.length 3 (zd2 c0 (((kk + 1) + 1) + 1) (by omega) (by omega)) (by simp -implicitDefEqProofs only [go_sem, w0, w1, w2, za8]) rfl rfl rfl (by simp -implicitDefEqProofs only [go_sem, za8]) rfl ?_
   simp -implicitDefEqProofs only [go_sem, w0, w1, w2]
   refine ⟨(dn ++ [⟨((kk : Nat) : Int), (((kk + 1) : Nat) : Int), ((((kk + 1) + 1) : Nat) : Int), (zcd c0 (((kk + 1) + 1) + 1)).1⟩], rest, (zcd c0 (((kk + 1) + 1) + 1)).2), ⟨by simpa using h1, h2, by show 0 < (zcd c0 (((kk + 1) + 1) + 1)).2; omega, by show (zcd c0 (((kk + 1) + 1) + 1)).2 + zd4 rest <= _; omega, by simp; omega, fun b hb => h5 b (by simp [hb])⟩, by simp, zad ?_⟩
   simp -implicitDefEqProofs only [go_sem, wl, psC, List.map_append, List.append_assoc]
theorem zfh (xs : List Ps) (k : Nat) (h0 : 0 < k) (hk : k + zd4 xs <= 4611686018427387904) : IC Try.prog 39 [] (.one (psS xs)) [iD k] (.one (psS (zcv xs k).1)) [iD (zcv xs k).2] := ze0 xs k h0 hk
end Go.Proofs.Yteeaofpphmhjdaa
namespace Go.Proofs.Yteeaofpphmhjdaa
set_option linter.unusedSimpArgs false
set_option linter.unusedVariables false
set_option linter.unusedSectionVars false
set_option maxRecDepth 4000
open Go.RowKit
theorem zj0 {α : Type} {f : α -> Nat} : ∀ {xs : List α} {x : α}, x ∈ xs -> f x <= (xs.map f).sum
 | y :: xs, x, h => by
  rw [List.map_cons, List.sum_cons]
  rcases List.mem_cons.1 h with rfl | h
  ·omega
  ·have := zj0 (f := f) h; omega
theorem szR_of {S : List (List Int)} {st : List Ps} (h1 : zbz S <= 1048576) (h2 : za2 st <= 1048576) : SzR S st := by
 unfold zbz at h1
 unfold za2 at h2
 refine ⟨by omega, by omega, fun c hc => ?_, fun s hs => ?_⟩
 ·have := zj0 (f := List.length) hc; omega
 ·have := zj0 (f := Ps.wt) hs
  unfold Ps.wt at this h2
  omega
theorem zqm : ∀ xs : List (List Int), zed xs <= 4 * zbz xs
 | [] => by simp [zed]
 | a :: xs => by
  have h2 := zqm xs
  have h1 := zhh a
  unfold zbz at h2 ⊢
  rw [zed, List.length_cons, List.map_cons, List.sum_cons, zfs]; omega
theorem zof : ∀ xs : List Ps, zd4 xs <= 8 * za2 xs
 | [] => by simp [zd4]
 | a :: xs => by
  have h2 := zof xs
  have h1 := zhh a.c
  unfold za2 at h2 ⊢
  rw [zd4, List.length_cons, List.map_cons, List.sum_cons, zfi, Ps.wt]; omega
set_option maxHeartbeats 2000000 in
theorem zvj (S : List (List Int)) (st : List Ps) : FC Try.prog 7 [.one (za9 S), .one (psS st)] [bD true] := by
 have HZ := zoz S 1048576 (by omega) (by omega)
 refine FC_ofN Try.call7 Try.func7 rfl (by kernel_rfl) (zbi (by kernel_rfl)) ?_
 simp -implicitDefEqProofs only [go_sem, Try.results7]
 refine callF (HZ) (by simp -implicitDefEqProofs only [go_sem]) ?_
 simp -implicitDefEqProofs only [go_sem]
 refine ⟨fun h => trivial, fun h => ?_⟩
 obtain ⟨hw1, hw2⟩ := zgy (show ¬ szR (zbz S) 1048576 < 0 by simpa using h)
 have HZ2 := zgz st (szR (zbz S) 1048576) (by omega) (by omega)
 refine callF (HZ2) (by simp -implicitDefEqProofs only [go_sem]) ?_
 simp -implicitDefEqProofs only [go_sem]
 refine ⟨fun h => trivial, fun h2 => ?_⟩
 obtain ⟨hw3, hw4⟩ := zgy (show ¬ szR (za2 st) (szR (zbz S) 1048576) < 0 by simpa using h2)
 have hw : zbz S <= 1048576 := by omega
 have hws : za2 st <= 1048576 := by omega
 have hsz := szR_of hw hws
 have HS := zsl S st
 have HI := zhk hsz
 have HT := zrb S hw
 have HT2 := zhd st hws
 have HE := zqr S S
 have HE2 := zgv st st
 have hRl : (usR S st).1.length <= 1048576 := by
  unfold usR
  split
  ·have := zg3 (nd S.length st) S.length
   have := hsz.s
   dsimp only; omega
  ·exact Nat.zero_le _
 generalize usR S st = x at HS HI hRl
 obtain ⟨R, G⟩ := x
 simp only at HS HI hRl
 have HF := zgp R R
 have n2 : ∀ b : Bool, (b != b) = false := by decide
 refine callF (HT) (by simp -implicitDefEqProofs only [go_sem]) ?_
 simp -implicitDefEqProofs only [go_sem]
 refine callF (HT2) (by simp -implicitDefEqProofs only [go_sem]) ?_
 simp -implicitDefEqProofs only [go_sem]
 refine callF (HS) (by simp -implicitDefEqProofs only [go_sem]) ?_
 simp -implicitDefEqProofs only [go_sem]
 refine callF (HT) (by simp -implicitDefEqProofs only [go_sem]) ?_
 simp -implicitDefEqProofs only [go_sem]
 refine callF (HT2) (by simp -implicitDefEqProofs only [go_sem]) ?_
 simp -implicitDefEqProofs only [go_sem]
 refine callF (HI) (by simp -implicitDefEqProofs only [go_sem]) ?_
 simp -implicitDefEqProofs only [go_sem]
 refine callF (HF) (by simp -implicitDefEqProofs only [go_sem, zax, beq_self_eq_true, bne_self_eq_false, Bool.not_true, n2]) ?_
 simp -implicitDefEqProofs only [go_sem, zax, beq_self_eq_true, bne_self_eq_false, Bool.not_true, n2]
 refine callF (HT) (by simp -implicitDefEqProofs only [go_sem]) ?_
 simp -implicitDefEqProofs only [go_sem]
 refine callF (HE) (by simp -implicitDefEqProofs only [go_sem, zax]) ?_
 simp -implicitDefEqProofs only [go_sem, zax]
 refine callF (HT2) (by simp -implicitDefEqProofs only [go_sem]) ?_
 simp -implicitDefEqProofs only [go_sem]
 refine callF (HE2) (by simp -implicitDefEqProofs only [go_sem, zax]) ?_
 simp -implicitDefEqProofs only [go_sem, zax]
 have hc1 := zqm S
 have hc2 := zof st
 have hcR := zhh R
 have HM := zju S 1 (by omega) (by omega)
 have hm := zkt S 1
 have HM1 := zfh st (zco S 1).2 (by omega) (by omega)
 have hm1 := zkp st (zco S 1).2
 have HM2 := zd2 R 1 (by omega) (by omega)
 have HL := zm1 R 1 (by omega) (by omega)
 have hmR := (zee R 1).1
 generalize (zco S 1).2 = k1 at HM HM1 hm hm1
 generalize (zcv st k1).2 = k3 at HM1 hm1
 generalize (zcv st k1).1 = f3 at HM1
 generalize (zco S 1).1 = f2 at HM
 generalize (zcd R 1).2 = k2 at HM2 HL hmR
 generalize (zcd R 1).1 = r1 at HM2 HL
 skip
 refine zjg [0, 1, 6, 7, 9, 10, 11, 64, 65] (HM) (by simp -implicitDefEqProofs only [go_sem]) (by simp -implicitDefEqProofs only [go_sem]) (by simp -implicitDefEqProofs only [go_sem]) (by simp -implicitDefEqProofs only [go_sem]) (by simp -implicitDefEqProofs only [go_sem]) rfl ?_
 simp -implicitDefEqProofs only [go_sem]
 refine zjg [0, 1, 6, 7, 10, 11, 67, 68] (HM1) (by simp -implicitDefEqProofs only [go_sem]) (by simp -implicitDefEqProofs only [go_sem]) (by simp -implicitDefEqProofs only [go_sem]) (by simp -implicitDefEqProofs only [go_sem]) (by simp -implicitDefEqProofs only [go_sem]) rfl ?_
 simp -implicitDefEqProofs only [go_sem]
 refine callF (HF) (by simp -implicitDefEqProofs only [go_sem, zax, beq_self_eq_true, bne_self_eq_false, Bool.not_true]) ?_
 simp -implicitDefEqProofs only [go_sem, zax, beq_self_eq_true, bne_self_eq_false, Bool.not_true]
 refine zjg [0, 1, 6, 7, 10, 11, 83, 84] (HM2) (by simp -implicitDefEqProofs only [go_sem]) (by simp -implicitDefEqProofs only [go_sem]) (by simp -implicitDefEqProofs only [go_sem]) (by simp -implicitDefEqProofs only [go_sem]) (by simp -implicitDefEqProofs only [go_sem]) rfl ?_
 simp -implicitDefEqProofs only [go_sem]
 refine callF (HL) (by simp -implicitDefEqProofs only [go_sem]) ?_
 simp -implicitDefEqProofs only [go_sem]
 refine ⟨fun h => by simp at h, fun _ => ?_⟩
 refine callF (HT) (by simp -implicitDefEqProofs only [go_sem]) ?_
 simp -implicitDefEqProofs only [go_sem]
 refine callF (HT2) (by simp -implicitDefEqProofs only [go_sem]) ?_
 simp -implicitDefEqProofs only [go_sem]
 refine callF (HI) (by simp -implicitDefEqProofs only [go_sem]) ?_
 simp -implicitDefEqProofs only [go_sem]
 refine callF (HF) (by simp -implicitDefEqProofs only [go_sem, zax, beq_self_eq_true, bne_self_eq_false, Bool.not_true, n2]) ?_
 simp -implicitDefEqProofs only [go_sem, zax, beq_self_eq_true, bne_self_eq_false, Bool.not_true, n2]
 refine callF (HL) (by simp -implicitDefEqProofs only [go_sem]) ?_
 simp -implicitDefEqProofs only [go_sem]
 refine ⟨fun h => by simp at h, fun _ => trivial⟩
end Go.Proofs.Yteeaofpphmhjdaa
