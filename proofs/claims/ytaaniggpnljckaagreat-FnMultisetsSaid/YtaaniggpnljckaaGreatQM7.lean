/-
  The walk over plain data, and contracts of functions of the program and of its laws.
  Conditions: those that each theorem names.
-/
import Derived.Test.YtaaniggpnljckaaGreatQM6
import Derived.Test.YtaaniggpnljckaaGreatQM5
import Derived.Test.YtaaniggpnljckaaGreatQM4
import Derived.Deep.LoopGhost
import Derived.Lib.SliceRun
import Derived.Test.YtaaniggpnljckaaGreatProg
import Derived.Laws.Externs
import Derived.Laws.CopyRow
import Derived.Deep.RegionLaw
namespace Go.Proofs.YtaaniggpnljckaaGreat
set_option linter.unusedSimpArgs false
set_option linter.unusedVariables false
set_option linter.unusedSectionVars false
set_option maxRecDepth 4000
open Go.RowKit
theorem fzXs {P : Program} {ops : Array Oper} {o : Oper} {os : List Oper} {ks : List Fr} {Q : Exit -> St -> Prop} {σ : St} (e : Nat) (k : zam (σ.ev e) fun x => x.deep = true /\ x.on = true /\ ztq P ops o os ks Q (σ.fz e x)) : ztq P ops o os ks Q σ := by
 obtain ⟨x, hx, h1, h2, h3⟩ := zal k
 exact za9.pre (zyo hx h1 h2) h3
theorem qdv (code : List UInt8) (l : List Int) (hl : 1 <= l.length) (hn : l.length <= 200) : Drw code 27 [.p 0, .d false (.one (ze4 l))] 1 (fun x : Int => (true, iD x)) (fun x => x ∈ l) := fun q hq hp => by
 have HN := zmt hq (by omega) l.length (by omega)
 have hb := q.pick_bd (n := l.length) (by omega)
 obtain ⟨j, hj⟩ : ∃ j : Nat, (q.pick l.length).2 = j := ⟨(q.pick l.length).2.toNat, by omega⟩
 have hjl : j < l.length := by omega
 refine ⟨(q.pick l.length).1, l[j], (q.pick_code _).trans hq, (q.pick_pos _).2, List.getElem_mem hjl, ?_⟩
 rw [hj] at HN
 refine zbl Tryz.call27 Tryz.func27 rfl (by kernel_rfl) (by simp only [List.length_cons, List.length_nil, Tryz.ntmps27]; omega) (by simp only [Tryz.ntmps27]; omega) rfl rfl (by simp [zar, T.isPin, AF.ds, bxA]) (by simp [gFS, T.fs, T.flat, AF.ds, bxA]) rfl ?_
 simp -implicitDefEqProofs only [go_sem, Tryz.results27]
 refine zaw [5, 1000000] [6, 8] [1000000] [] (HN) (by decide) rfl (by simp -implicitDefEqProofs only [go_sem, hjl, zaf]) (by simp -implicitDefEqProofs only [go_sem, hjl, zaf]) (by simp -implicitDefEqProofs only [go_sem, hjl, zaf]) (by simp -implicitDefEqProofs only [go_sem, hjl, zaf]) ?_
 simp -implicitDefEqProofs only [go_sem, hjl, zaf]
abbrev nm7 : List Str := [[97], [98], [102], [103], [112], [113], [114]]
abbrev am5 : List Int := [0, 0, 0, 1, 2]
def nmK (I : Nat -> Nat) : Nat -> List Str
 | 0 => nm7
 | k + 1 => (nmK I k).eraseIdx (I k)
def syK (I : Nat -> Nat) : Nat -> List Str
 | 0 => []
 | k + 1 => syK I k ++ [(nmK I k).getD (I k) []]
def wtK (A : Nat -> Int) (v : Int) : Nat -> List Int
 | 0 => []
 | k + 1 => wtK A v k ++ [v + A k]
theorem zt2 {I : Nat -> Nat} (h : ∀ k, k < 7 -> I k < 7 - k) : ∀ k, k <= 7 -> (nmK I k).length = 7 - k
 | 0, _ => rfl
 | k + 1, hk => by
  have ih := zt2 h k (by omega)
  have := h k (by omega)
  rw [nmK, List.length_eraseIdx, if_pos (by omega), ih]; omega
theorem zyf (I : Nat -> Nat) : ∀ k, (syK I k).length = k
 | 0 => rfl
 | k + 1 => by rw [syK, List.length_append, zyf I k]; rfl
theorem zzc (A : Nat -> Int) (v : Int) : ∀ k, (wtK A v k).length = k
 | 0 => rfl
 | k + 1 => by rw [wtK, List.length_append, zzc A v k]; rfl
theorem ordR (code : List UInt8) : ∀ (n : Nat) (q : Cu), n <= 7 -> q.code = code -> q.pos + 2 * n <= 1099511627776 →
  ∃ (Q R : Nat -> Cu) (I : Nat -> Nat) (A : Nat -> Int), Q 0 = q /\ (∀ k, k <= n -> (Q k).code = code /\ (Q k).pos <= q.pos + 2 * n) /\ ∀ k, k < n -> I k < n - k /\ A k ∈ am5 /\ PC Tryz.prog 16 (zbb code (Q k)) [.p 0, .d false (iD ((n - k : Nat) : Int))] (zbb code (R k)) [(true, iD (I k : Int))] ∧
   PC Tryz.prog 27 (zbb code (R k)) [.p 0, .d false (.one (ze4 am5))] (zbb code (Q (k + 1))) [(true, iD (A k))]
 | 0, q, _, hq, _ => ⟨fun _ => q, fun _ => q, fun _ => 0, fun _ => 0, rfl, fun k hk => ⟨hq, by simp⟩, fun k hk => absurd hk (by omega)⟩
 | n + 1, q, hn, hq, hp => by
  obtain ⟨q1, i, c1, p1, o1, H1⟩ := zfk code ((n + 1 : Nat) : Int) (by omega) (by omega) q hq (by omega)
  obtain ⟨j, rfl⟩ : ∃ j : Nat, i = j := ⟨i.toNat, by omega⟩
  obtain ⟨q2, a, c2, p2, o2, H2⟩ := qdv code am5 (by simp) (by simp) q1 c1 (by omega)
  obtain ⟨Q, R, I, A, e0, hQ, hX⟩ := ordR code n q2 (by omega) c2 (by omega)
  refine ⟨fun k => Nat.casesOn k q fun j => Q j, fun k => Nat.casesOn k q1 fun j => R j, fun k => Nat.casesOn k j fun j => I j, fun k => Nat.casesOn k a fun j => A j, rfl, fun k hk => ?_, fun k hk => ?_⟩
  ·cases k with
   | zero => exact ⟨hq, by show q.pos <= _; omega⟩
   | succ k =>
    have := hQ k (by omega)
    exact ⟨this.1, by show (Q k).pos <= _; omega⟩
  ·cases k with
   | zero =>
    refine ⟨by show j < _; omega, o2, H1, ?_⟩
    show PC _ _ (zbb code q1) _ (zbb code (Q 0)) _
    rw [e0]; exact H2
   | succ k =>
    have := hX k (by omega)
    rw [show n + 1 - (k + 1) = n - k by omega]
    exact this
abbrev ordS (code : List UInt8) (Q : Nat -> Cu) (I : Nat -> Nat) (A : Nat -> Int) (v : Int) (k : Nat) : St :=
 hd [(0, .one (.bx 1000000 0)), (2, .one (.bx 2 0)), (3, .one (.rn (zb6 (nmK I k)))), (4, .one (.bx 4 0)), (1000000, .one (.bx 1000000 0))] [(2, [.nl 1, .nl 1, .t (.int .i64 0)]), (4, [.ow 6000 k, .ow 6001 k, .t (.int .i64 v)]), (1000000, [.rn (zi7 code), .t (.int .i64 (Q k).pos), .t (.int .u64 (Q k).seed)])]
  [(6000, ⟨true, 1, (syK I k).map fun s => [.str s], k, true⟩), (6001, ⟨true, 1, (wtK A v k).map fun s => [.int .i64 s], k, true⟩)]
theorem zwv (xs : List Str) {i : Nat} (v : Str) (hi : i < xs.length) : zcy (xs.map fun s => [T.str s]) i 0 [.str v] = (xs.set i v).map fun s => [T.str s] := by
 unfold zcy setR
 rw [List.getD_eq_getElem?_getD, List.getElem?_map, List.getElem?_eq_getElem hi]
 simp [List.map_set]
theorem zw2 (xs : List Int) {i : Nat} (v : Int) (hi : i < xs.length) : zcy (xs.map fun s => [T.int .i64 s]) i 0 [.int .i64 v] = (xs.set i v).map fun s => [T.int .i64 s] := by
 unfold zcy setR
 rw [List.getD_eq_getElem?_getD, List.getElem?_map, List.getElem?_eq_getElem hi]
 simp [List.map_set]
abbrev sp5 : List Str := [[88], [], [102], [61], [120, 95, 49]]
abbrev am4 : List Int := [0, 101, 100, -1]
abbrev am3 : List Int := [0, 3, 101]
set_option maxHeartbeats 4000000 in
theorem zl7 (code : List UInt8) (q : Cu) (hq : q.code = code) (hp : q.pos + 20 <= 1099511627776) : ∃ (q' : Cu) (ow : Bool) (o : Og), q'.code = code /\ q'.pos <= q.pos + 20 /\ o.syms.length <= 1048576 /\ PC Tryz.prog 12 (zbb code q) [.p 0] (zbb code q') [(ow, ogD o)] := by
 obtain ⟨q1, y, c1, p1, o1, H1⟩ := zfk code 2 (by omega) (by omega) q hq (by omega)
 obtain ⟨Q, R, I, A, Q0, hQ, hX⟩ := ordR code 7 q1 (Nat.le_refl _) c1 (by omega)
 have hI : ∀ k, k < 7 -> I k < 7 - k := fun k hk => (hX k hk).1
 have hnl := zt2 hI
 have hsl := zyf I
 have hwv : IntKind.i64.wrap (1 + y) = 1 + y := zbd (by omega) (by omega)
 have hwl := zzc A (1 + y)
 obtain ⟨c7, p7⟩ := hQ 7 (Nat.le_refl _)
 obtain ⟨q8, x, c8, p8, o8, H8⟩ := zfk code 40 (by omega) (by omega) (Q 7) c7 (by omega)
 obtain ⟨q', ow, o', c', p', hol, HB⟩ : ∃ (q' : Cu) (ow : Bool) (o' : Og), q'.code = code /\ q'.pos <= q8.pos + 3 /\ o'.syms.length <= 7 ∧
   ((x = 0 /\ ow = true /\ ∃ s, o' = ⟨(syK I 7).set 0 s, wtK A (1 + y) 7, 1 + y⟩ /\ PC Tryz.prog 28 (zbb code q8) [.p 0, .d false (.one (zb6 sp5))] (zbb code q') [(true, .one (.str s))]) ∨
   (x = 1 /\ ow = true /\ ∃ (r : Cu) (j : Nat) (a : Int), j < 7 /\ o' = ⟨syK I 7, (wtK A (1 + y) 7).set j a, 1 + y⟩ /\ PC Tryz.prog 16 (zbb code q8) [.p 0, .d false (iD 7)] (zbb code r) [(true, iD (j : Int))] /\ PC Tryz.prog 27 (zbb code r) [.p 0, .d false (.one (ze4 am4))] (zbb code q') [(true, iD a)]) ∨
   (x = 2 /\ ow = true /\ ∃ a : Int, o' = ⟨syK I 7, wtK A (1 + y) 7, a⟩ /\ PC Tryz.prog 27 (zbb code q8) [.p 0, .d true (.one (ze4 am3))] (zbb code q') [(true, iD a)]) ∨
   (x = 3 /\ ow = false /\ q' = q8 /\ o' = ⟨syK I 7, (wtK A (1 + y) 7).drop 1, 1 + y⟩) ∨
   (x = 4 /\ ow = false /\ q' = q8 /\ o' = ⟨(syK I 7).drop 1, (wtK A (1 + y) 7).drop 1, 1 + y⟩) ∨
   (5 <= x /\ ow = true /\ q' = q8 /\ o' = ⟨syK I 7, wtK A (1 + y) 7, 1 + y⟩)) := by
  have h7 := hsl 7
  rcases (by omega : x = 0 \/ x = 1 \/ x = 2 \/ x = 3 \/ x = 4 \/ 5 <= x) with h | h | h | h | h | h
  ·obtain ⟨q9, s, c9, p9, o9, H9⟩ := ofR code sp5 (by simp) (by simp) q8 c8 (by omega)
   exact ⟨q9, true, _, c9, by omega, by simp only [List.length_set]; omega, Or.inl ⟨h, rfl, s, rfl, H9⟩⟩
  ·obtain ⟨q9, j, c9, p9, o9, H9⟩ := zfk code 7 (by omega) (by omega) q8 c8 (by omega)
   obtain ⟨j, rfl⟩ : ∃ i : Nat, j = i := ⟨j.toNat, by omega⟩
   obtain ⟨qa, a, ca, pa, oa, Ha⟩ := qdv code am4 (by simp) (by simp) q9 c9 (by omega)
   exact ⟨qa, true, _, ca, by omega, by simp only; omega, Or.inr (Or.inl ⟨h, rfl, q9, j, a, by omega, rfl, H9, Ha⟩)⟩
  ·obtain ⟨q9, a, c9, p9, o9, H9⟩ := amongD code am3 (by simp) (by simp) q8 c8 (by omega)
   exact ⟨q9, true, _, c9, by omega, by simp only; omega, Or.inr (Or.inr (Or.inl ⟨h, rfl, a, rfl, H9⟩))⟩
  ·exact ⟨q8, false, _, c8, by omega, by simp only; omega, Or.inr (Or.inr (Or.inr (Or.inl ⟨h, rfl, rfl, rfl⟩)))⟩
  ·exact ⟨q8, false, _, c8, by omega, by simp only [List.length_drop]; omega, Or.inr (Or.inr (Or.inr (Or.inr (Or.inl ⟨h, rfl, rfl, rfl⟩))))⟩
  ·exact ⟨q8, true, _, c8, by omega, by simp only; omega, Or.inr (Or.inr (Or.inr (Or.inr (Or.inr ⟨h, rfl, rfl, rfl⟩))))⟩
 refine ⟨q', ow, o', c', by omega, by omega, ?_⟩
 simp only [ogD, zax]
 refine zbl Tryz.call12 Tryz.func12 rfl (by kernel_rfl) (by simp only [List.length_cons, List.length_nil, Tryz.ntmps12]; omega) (by simp only [Tryz.ntmps12]; omega) rfl rfl (by simp [zar, T.isPin, AF.ds, bxA]) (by simp [gFS, T.fs, T.flat, AF.ds, bxA]) rfl ?_
 simp -implicitDefEqProofs only [go_sem, Tryz.results12]
 refine zay (by simp -implicitDefEqProofs only [go_sem]) ?_
 simp -implicitDefEqProofs only [go_sem]
 refine zxd 192 rfl rfl ?_
 simp -implicitDefEqProofs only [go_sem]
 refine zaw [0, 2, 3, 1000000] [7] [1000000] [] (H1) (by decide) rfl (by simp -implicitDefEqProofs only [go_sem, hwv]) (by simp -implicitDefEqProofs only [go_sem, hwv]) (by simp -implicitDefEqProofs only [go_sem, hwv]) (by simp -implicitDefEqProofs only [go_sem, hwv]) ?_
 simp -implicitDefEqProofs only [go_sem, hwv]
 refine zaj (fun k => ordS code Q I A (1 + y) k) (fun k => k <= 7) (fun k => 7 - k) 0 (zab ?_) (Nat.zero_le _) ?_
 ·rw [Q0]
  simp -implicitDefEqProofs only [go_sem, nmK, syK, wtK, List.map_nil]
  rfl
 ·intro k hk
  by_cases hlt : k < 7
  ·obtain ⟨hi, ha, HP, HA⟩ := hX k hlt
   have hlk := hnl k (by omega)
   rw [<- hlk] at HP
   have hgt : ((0 : Int) < ((nmK I k).length : Int)) = True := eq_true (by omega)
   have hIl : I k < (nmK I k).length := by omega
   have hIi : ((I k : Int) < ((nmK I k).length : Int)) = True := eq_true (by omega)
   have hgd : (nmK I k).getD (I k) [] = (nmK I k)[I k] := by rw [List.getD_eq_getElem?_getD, List.getElem?_eq_getElem hIl]; rfl
   have hs1 : (syK I k).length <= 4294967295 := by rw [hsl]; omega
   have hs2 : (wtK A (1 + y) k).length <= 4294967295 := by rw [hwl]; omega
   have hw1 : IntKind.i64.wrap ((I k : Int) + 1) = ((I k + 1 : Nat) : Int) := by rw [zbd (by omega) (by omega)]; omega
   have hIk : I k <= (nmK I k).length := by omega
   have hIk1 : I k + 1 <= (nmK I k).length := by omega
   have ha2 : 0 <= A k /\ A k <= 2 := by simp at ha; omega
   have hwa : IntKind.i64.wrap (1 + y + A k) = 1 + y + A k := zbd (by omega) (by omega)
   simp only [ze4, am5, List.map_cons, List.map_nil] at HA
   have hm1 : min (I k) (nmK I k).length <= 4294967296 := by omega
   have hm2 : min (I k) (nmK I k).length + ((nmK I k).length - (I k + 1)) <= 4294967296 := by omega
   show ex _ _ _ _ (hd _ _ _)
   simp -implicitDefEqProofs only [go_sem, hgt]
   refine zaw [0, 2, 3, 4, 1000000] [14, 16] [1000000] [] (HP) (by decide) rfl (by simp -implicitDefEqProofs only [go_sem]) (by simp -implicitDefEqProofs only [go_sem]) (by simp -implicitDefEqProofs only [go_sem]) (by simp -implicitDefEqProofs only [go_sem]) ?_
   simp -implicitDefEqProofs only [go_sem]
   refine drawn (by kernel_rfl) ?_
   simp -implicitDefEqProofs only [go_sem, hIl, zbq (nmK I k) hIl]
   refine zb7 (by simp -implicitDefEqProofs only [go_sem]) ?_
   simp -implicitDefEqProofs only [go_sem]
   refine zlk true (by simp -implicitDefEqProofs only [go_sem, ne_eq, List.length_map, hs1]) ?_
   simp -implicitDefEqProofs only [go_sem, ne_eq, List.length_map, hs1]
   refine ⟨by kernel_rfl, ?_⟩
   refine drawn (by kernel_rfl) ?_
   simp -implicitDefEqProofs only [go_sem, hIk, hIk1, hw1]
   refine zb7 (by simp -implicitDefEqProofs only [go_sem, hIk, hIk1, hw1]) ?_
   simp -implicitDefEqProofs only [go_sem, hIk, hIk1, hw1]
   refine zlk true (by simp -implicitDefEqProofs only [go_sem, hIk, hIk1, hw1, ne_eq, Nat.zero_add, hm1, hm2, zbg, zbf, zcv, List.length_drop, List.length_take, List.length_append, List.length_map]) ?_
   simp -implicitDefEqProofs only [go_sem, hIk, hIk1, hw1, ne_eq, Nat.zero_add, hm1, hm2, zbg, zbf, zcv, List.length_drop, List.length_take, List.length_append, List.length_map]
   refine zlk true (by simp -implicitDefEqProofs only [go_sem, hIk, hIk1, hw1, ne_eq, Nat.zero_add, hm1, hm2, zbg, zbf, zcv, List.length_drop, List.length_take, List.length_append, List.length_map]) ?_
   simp -implicitDefEqProofs only [go_sem, hIk, hIk1, hw1, ne_eq, Nat.zero_add, hm1, hm2, zbg, zbf, zcv, List.length_drop, List.length_take, List.length_append, List.length_map]
   refine ⟨by kernel_rfl, ?_⟩
   refine drawn (by kernel_rfl) ?_
   simp -implicitDefEqProofs only [go_sem]
   refine zlb (by simp -implicitDefEqProofs only [go_sem]) (by simp -implicitDefEqProofs only [go_sem]) ?_
   simp -implicitDefEqProofs only [go_sem]
   refine zd3 [1000000] (HA) (by decide) (by simp -implicitDefEqProofs only [go_sem]) (by simp -implicitDefEqProofs only [go_sem]) ?_
   simp -implicitDefEqProofs only [go_sem]
   rw [hwa]
   refine zb7 (by simp -implicitDefEqProofs only [go_sem]) ?_
   simp -implicitDefEqProofs only [go_sem]
   refine zlk true (by simp -implicitDefEqProofs only [go_sem, ne_eq, List.length_map, hs2]) ?_
   simp -implicitDefEqProofs only [go_sem, ne_eq, List.length_map, hs2]
   refine ⟨by kernel_rfl, k + 1, by omega, by omega, Wk.fzO 864 ?_⟩
   simp -implicitDefEqProofs only [go_sem]
   refine zab ?_
   simp -implicitDefEqProofs only [go_sem, nmK, syK, wtK, hgd, List.map_append, List.map_cons, List.map_nil]
   rw [List.eraseIdx_eq_take_drop_succ, zb6, List.map_append, List.map_take, List.map_drop]
  ·obtain rfl : k = 7 := by omega
   have hl7 := hnl 7 (by omega)
   have hgt : ((0 : Int) < ((nmK I 7).length : Int)) = False := eq_false (by omega)
   have hs7 := hsl 7
   have hw7 := hwl 7
   show ex _ _ _ _ (hd _ _ _)
   generalize syK I 7 = sy at HB hs7 ⊢
   generalize wtK A (1 + y) 7 = wt at HB hw7 ⊢
   simp -implicitDefEqProofs only [go_sem, hgt]
   refine zaw [0, 2, 4, 1000000] [48] [1000000] [] (H8) (by decide) rfl (by simp -implicitDefEqProofs only [go_sem]) (by simp -implicitDefEqProofs only [go_sem]) (by simp -implicitDefEqProofs only [go_sem]) (by simp -implicitDefEqProofs only [go_sem]) ?_
   simp -implicitDefEqProofs only [go_sem]
   rcases HB with ⟨rfl, rfl, s, rfl, H9⟩ | ⟨rfl, rfl, r, j, a, hj, rfl, H9, Ha⟩ | ⟨rfl, rfl, a, rfl, H9⟩ | ⟨rfl, rfl, rfl, rfl⟩ | ⟨rfl, rfl, rfl, rfl⟩ | ⟨h5, rfl, rfl, rfl⟩
   ·have h0 : (0 : Int) < (sy.length : Int) := by omega
    have h0' := eq_true h0
    have h0n : 0 < sy.length := by omega
    simp only [zb6, List.map_cons, List.map_nil] at H9
    simp -implicitDefEqProofs only [go_sem]
    refine drawn (by kernel_rfl) ?_
    simp -implicitDefEqProofs only [go_sem, List.length_map, h0', h0n]
    refine zlb (by simp -implicitDefEqProofs only [go_sem]) (by simp -implicitDefEqProofs only [go_sem]) ?_
    simp -implicitDefEqProofs only [go_sem]
    refine zd3 [1000000] (H9) (by decide) (by simp -implicitDefEqProofs only [go_sem, List.length_map, h0', h0n]) (by simp -implicitDefEqProofs only [go_sem, List.length_map, h0', h0n]) ?_
    simp -implicitDefEqProofs only [go_sem, List.length_map, h0', h0n]
    refine zvz (by simp -implicitDefEqProofs only [go_sem]; simp) ?_
    simp -implicitDefEqProofs only [go_sem, zwv sy s h0n]
    kernel_rfl
   ·have hjw : j < wt.length := by omega
    have hjt : ((j : Int) < (wt.length : Int)) = True := eq_true (by omega)
    simp only [ze4, List.map_cons, List.map_nil] at Ha
    simp -implicitDefEqProofs only [go_sem]
    refine drawn (by kernel_rfl) ?_
    simp -implicitDefEqProofs only [go_sem]
    refine zd3 [1000000] (H9) (by decide) (by simp -implicitDefEqProofs only [go_sem]) (by simp -implicitDefEqProofs only [go_sem]) ?_
    simp -implicitDefEqProofs only [go_sem]
    refine zlb (by simp -implicitDefEqProofs only [go_sem]) (by simp -implicitDefEqProofs only [go_sem]) ?_
    simp -implicitDefEqProofs only [go_sem]
    refine zd3 [1000000] (Ha) (by decide) (by simp -implicitDefEqProofs only [go_sem, List.length_map, hjt, hjw]) (by simp -implicitDefEqProofs only [go_sem, List.length_map, hjt, hjw]) ?_
    simp -implicitDefEqProofs only [go_sem, List.length_map, hjt, hjw]
    refine zvz (by simp -implicitDefEqProofs only [go_sem]; simp) ?_
    simp -implicitDefEqProofs only [go_sem, zw2 wt a hjw]
    kernel_rfl
   ·simp -implicitDefEqProofs only [go_sem]
    refine zay (by simp -implicitDefEqProofs only [go_sem]) ?_
    simp -implicitDefEqProofs only [go_sem]
    refine zaw [2, 4, 1000000] [70, 71] [1000000] [] (H9) (by decide) rfl (by simp -implicitDefEqProofs only [go_sem]) (by simp -implicitDefEqProofs only [go_sem]) (by simp -implicitDefEqProofs only [go_sem]) (by simp -implicitDefEqProofs only [go_sem]) ?_
    simp -implicitDefEqProofs only [go_sem]
   ·have g1 : 1 <= wt.length := by omega
    have g1' : ((1 : Int) <= (wt.length : Int)) = True := eq_true (by omega)
    simp -implicitDefEqProofs only [go_sem]
    refine fzXs 6000 ?_
    simp -implicitDefEqProofs only [go_sem]
    refine zzb 6001 ?_
    simp -implicitDefEqProofs only [go_sem, List.length_map, g1, g1']
    left
    rw [List.take_of_length_le (by rw [List.length_map]; exact Nat.le_refl _), ze4, List.map_drop]
   ·have g1 : 1 <= wt.length := by omega
    have g2 : 1 <= sy.length := by omega
    have g1' : ((1 : Int) <= (wt.length : Int)) = True := eq_true (by omega)
    have g2' : ((1 : Int) <= (sy.length : Int)) = True := eq_true (by omega)
    simp -implicitDefEqProofs only [go_sem]
    refine zzb 6000 ?_
    simp -implicitDefEqProofs only [go_sem, List.length_map, g1, g2, g1', g2']
    refine zzb 6001 ?_
    simp -implicitDefEqProofs only [go_sem, List.length_map, g1, g2, g1', g2']
    left
    rw [List.take_of_length_le (by rw [List.length_map]; exact Nat.le_refl _), List.take_of_length_le (by rw [List.length_map]; exact Nat.le_refl _), ze4, zb6, List.map_drop, List.map_drop]
    exact ⟨rfl, rfl⟩
   ·have e0 : (x == 0) = false := by rw [beq_eq_false_iff_ne]; omega
    have e1 : (x == 1) = false := by rw [beq_eq_false_iff_ne]; omega
    have e2 : (x == 2) = false := by rw [beq_eq_false_iff_ne]; omega
    have e3 : (x == 3) = false := by rw [beq_eq_false_iff_ne]; omega
    have e4 : (x == 4) = false := by rw [beq_eq_false_iff_ne]; omega
    simp -implicitDefEqProofs only [go_sem, e0, e1, e2, e3, e4]
end Go.Proofs.YtaaniggpnljckaaGreat
namespace Go.Proofs.YtaaniggpnljckaaGreat
set_option linter.unusedSimpArgs false
set_option linter.unusedVariables false
set_option linter.unusedSectionVars false
set_option maxRecDepth 4000
open Go.RowKit
def zrT : Tm := .mk [] []
abbrev tlS (code : List UInt8) (q : Cu) (X : Nat -> Tm) (m k : Nat) : St := hd [(0, .one (.bx 1000000 0)), (3, .one (.ow 6000 k)), (4, vI ((m : Int) - k)), (1000000, .one (.bx 1000000 0))] [(1000000, [.rn (zi7 code), .t (.int .i64 q.pos), .t (.int .u64 q.seed)])] [(6000, ⟨true, 2, (upX X k).map tmC, k, true⟩)]
abbrev tlF (code : List UInt8) (q : Cu) (X Y : Nat -> Tm) (m k : Nat) : St := hd [(0, .one (.bx 1000000 0)), (3, .one (.ow 6001 k)), (1000000, .one (.bx 1000000 0))] [(1000000, [.rn (zi7 code), .t (.int .i64 q.pos), .t (.int .u64 q.seed)])] [(6001, ⟨true, 2, (upX X m ++ upX Y k).map tmC, k, true⟩)]
structure TlOk (l : List Tm) : Prop where
 len : l.length <= 20
 wt : ∀ t ∈ l, t.wt <= 400
theorem znu {α β : Type} (f : α -> β) (xs ys : List α) (x : α) : (xs ++ (ys ++ [x])).map f = (xs ++ ys).map f ++ [f x] := by
 rw [<- List.append_assoc, List.map_append, List.map_cons, List.map_nil]
set_option maxHeartbeats 1000000 in
theorem qd5 (code : List UInt8) : Drw code 13 [.p 0] 400 (fun l : List Tm => (true, .one (tmS l))) TlOk := fun q hq hp => by
 obtain ⟨q1, n1, c1, p1, o1, H1⟩ := zfk code 4 (by omega) (by omega) q hq (by omega)
 obtain ⟨m, rfl⟩ : ∃ m : Nat, n1 = m := ⟨n1.toNat, by omega⟩
 obtain ⟨Q, X, Q0, hQ, hX⟩ := zza zrT (zf8 code) m q1 c1 (by omega)
 obtain ⟨cQ, pQ⟩ := hQ m (Nat.le_refl _)
 have hm : m <= 3 := by omega
 have hm1 : m * 14 <= 42 := by omega
 obtain ⟨q2, b, c2, p2, _, H2⟩ := zzn code 40 (by omega) (Q m) cQ (by omega)
 obtain ⟨q3, Y, n, c3, p3, hn, hYw, HB⟩ : ∃ (q3 : Cu) (Y : Nat -> Tm) (n : Nat), q3.code = code /\ q3.pos <= q2.pos + 200 /\ n <= 10 /\ (∀ k, k < n -> (Y k).wt <= 400) /\ (b = false /\ q3 = q2 /\ n = 0 \/ b = true /\ ∃ (R S : Nat -> Cu) (B : Nat -> Int), R 0 = q2 /\ S n = q3 /\ (∀ k, k <= n -> (0 <= B k /\ B k < 2) /\ PC Tryz.prog 16 (zbb code (R k)) [.p 0, .d false (iD 2)] (zbb code (S k)) [(true, iD (B k))]) /\ (∀ k, k < n -> ((m + k : Nat) : Int) < (8 : Nat) + B k /\ PC Tryz.prog 29 (zbb code (S k)) [.p 0] (zbb code (R (k + 1))) [(true, tmD (Y k))]) /\ ¬ (((m + n : Nat) : Int) < (8 : Nat) + B n)) := by
  cases b
  ·exact ⟨q2, fun _ => zrT, 0, c2, by omega, by omega, fun k hk => absurd hk (by omega), Or.inl ⟨rfl, rfl, rfl⟩⟩
  ·obtain ⟨n, R, S, B, Y, hn, R0, hR, hY, hE⟩ := qfe zrT (zf8 code) 8 (9 - m) m q2 (by omega) c2 (by omega)
   have eR := hR n (Nat.le_refl _)
   refine ⟨S n, Y, n, eR.2.1, ?_, by omega, fun k hk => ?_, Or.inr ⟨rfl, R, S, B, R0, rfl, fun k hk => (hR k hk).2.2.2, fun k hk => ⟨(hY k hk).1, (hY k hk).2.2⟩, hE⟩⟩
   ·have := eR.2.2.1
    have : (9 - m) * (14 + 1) <= 9 * 15 := Nat.mul_le_mul (by omega) (Nat.le_refl _)
    omega
   ·have := (hY k hk).2.1.1; omega
 refine ⟨q3, upX X m ++ upX Y n, c3, (by omega : q3.pos <= q.pos + 400), ⟨?_, fun t ht => ?_⟩, ?_⟩
 ·show (upX X m ++ upX Y n).length <= 20
  rw [List.length_append, za7, za7]; omega
 ·rcases List.mem_append.1 ht with h | h
  ·obtain ⟨i, hi, rfl⟩ := zkg h
   have := (hX i hi).1.1; omega
  ·obtain ⟨i, hi, rfl⟩ := zkg h
   exact hYw i hi
 clear hQ
 refine zbl Tryz.call13 Tryz.func13 rfl (by kernel_rfl) (by simp only [List.length_cons, List.length_nil, Tryz.ntmps13]; omega) (by simp only [Tryz.ntmps13]; omega) rfl rfl (by simp [zar, T.isPin, AF.ds, bxA]) (by simp [gFS, T.fs, T.flat, AF.ds, bxA]) rfl ?_
 simp -implicitDefEqProofs only [go_sem, Tryz.results13]
 refine zay (by simp -implicitDefEqProofs only [go_sem]) ?_
 simp -implicitDefEqProofs only [go_sem]
 refine callQ [1000000] (H1) (by decide) (by simp -implicitDefEqProofs only [go_sem]) (by simp -implicitDefEqProofs only [go_sem]) ?_
 simp -implicitDefEqProofs only [go_sem]
 refine zaj (fun k => tlS code (Q k) X m k) (fun k => k <= m) (fun k => m - k) 0 (zc7 160 6000 ?_) (Nat.zero_le _) ?_
 ·rw [Q0]
  simp -implicitDefEqProofs only [go_sem, zey, List.map_nil]
  rw [Int.sub_zero]
 ·intro k hk
  by_cases hlt : k < m
  ·have h0 : ((m : Int) - (k : Int) > 0) = True := by simp; omega
   have hwk : IntKind.i64.wrap ((m : Int) - (k : Int) - 1) = (m : Int) - ((k + 1 : Nat) : Int) := by rw [zbd (by omega) (by omega)]; omega
   have HX := (hX k hlt).2
   have hk4 : k <= 4294967295 := by omega
   simp only [tmD, zaa (X k)] at HX
   show ex _ _ _ _ (hd _ _ _)
   simp -implicitDefEqProofs only [go_sem, h0]
   refine callQ [1000000] (HX) (by decide) (by simp -implicitDefEqProofs only [go_sem]) (by simp -implicitDefEqProofs only [go_sem]) ?_
   simp -implicitDefEqProofs only [go_sem]
   refine zay (by simp -implicitDefEqProofs only [go_sem]) ?_
   simp -implicitDefEqProofs only [go_sem]
   refine apD true (by simp -implicitDefEqProofs only [go_sem, ne_eq, List.length_map, za7, hk4]) ?_
   simp -implicitDefEqProofs only [go_sem, ne_eq, List.length_map, za7, hk4]
   refine ⟨k + 1, by omega, by omega, zab ?_⟩
   rw [zhb, List.map_append, List.map_cons, List.map_nil, zaa (X k)]
   simp -implicitDefEqProofs only [go_sem]
   rw [hwk]
  ·have h0 : ((m : Int) - (k : Int) > 0) = False := by simp; omega
   have e : k = m := by omega
   subst e
   show ex _ _ _ _ (hd _ _ _)
   simp -implicitDefEqProofs only [go_sem, h0]
   refine callQ [1000000] (H2) (by decide) (by simp -implicitDefEqProofs only [go_sem]) (by simp -implicitDefEqProofs only [go_sem]) ?_
   simp -implicitDefEqProofs only [go_sem]
   rcases HB with ⟨rfl, rfl, rfl⟩ | ⟨rfl, R, S, B, R0, rfl, hS, hY, hE⟩
   ·simp -implicitDefEqProofs only [go_sem]
    left
    left
    rw [zey, List.append_nil]
   ·simp -implicitDefEqProofs only [go_sem]
    rw [<- R0]
    refine zaj (fun j => tlF code (R j) X Y k j) (fun j => j <= n) (fun j => n - j) 0 (zc7 6000 6001 ?_) (Nat.zero_le _) ?_
    ·simp -implicitDefEqProofs only [go_sem, zey, List.append_nil]
    ·intro j hj
     obtain ⟨hb, HP⟩ := hS j hj
     have hw : IntKind.i64.wrap (8 + B j) = 8 + B j := zbd (by omega) (by omega)
     by_cases hlt2 : j < n
     ·obtain ⟨hc, HX⟩ := hY j hlt2
      have h1 : (((k + j : Nat) : Int) < 8 + B j) = True := eq_true hc
      have hl2 : k + j <= 4294967295 := by omega
      simp only [tmD, zaa (Y j)] at HX
      show ex _ _ _ _ (hd _ _ _)
      simp -implicitDefEqProofs only [go_sem, List.length_map, List.length_append, za7]
      refine callQ [1000000] (HP) (by decide) (by simp -implicitDefEqProofs only [go_sem, hw, List.length_map, List.length_append, za7, h1]) (by simp -implicitDefEqProofs only [go_sem, hw, List.length_map, List.length_append, za7, h1]) ?_
      simp -implicitDefEqProofs only [go_sem, hw, List.length_map, List.length_append, za7, h1]
      refine callQ [1000000] (HX) (by decide) (by simp -implicitDefEqProofs only [go_sem]) (by simp -implicitDefEqProofs only [go_sem]) ?_
      simp -implicitDefEqProofs only [go_sem]
      refine zay (by simp -implicitDefEqProofs only [go_sem]) ?_
      simp -implicitDefEqProofs only [go_sem]
      refine apD true (by simp -implicitDefEqProofs only [go_sem, ne_eq, List.length_map, List.length_append, za7, hl2]) ?_
      simp -implicitDefEqProofs only [go_sem, ne_eq, List.length_map, List.length_append, za7, hl2]
      refine ⟨j + 1, by omega, by omega, zab ?_⟩
      rw [zhb, znu, zaa (Y j)]
      simp -implicitDefEqProofs only [go_sem]
     ·have e : j = n := by omega
      subst e
      have h1 : (((k + j : Nat) : Int) < 8 + B j) = False := eq_false hE
      show ex _ _ _ _ (hd _ _ _)
      simp -implicitDefEqProofs only [go_sem, List.length_map, List.length_append, za7]
      refine callQ [1000000] (HP) (by decide) (by simp -implicitDefEqProofs only [go_sem, hw, List.length_map, List.length_append, za7, h1]) (by simp -implicitDefEqProofs only [go_sem, hw, List.length_map, List.length_append, za7, h1]) ?_
      simp -implicitDefEqProofs only [go_sem, hw, List.length_map, List.length_append, za7, h1]
end Go.Proofs.YtaaniggpnljckaaGreat
namespace Go.Proofs.YtaaniggpnljckaaGreat
set_option linter.unusedSimpArgs false
set_option linter.unusedVariables false
set_option linter.unusedSectionVars false
set_option maxRecDepth 4000
open Go.RowKit
set_option maxHeartbeats 1000000 in
theorem qg8 (code : List UInt8) (q : Cu) (hq : q.code = code) (hp : q.pos + 120 <= 1099511627776) : ∃ (q' : Cu) (s t : Tm), q'.code = code /\ q'.pos <= q.pos + 120 /\ (s.wt <= 400 /\ t.wt <= 400) /\ PC Tryz.prog 54 (zbb code q) [.p 0] (zbb code q') [(true, tmD s), (true, tmD t)] := by
 obtain ⟨q1, s, c1, p1, o1, H1⟩ := zf8 code q hq (by omega)
 obtain ⟨q2, t, c2, p2, o2, H2⟩ := zf8 code q1 c1 (by omega)
 obtain ⟨q3, x, c3, p3, o3, H3⟩ := zfk code 6 (by omega) (by omega) q2 c2 (by omega)
 obtain ⟨ws, _⟩ := o1
 obtain ⟨wt, _⟩ := o2
 have HS := zow s (by omega)
 have HT := zow t (by omega)
 obtain ⟨q4, s', t', c4, p4, ws', wt', HB⟩ : ∃ (q4 : Cu) (s' t' : Tm), q4.code = code /\ q4.pos <= q3.pos + 28 /\ s'.wt <= 400 /\ t'.wt <= 400 ∧
   ((x = 0 /\ q4 = q3 /\ s' = s /\ t' = .mk [102] [s]) ∨
   (x = 1 /\ ∃ u : Tm, PC Tryz.prog 29 (zbb code q3) [.p 0] (zbb code q4) [(true, tmD u)] /\ s' = .mk [103] [t, u] /\ t' = t) ∨
   (x = 2 /\ ∃ (r : Cu) (u v : Tm), PC Tryz.prog 29 (zbb code q3) [.p 0] (zbb code r) [(true, tmD u)] /\ PC Tryz.prog 29 (zbb code r) [.p 0] (zbb code q4) [(true, tmD v)] /\ s' = .mk [103] [s, v] /\ t' = .mk [103] [s, u]) ∨
   (3 <= x /\ q4 = q3 /\ s' = s /\ t' = t)) := by
  rcases (by omega : x = 0 \/ x = 1 \/ x = 2 \/ 3 <= x) with h | h | h | h
  ·exact ⟨q3, s, .mk [102] [s], c3, by omega, by omega, by rw [zce]; simp only [List.length_cons, List.length_nil, List.map_cons, List.map_nil, List.sum_cons, List.sum_nil]; omega, Or.inl ⟨h, rfl, rfl, rfl⟩⟩
  ·obtain ⟨q4, u, c4, p4, ⟨ou, _⟩, H4⟩ := zf8 code q3 c3 (by omega)
   exact ⟨q4, .mk [103] [t, u], t, c4, by omega, by rw [zce]; simp only [List.length_cons, List.length_nil, List.map_cons, List.map_nil, List.sum_cons, List.sum_nil]; omega, by omega, Or.inr (Or.inl ⟨h, u, H4, rfl, rfl⟩)⟩
  ·obtain ⟨r, u, cr, pr, ⟨ou, _⟩, HR⟩ := zf8 code q3 c3 (by omega)
   obtain ⟨q4, v, c4, p4, ⟨ov, _⟩, H4⟩ := zf8 code r cr (by omega)
   exact ⟨q4, .mk [103] [s, v], .mk [103] [s, u], c4, by omega, by rw [zce]; simp only [List.length_cons, List.length_nil, List.map_cons, List.map_nil, List.sum_cons, List.sum_nil]; omega, by rw [zce]; simp only [List.length_cons, List.length_nil, List.map_cons, List.map_nil, List.sum_cons, List.sum_nil]; omega, Or.inr (Or.inr (Or.inl ⟨h, r, u, v, HR, H4, rfl, rfl⟩))⟩
  ·exact ⟨q3, s, t, c3, by omega, by omega, by omega, Or.inr (Or.inr (Or.inr ⟨h, rfl, rfl, rfl⟩))⟩
 obtain ⟨q5, b, c5, p5, _, H5⟩ := zzn code 20 (by omega) q4 c4 (by omega)
 obtain ⟨q', t'', c', p', wt'', HE⟩ : ∃ (q' : Cu) (t'' : Tm), q'.code = code /\ q'.pos <= q5.pos + 60 /\ t''.wt <= 400 /\ (b = false /\ q' = q5 /\ t'' = t' \/ b = true /\ PC Tryz.prog 78 (zbb code q5) [.p 0] (zbb code q') [(true, tmD t'')]) := by
  cases b
  ·exact ⟨q5, t', c5, by omega, wt', Or.inl ⟨rfl, rfl, rfl⟩⟩
  ·obtain ⟨q', t'', c', p', o', H⟩ := qb8 code q5 c5 (by omega)
   exact ⟨q', t'', c', p', o', Or.inr ⟨rfl, H⟩⟩
 refine ⟨q', s', t'', c', by omega, ⟨ws', wt''⟩, ?_⟩
 simp only [tmD, zaa s] at H1 HS
 simp only [tmD, zaa t] at H2 HT
 rcases HB with ⟨rfl, rfl, rfl, rfl⟩ | ⟨rfl, u, HU, rfl, rfl⟩ | ⟨rfl, r, u, v, HU, HV, rfl, rfl⟩ | ⟨h3, rfl, rfl, rfl⟩
 ·rcases HE with ⟨rfl, rfl, rfl⟩ | ⟨rfl, HA⟩
  ·simp only [tmD, zaa s', zaa (.mk [102] _)]
   refine zbl Tryz.call54 Tryz.func54 rfl (by kernel_rfl) (by simp only [List.length_cons, List.length_nil, Tryz.ntmps54]; omega) (by simp only [Tryz.ntmps54]; omega) rfl rfl (by simp [zar, T.isPin, AF.ds, bxA]) (by simp [gFS, T.fs, T.flat, AF.ds, bxA]) rfl ?_
   simp -implicitDefEqProofs only [go_sem, Tryz.results54]
   refine callQ [1000000] (H1) (by decide) (by simp -implicitDefEqProofs only [go_sem]) (by simp -implicitDefEqProofs only [go_sem]) ?_
   simp -implicitDefEqProofs only [go_sem]
   refine callQ [1000000] (H2) (by decide) (by simp -implicitDefEqProofs only [go_sem]) (by simp -implicitDefEqProofs only [go_sem]) ?_
   simp -implicitDefEqProofs only [go_sem]
   refine callQ [1000000] (H3) (by decide) (by simp -implicitDefEqProofs only [go_sem]) (by simp -implicitDefEqProofs only [go_sem]) ?_
   simp -implicitDefEqProofs only [go_sem]
   refine callF (HS) (by simp -implicitDefEqProofs only [go_sem]) ?_
   simp -implicitDefEqProofs only [go_sem]
   refine zay (by simp -implicitDefEqProofs only [go_sem]) ?_
   simp -implicitDefEqProofs only [go_sem]
   refine callQ [1000000] (H5) (by decide) (by simp -implicitDefEqProofs only [go_sem]) (by simp -implicitDefEqProofs only [go_sem]) ?_
   simp -implicitDefEqProofs only [go_sem]
   refine drawn (by kernel_rfl) ?_
   simp -implicitDefEqProofs only [go_sem, Tm.name, Tm.args, List.map_cons, List.map_nil, zaa s']
   kernel_rfl
  ·simp only [tmD, zaa t''] at HA
   simp only [tmD, zaa s', zaa t'']
   refine zbl Tryz.call54 Tryz.func54 rfl (by kernel_rfl) (by simp only [List.length_cons, List.length_nil, Tryz.ntmps54]; omega) (by simp only [Tryz.ntmps54]; omega) rfl rfl (by simp [zar, T.isPin, AF.ds, bxA]) (by simp [gFS, T.fs, T.flat, AF.ds, bxA]) rfl ?_
   simp -implicitDefEqProofs only [go_sem, Tryz.results54]
   refine callQ [1000000] (H1) (by decide) (by simp -implicitDefEqProofs only [go_sem]) (by simp -implicitDefEqProofs only [go_sem]) ?_
   simp -implicitDefEqProofs only [go_sem]
   refine callQ [1000000] (H2) (by decide) (by simp -implicitDefEqProofs only [go_sem]) (by simp -implicitDefEqProofs only [go_sem]) ?_
   simp -implicitDefEqProofs only [go_sem]
   refine callQ [1000000] (H3) (by decide) (by simp -implicitDefEqProofs only [go_sem]) (by simp -implicitDefEqProofs only [go_sem]) ?_
   simp -implicitDefEqProofs only [go_sem]
   refine callF (HS) (by simp -implicitDefEqProofs only [go_sem]) ?_
   simp -implicitDefEqProofs only [go_sem]
   refine zay (by simp -implicitDefEqProofs only [go_sem]) ?_
   simp -implicitDefEqProofs only [go_sem]
   refine callQ [1000000] (H5) (by decide) (by simp -implicitDefEqProofs only [go_sem]) (by simp -implicitDefEqProofs only [go_sem]) ?_
   simp -implicitDefEqProofs only [go_sem]
   refine callQ [1000000] (HA) (by decide) (by simp -implicitDefEqProofs only [go_sem]) (by simp -implicitDefEqProofs only [go_sem]) ?_
   simp -implicitDefEqProofs only [go_sem]
   refine drawn (by kernel_rfl) ?_
   simp -implicitDefEqProofs only [go_sem, Tm.name, Tm.args, List.map_cons, List.map_nil, zaa s']
   kernel_rfl
 ·rcases HE with ⟨rfl, rfl, rfl⟩ | ⟨rfl, HA⟩
  ·simp only [tmD, zaa u] at HU
   simp only [tmD, zaa (.mk [103] _), zaa t'']
   refine zbl Tryz.call54 Tryz.func54 rfl (by kernel_rfl) (by simp only [List.length_cons, List.length_nil, Tryz.ntmps54]; omega) (by simp only [Tryz.ntmps54]; omega) rfl rfl (by simp [zar, T.isPin, AF.ds, bxA]) (by simp [gFS, T.fs, T.flat, AF.ds, bxA]) rfl ?_
   simp -implicitDefEqProofs only [go_sem, Tryz.results54]
   refine callQ [1000000] (H1) (by decide) (by simp -implicitDefEqProofs only [go_sem]) (by simp -implicitDefEqProofs only [go_sem]) ?_
   simp -implicitDefEqProofs only [go_sem]
   refine callQ [1000000] (H2) (by decide) (by simp -implicitDefEqProofs only [go_sem]) (by simp -implicitDefEqProofs only [go_sem]) ?_
   simp -implicitDefEqProofs only [go_sem]
   refine callQ [1000000] (H3) (by decide) (by simp -implicitDefEqProofs only [go_sem]) (by simp -implicitDefEqProofs only [go_sem]) ?_
   simp -implicitDefEqProofs only [go_sem]
   refine callF (HT) (by simp -implicitDefEqProofs only [go_sem]) ?_
   simp -implicitDefEqProofs only [go_sem]
   refine callQ [1000000] (HU) (by decide) (by simp -implicitDefEqProofs only [go_sem]) (by simp -implicitDefEqProofs only [go_sem]) ?_
   simp -implicitDefEqProofs only [go_sem]
   refine zay (by simp -implicitDefEqProofs only [go_sem]) ?_
   simp -implicitDefEqProofs only [go_sem]
   refine callQ [1000000] (H5) (by decide) (by simp -implicitDefEqProofs only [go_sem]) (by simp -implicitDefEqProofs only [go_sem]) ?_
   simp -implicitDefEqProofs only [go_sem]
   refine drawn (by kernel_rfl) ?_
   simp -implicitDefEqProofs only [go_sem, Tm.name, Tm.args, List.map_cons, List.map_nil, zaa t'', zaa u]
   kernel_rfl
  ·simp only [tmD, zaa u] at HU
   simp only [tmD, zaa t''] at HA
   simp only [tmD, zaa (.mk [103] _), zaa t'']
   refine zbl Tryz.call54 Tryz.func54 rfl (by kernel_rfl) (by simp only [List.length_cons, List.length_nil, Tryz.ntmps54]; omega) (by simp only [Tryz.ntmps54]; omega) rfl rfl (by simp [zar, T.isPin, AF.ds, bxA]) (by simp [gFS, T.fs, T.flat, AF.ds, bxA]) rfl ?_
   simp -implicitDefEqProofs only [go_sem, Tryz.results54]
   refine callQ [1000000] (H1) (by decide) (by simp -implicitDefEqProofs only [go_sem]) (by simp -implicitDefEqProofs only [go_sem]) ?_
   simp -implicitDefEqProofs only [go_sem]
   refine callQ [1000000] (H2) (by decide) (by simp -implicitDefEqProofs only [go_sem]) (by simp -implicitDefEqProofs only [go_sem]) ?_
   simp -implicitDefEqProofs only [go_sem]
   refine callQ [1000000] (H3) (by decide) (by simp -implicitDefEqProofs only [go_sem]) (by simp -implicitDefEqProofs only [go_sem]) ?_
   simp -implicitDefEqProofs only [go_sem]
   refine callF (HT) (by simp -implicitDefEqProofs only [go_sem]) ?_
   simp -implicitDefEqProofs only [go_sem]
   refine callQ [1000000] (HU) (by decide) (by simp -implicitDefEqProofs only [go_sem]) (by simp -implicitDefEqProofs only [go_sem]) ?_
   simp -implicitDefEqProofs only [go_sem]
   refine zay (by simp -implicitDefEqProofs only [go_sem]) ?_
   simp -implicitDefEqProofs only [go_sem]
   refine callQ [1000000] (H5) (by decide) (by simp -implicitDefEqProofs only [go_sem]) (by simp -implicitDefEqProofs only [go_sem]) ?_
   simp -implicitDefEqProofs only [go_sem]
   refine callQ [1000000] (HA) (by decide) (by simp -implicitDefEqProofs only [go_sem]) (by simp -implicitDefEqProofs only [go_sem]) ?_
   simp -implicitDefEqProofs only [go_sem]
   refine drawn (by kernel_rfl) ?_
   simp -implicitDefEqProofs only [go_sem, Tm.name, Tm.args, List.map_cons, List.map_nil, zaa t', zaa u]
   kernel_rfl
 ·rcases HE with ⟨rfl, rfl, rfl⟩ | ⟨rfl, HA⟩
  ·simp only [tmD, zaa u] at HU
   simp only [tmD, zaa v] at HV
   simp only [tmD, zaa (.mk [103] _), zaa (.mk [103] [_, u])]
   refine zbl Tryz.call54 Tryz.func54 rfl (by kernel_rfl) (by simp only [List.length_cons, List.length_nil, Tryz.ntmps54]; omega) (by simp only [Tryz.ntmps54]; omega) rfl rfl (by simp [zar, T.isPin, AF.ds, bxA]) (by simp [gFS, T.fs, T.flat, AF.ds, bxA]) rfl ?_
   simp -implicitDefEqProofs only [go_sem, Tryz.results54]
   refine callQ [1000000] (H1) (by decide) (by simp -implicitDefEqProofs only [go_sem]) (by simp -implicitDefEqProofs only [go_sem]) ?_
   simp -implicitDefEqProofs only [go_sem]
   refine callQ [1000000] (H2) (by decide) (by simp -implicitDefEqProofs only [go_sem]) (by simp -implicitDefEqProofs only [go_sem]) ?_
   simp -implicitDefEqProofs only [go_sem]
   refine callQ [1000000] (H3) (by decide) (by simp -implicitDefEqProofs only [go_sem]) (by simp -implicitDefEqProofs only [go_sem]) ?_
   simp -implicitDefEqProofs only [go_sem]
   refine callF (HS) (by simp -implicitDefEqProofs only [go_sem]) ?_
   simp -implicitDefEqProofs only [go_sem]
   refine callQ [1000000] (HU) (by decide) (by simp -implicitDefEqProofs only [go_sem]) (by simp -implicitDefEqProofs only [go_sem]) ?_
   simp -implicitDefEqProofs only [go_sem]
   refine zay (by simp -implicitDefEqProofs only [go_sem]) ?_
   simp -implicitDefEqProofs only [go_sem]
   refine callF (HS) (by simp -implicitDefEqProofs only [go_sem]) ?_
   simp -implicitDefEqProofs only [go_sem]
   refine callQ [1000000] (HV) (by decide) (by simp -implicitDefEqProofs only [go_sem]) (by simp -implicitDefEqProofs only [go_sem]) ?_
   simp -implicitDefEqProofs only [go_sem]
   refine zay (by simp -implicitDefEqProofs only [go_sem]) ?_
   simp -implicitDefEqProofs only [go_sem]
   refine callQ [1000000] (H5) (by decide) (by simp -implicitDefEqProofs only [go_sem]) (by simp -implicitDefEqProofs only [go_sem]) ?_
   simp -implicitDefEqProofs only [go_sem]
   refine drawn (by kernel_rfl) ?_
   simp -implicitDefEqProofs only [go_sem, Tm.name, Tm.args, List.map_cons, List.map_nil, zaa s, zaa u, zaa v]
   kernel_rfl
  ·simp only [tmD, zaa u] at HU
   simp only [tmD, zaa v] at HV
   simp only [tmD, zaa t''] at HA
   simp only [tmD, zaa (.mk [103] _), zaa t'']
   refine zbl Tryz.call54 Tryz.func54 rfl (by kernel_rfl) (by simp only [List.length_cons, List.length_nil, Tryz.ntmps54]; omega) (by simp only [Tryz.ntmps54]; omega) rfl rfl (by simp [zar, T.isPin, AF.ds, bxA]) (by simp [gFS, T.fs, T.flat, AF.ds, bxA]) rfl ?_
   simp -implicitDefEqProofs only [go_sem, Tryz.results54]
   refine callQ [1000000] (H1) (by decide) (by simp -implicitDefEqProofs only [go_sem]) (by simp -implicitDefEqProofs only [go_sem]) ?_
   simp -implicitDefEqProofs only [go_sem]
   refine callQ [1000000] (H2) (by decide) (by simp -implicitDefEqProofs only [go_sem]) (by simp -implicitDefEqProofs only [go_sem]) ?_
   simp -implicitDefEqProofs only [go_sem]
   refine callQ [1000000] (H3) (by decide) (by simp -implicitDefEqProofs only [go_sem]) (by simp -implicitDefEqProofs only [go_sem]) ?_
   simp -implicitDefEqProofs only [go_sem]
   refine callF (HS) (by simp -implicitDefEqProofs only [go_sem]) ?_
   simp -implicitDefEqProofs only [go_sem]
   refine callQ [1000000] (HU) (by decide) (by simp -implicitDefEqProofs only [go_sem]) (by simp -implicitDefEqProofs only [go_sem]) ?_
   simp -implicitDefEqProofs only [go_sem]
   refine zay (by simp -implicitDefEqProofs only [go_sem]) ?_
   simp -implicitDefEqProofs only [go_sem]
   refine callF (HS) (by simp -implicitDefEqProofs only [go_sem]) ?_
   simp -implicitDefEqProofs only [go_sem]
   refine callQ [1000000] (HV) (by decide) (by simp -implicitDefEqProofs only [go_sem]) (by simp -implicitDefEqProofs only [go_sem]) ?_
   simp -implicitDefEqProofs only [go_sem]
   refine zay (by simp -implicitDefEqProofs only [go_sem]) ?_
   simp -implicitDefEqProofs only [go_sem]
   refine callQ [1000000] (H5) (by decide) (by simp -implicitDefEqProofs only [go_sem]) (by simp -implicitDefEqProofs only [go_sem]) ?_
   simp -implicitDefEqProofs only [go_sem]
   refine callQ [1000000] (HA) (by decide) (by simp -implicitDefEqProofs only [go_sem]) (by simp -implicitDefEqProofs only [go_sem]) ?_
   simp -implicitDefEqProofs only [go_sem]
   refine drawn (by kernel_rfl) ?_
   simp -implicitDefEqProofs only [go_sem, Tm.name, Tm.args, List.map_cons, List.map_nil, zaa s, zaa u, zaa v]
   kernel_rfl
 ·rcases HE with ⟨rfl, rfl, rfl⟩ | ⟨rfl, HA⟩
  ·have e0 : (x == 0) = false := by rw [beq_eq_false_iff_ne]; omega
   have e1 : (x == 1) = false := by rw [beq_eq_false_iff_ne]; omega
   have e2 : (x == 2) = false := by rw [beq_eq_false_iff_ne]; omega
   simp only [tmD, zaa s', zaa t'']
   refine zbl Tryz.call54 Tryz.func54 rfl (by kernel_rfl) (by simp only [List.length_cons, List.length_nil, Tryz.ntmps54]; omega) (by simp only [Tryz.ntmps54]; omega) rfl rfl (by simp [zar, T.isPin, AF.ds, bxA]) (by simp [gFS, T.fs, T.flat, AF.ds, bxA]) rfl ?_
   simp -implicitDefEqProofs only [go_sem, Tryz.results54]
   refine callQ [1000000] (H1) (by decide) (by simp -implicitDefEqProofs only [go_sem]) (by simp -implicitDefEqProofs only [go_sem]) ?_
   simp -implicitDefEqProofs only [go_sem]
   refine callQ [1000000] (H2) (by decide) (by simp -implicitDefEqProofs only [go_sem]) (by simp -implicitDefEqProofs only [go_sem]) ?_
   simp -implicitDefEqProofs only [go_sem]
   refine callQ [1000000] (H3) (by decide) (by simp -implicitDefEqProofs only [go_sem, e0, e1, e2]) (by simp -implicitDefEqProofs only [go_sem, e0, e1, e2]) ?_
   simp -implicitDefEqProofs only [go_sem, e0, e1, e2]
   refine callQ [1000000] (H5) (by decide) (by simp -implicitDefEqProofs only [go_sem]) (by simp -implicitDefEqProofs only [go_sem]) ?_
   simp -implicitDefEqProofs only [go_sem]
   refine drawn (by kernel_rfl) ?_
   simp -implicitDefEqProofs only [go_sem]
   kernel_rfl
  ·have e0 : (x == 0) = false := by rw [beq_eq_false_iff_ne]; omega
   have e1 : (x == 1) = false := by rw [beq_eq_false_iff_ne]; omega
   have e2 : (x == 2) = false := by rw [beq_eq_false_iff_ne]; omega
   simp only [tmD, zaa t''] at HA
   simp only [tmD, zaa s', zaa t'']
   refine zbl Tryz.call54 Tryz.func54 rfl (by kernel_rfl) (by simp only [List.length_cons, List.length_nil, Tryz.ntmps54]; omega) (by simp only [Tryz.ntmps54]; omega) rfl rfl (by simp [zar, T.isPin, AF.ds, bxA]) (by simp [gFS, T.fs, T.flat, AF.ds, bxA]) rfl ?_
   simp -implicitDefEqProofs only [go_sem, Tryz.results54]
   refine callQ [1000000] (H1) (by decide) (by simp -implicitDefEqProofs only [go_sem]) (by simp -implicitDefEqProofs only [go_sem]) ?_
   simp -implicitDefEqProofs only [go_sem]
   refine callQ [1000000] (H2) (by decide) (by simp -implicitDefEqProofs only [go_sem]) (by simp -implicitDefEqProofs only [go_sem]) ?_
   simp -implicitDefEqProofs only [go_sem]
   refine callQ [1000000] (H3) (by decide) (by simp -implicitDefEqProofs only [go_sem, e0, e1, e2]) (by simp -implicitDefEqProofs only [go_sem, e0, e1, e2]) ?_
   simp -implicitDefEqProofs only [go_sem, e0, e1, e2]
   refine callQ [1000000] (H5) (by decide) (by simp -implicitDefEqProofs only [go_sem]) (by simp -implicitDefEqProofs only [go_sem]) ?_
   simp -implicitDefEqProofs only [go_sem]
   refine callQ [1000000] (HA) (by decide) (by simp -implicitDefEqProofs only [go_sem]) (by simp -implicitDefEqProofs only [go_sem]) ?_
   simp -implicitDefEqProofs only [go_sem]
   refine drawn (by kernel_rfl) ?_
   simp -implicitDefEqProofs only [go_sem]
   kernel_rfl
end Go.Proofs.YtaaniggpnljckaaGreat
namespace Go.Proofs.YtaaniggpnljckaaGreat
set_option linter.unusedSimpArgs false
set_option linter.unusedVariables false
set_option linter.unusedSectionVars false
set_option maxRecDepth 4000
open Go.RowKit
structure Li where
 pos : Bool
 atom : Tm
structure Cq where
 lits : List Li
def liC (a : Li) : List T := [.bool a.pos, .str a.atom.name, .sl 2 (a.atom.args.map tmC)]
theorem zcw (a : Li) : liC a = [.bool a.pos, .str a.atom.name, .sl 2 (a.atom.args.map tmC)] := rfl
def cqC (a : Cq) : List T := [.sl 3 (a.lits.map liC)]
theorem zpw (a : Cq) : cqC a = [.sl 3 (a.lits.map liC)] := rfl
abbrev liD (a : Li) : D := .agg (liC a)
abbrev cqD (a : Cq) : D := .agg (cqC a)
abbrev liS (xs : List Li) : T := .sl 3 (xs.map liC)
end Go.Proofs.YtaaniggpnljckaaGreat
namespace Go.Proofs.YtaaniggpnljckaaGreat
set_option linter.unusedSimpArgs false
set_option linter.unusedVariables false
set_option linter.unusedSectionVars false
set_option maxRecDepth 4000
open Go.RowKit
theorem znc (code : List UInt8) : Drw code 22 [.p 0] 200 (fun l : Li => (true, liD l)) (fun l => l.atom.wt <= 1000) := fun q hq hp => by
 obtain ⟨q1, b, c1, p1, _, H1⟩ := zzn code 2 (by omega) q hq (by omega)
 obtain ⟨q2, a, c2, p2, ⟨o2, _⟩, H2⟩ := atomD code q1 c1 (by omega)
 obtain ⟨q3, e, c3, p3, _, H3⟩ := zzn code 3 (by omega) q2 c2 (by omega)
 simp only [tmD, zaa a] at H2
 cases e
 ·refine ⟨q3, ⟨b, a⟩, c3, by omega, by show a.wt <= 1000; omega, ?_⟩
  simp only [liD, liC]
  refine zbl Tryz.call22 Tryz.func22 rfl (by kernel_rfl) (by simp only [List.length_cons, List.length_nil, Tryz.ntmps22]; omega) (by simp only [Tryz.ntmps22]; omega) rfl rfl (by simp [zar, T.isPin, AF.ds, bxA]) (by simp [gFS, T.fs, T.flat, AF.ds, bxA]) rfl ?_
  simp -implicitDefEqProofs only [go_sem, Tryz.results22]
  refine callQ [1000000] (H1) (by decide) (by simp -implicitDefEqProofs only [go_sem]) (by simp -implicitDefEqProofs only [go_sem]) ?_
  simp -implicitDefEqProofs only [go_sem]
  refine callQ [1000000] (H2) (by decide) (by simp -implicitDefEqProofs only [go_sem]) (by simp -implicitDefEqProofs only [go_sem]) ?_
  simp -implicitDefEqProofs only [go_sem]
  refine callQ [1000000] (H3) (by decide) (by simp -implicitDefEqProofs only [go_sem]) (by simp -implicitDefEqProofs only [go_sem]) ?_
  simp -implicitDefEqProofs only [go_sem]
 ·obtain ⟨q4, s, t, c4, p4, ⟨ws, wt⟩, H4⟩ := qg8 code q3 c3 (by omega)
  refine ⟨q4, ⟨b, .mk [61] [s, t]⟩, c4, by omega, ?_, ?_⟩
  ·show (Tm.mk [61] [s, t]).wt <= 1000
   rw [zce]; simp only [List.length_cons, List.length_nil, List.map_cons, List.map_nil, List.sum_cons, List.sum_nil]; omega
  ·simp only [liD, liC]
   simp only [tmD, zaa s, zaa t] at H4
   refine zbl Tryz.call22 Tryz.func22 rfl (by kernel_rfl) (by simp only [List.length_cons, List.length_nil, Tryz.ntmps22]; omega) (by simp only [Tryz.ntmps22]; omega) rfl rfl (by simp [zar, T.isPin, AF.ds, bxA]) (by simp [gFS, T.fs, T.flat, AF.ds, bxA]) rfl ?_
   simp -implicitDefEqProofs only [go_sem, Tryz.results22]
   refine callQ [1000000] (H1) (by decide) (by simp -implicitDefEqProofs only [go_sem]) (by simp -implicitDefEqProofs only [go_sem]) ?_
   simp -implicitDefEqProofs only [go_sem]
   refine callQ [1000000] (H2) (by decide) (by simp -implicitDefEqProofs only [go_sem]) (by simp -implicitDefEqProofs only [go_sem]) ?_
   simp -implicitDefEqProofs only [go_sem]
   refine callQ [1000000] (H3) (by decide) (by simp -implicitDefEqProofs only [go_sem]) (by simp -implicitDefEqProofs only [go_sem]) ?_
   simp -implicitDefEqProofs only [go_sem]
   refine callQ [1000000] (H4) (by decide) (by simp -implicitDefEqProofs only [go_sem]) (by simp -implicitDefEqProofs only [go_sem]) ?_
   simp -implicitDefEqProofs only [go_sem]
   refine zay (by simp -implicitDefEqProofs only [go_sem]) ?_
   simp -implicitDefEqProofs only [go_sem]
   simp -implicitDefEqProofs only [go_sem, Tm.name, Tm.args, List.map_cons, List.map_nil, zaa s, zaa t]
end Go.Proofs.YtaaniggpnljckaaGreat
namespace Go.Proofs.YtaaniggpnljckaaGreat
set_option linter.unusedSimpArgs false
set_option linter.unusedVariables false
set_option linter.unusedSectionVars false
set_option maxRecDepth 4000
open Go.RowKit
theorem qch (code : List UInt8) : ∃ (o : Og) (a b : List Tm) (ow : Bool), o.syms.length <= 1048576 /\ (a.length <= 100 /\ ∀ t ∈ a, t.wt <= 400) /\ (b.length <= 100 /\ ∀ t ∈ b, t.wt <= 400) /\ PC Tryz.prog 5 [] [.d false (.one (zi7 code))] [] [(ow, ogD o), (true, .one (tmS a)), (true, .one (tmS b))] := by
 have p0 : (⟨code, 0, 0⟩ : Cu).pos = 0 := rfl
 obtain ⟨q1, ow, o, c1, p1, ho, H1⟩ := zl7 code ⟨code, 0, 0⟩ rfl (by omega)
 obtain ⟨q2, a, c2, p2, ⟨la, wa⟩, H2⟩ := qd5 code q1 c1 (by omega)
 obtain ⟨q3, b, c3, p3, ⟨lb, wb⟩, H3⟩ := qd5 code q2 c2 (by omega)
 rw [show zbb code (⟨code, 0, 0⟩ : Cu) = [[(false, zi7 code), (false, .int .i64 0), (false, .int .u64 0)]] from rfl] at H1
 simp only [ogD, zax] at H1 ⊢
 by_cases h0 : a.length = 0
 ·have ha : a = [] := List.length_eq_zero_iff.1 h0
  subst ha
  refine ⟨o, [], b, ow, ho, ⟨by simp, by simp⟩, ⟨by omega, wb⟩, ?_⟩
  cases ow
  all_goals
   refine zbl Tryz.call5 Tryz.func5 rfl (by kernel_rfl) (by simp only [List.length_cons, List.length_nil, Tryz.ntmps5]; omega) (by simp only [Tryz.ntmps5]; omega) rfl rfl (by simp [zar, T.isPin, AF.ds, bxA]) (by simp [gFS, T.fs, T.flat, AF.ds, bxA]) rfl ?_
   simp -implicitDefEqProofs only [go_sem, Tryz.results5]
   refine callQ [11] (H1) (by decide) (by simp -implicitDefEqProofs only [go_sem]) (by simp -implicitDefEqProofs only [go_sem]) ?_
   simp -implicitDefEqProofs only [go_sem]
   refine callQ [11] (H2) (by decide) (by simp -implicitDefEqProofs only [go_sem]) (by simp -implicitDefEqProofs only [go_sem]) ?_
   simp -implicitDefEqProofs only [go_sem]
   refine callQ [11] (H3) (by decide) (by simp -implicitDefEqProofs only [go_sem]) (by simp -implicitDefEqProofs only [go_sem]) ?_
   simp -implicitDefEqProofs only [go_sem]
 ·obtain ⟨q4, e, c4, p4, _, H4⟩ := zzn code 2 (by omega) q3 c3 (by omega)
  have hl : (0 : Int) < (a.length : Int) := by omega
  cases e
  ·refine ⟨o, a, b, ow, ho, ⟨by omega, wa⟩, ⟨by omega, wb⟩, ?_⟩
   cases ow
   all_goals
    refine zbl Tryz.call5 Tryz.func5 rfl (by kernel_rfl) (by simp only [List.length_cons, List.length_nil, Tryz.ntmps5]; omega) (by simp only [Tryz.ntmps5]; omega) rfl rfl (by simp [zar, T.isPin, AF.ds, bxA]) (by simp [gFS, T.fs, T.flat, AF.ds, bxA]) rfl ?_
    simp -implicitDefEqProofs only [go_sem, Tryz.results5]
    refine callQ [11] (H1) (by decide) (by simp -implicitDefEqProofs only [go_sem]) (by simp -implicitDefEqProofs only [go_sem]) ?_
    simp -implicitDefEqProofs only [go_sem]
    refine callQ [11] (H2) (by decide) (by simp -implicitDefEqProofs only [go_sem]) (by simp -implicitDefEqProofs only [go_sem]) ?_
    simp -implicitDefEqProofs only [go_sem]
    refine callQ [11] (H3) (by decide) (by simp -implicitDefEqProofs only [go_sem, List.length_map, hl]) (by simp -implicitDefEqProofs only [go_sem, List.length_map, hl]) ?_
    simp -implicitDefEqProofs only [go_sem, List.length_map, hl]
    refine callQ [11] (H4) (by decide) (by simp -implicitDefEqProofs only [go_sem]) (by simp -implicitDefEqProofs only [go_sem]) ?_
    simp -implicitDefEqProofs only [go_sem]
  ·obtain ⟨q5, x, c5, p5, o5, H5⟩ := zfk code a.length (by omega) (by omega) q4 c4 (by omega)
   obtain ⟨i, rfl⟩ : ∃ i : Nat, x = i := ⟨x.toNat, by omega⟩
   have hi : i < a.length := by omega
   have hii : ((i : Int) < (a.length : Int)) = True := eq_true (by omega)
   have HO := zow a[i] (by have := wa a[i] (List.getElem_mem hi); omega)
   have hlb : b.length <= 4294967295 := by omega
   simp only [tmD, zaa a[i]] at HO
   refine ⟨o, a, b ++ [a[i]], ow, ho, ⟨by omega, wa⟩, ⟨?_, ?_⟩, ?_⟩
   ·rw [List.length_append, List.length_singleton]; omega
   ·intro t ht
    rcases List.mem_append.1 ht with h | h
    ·exact wb t h
    ·rw [List.mem_singleton.1 h]; exact wa _ (List.getElem_mem hi)
   cases ow
   all_goals
    refine zbl Tryz.call5 Tryz.func5 rfl (by kernel_rfl) (by simp only [List.length_cons, List.length_nil, Tryz.ntmps5]; omega) (by simp only [Tryz.ntmps5]; omega) rfl rfl (by simp [zar, T.isPin, AF.ds, bxA]) (by simp [gFS, T.fs, T.flat, AF.ds, bxA]) rfl ?_
    simp -implicitDefEqProofs only [go_sem, Tryz.results5]
    refine callQ [11] (H1) (by decide) (by simp -implicitDefEqProofs only [go_sem]) (by simp -implicitDefEqProofs only [go_sem]) ?_
    simp -implicitDefEqProofs only [go_sem]
    refine callQ [11] (H2) (by decide) (by simp -implicitDefEqProofs only [go_sem]) (by simp -implicitDefEqProofs only [go_sem]) ?_
    simp -implicitDefEqProofs only [go_sem]
    refine callQ [11] (H3) (by decide) (by simp -implicitDefEqProofs only [go_sem, List.length_map, hl]) (by simp -implicitDefEqProofs only [go_sem, List.length_map, hl]) ?_
    simp -implicitDefEqProofs only [go_sem, List.length_map, hl]
    refine callQ [11] (H4) (by decide) (by simp -implicitDefEqProofs only [go_sem, List.length_map]) (by simp -implicitDefEqProofs only [go_sem, List.length_map]) ?_
    simp -implicitDefEqProofs only [go_sem, List.length_map]
    refine callQ [11] (H5) (by decide) (by simp -implicitDefEqProofs only [go_sem, List.length_map, hii, hi, zaf, zaa a[i]]) (by simp -implicitDefEqProofs only [go_sem, List.length_map, hii, hi, zaf, zaa a[i]]) ?_
    simp -implicitDefEqProofs only [go_sem, List.length_map, hii, hi, zaf, zaa a[i]]
    refine callF (HO) (by simp -implicitDefEqProofs only [go_sem]) ?_
    simp -implicitDefEqProofs only [go_sem]
    refine zay (by simp -implicitDefEqProofs only [go_sem]) ?_
    simp -implicitDefEqProofs only [go_sem]
    refine apD true (by simp -implicitDefEqProofs only [go_sem, ne_eq, List.length_map, hlb]) ?_
    simp -implicitDefEqProofs only [go_sem, ne_eq, List.length_map, hlb]
    left; left
    rw [List.map_append, List.map_cons, List.map_nil, zaa a[i]]
end Go.Proofs.YtaaniggpnljckaaGreat
namespace Go.Proofs.YtaaniggpnljckaaGreat
set_option linter.unusedSimpArgs false
set_option linter.unusedVariables false
set_option linter.unusedSectionVars false
set_option maxRecDepth 4000
open Go.RowKit
def zrL : Li := ⟨true, .mk [] []⟩
abbrev mdL (code : List UInt8) (o : Og) (q : Cu) (X : Nat -> Li) (m k : Nat) : St := hd [(2, .one (.bx 2 0)), (3, .one (.bx 3 0)), (4, .one (.bx 10 0)), (5, .one (.bx 5 0)), (6, .one (.bx 6 0)), (7, vI ((m : Int) - k))] [(2, [.nl 1, .nl 1, .t (.int .i64 0)]), (3, [.nl 3]), (5, [.rn (zb6 o.syms), .rn (ze4 o.wts), .t (.int .i64 o.vr)]), (6, [.ow 6000 k]), (10, [.rn (zi7 code), .t (.int .i64 q.pos), .t (.int .u64 q.seed)])] [(6000, ⟨true, 3, (upX X k).map liC, k, true⟩)]
abbrev mdF (code : List UInt8) (o : Og) (q : Cu) (X Y : Nat -> Li) (m k : Nat) : St := hd [(2, .one (.bx 2 0)), (3, .one (.bx 3 0)), (4, .one (.bx 10 0)), (5, .one (.bx 5 0)), (6, .one (.bx 6 0))] [(2, [.nl 1, .nl 1, .t (.int .i64 0)]), (3, [.nl 3]), (5, [.rn (zb6 o.syms), .rn (ze4 o.wts), .t (.int .i64 o.vr)]), (6, [.ow 6001 k]), (10, [.rn (zi7 code), .t (.int .i64 q.pos), .t (.int .u64 q.seed)])] [(6001, ⟨true, 3, (upX X m ++ upX Y k).map liC, k, true⟩)]
set_option maxHeartbeats 1000000 in
theorem qaf (code : List UInt8) : ∃ (o : Og) (c : Cq), o.syms.length <= 1048576 /\ (c.lits.length <= 100 /\ ∀ l ∈ c.lits, l.atom.wt <= 1000) /\ PC Tryz.prog 9 [] [.d false (.one (zi7 code))] [] [(false, ogD o), (true, cqD c)] := by
 have p0 : (⟨code, 0, 0⟩ : Cu).pos = 0 := rfl
 obtain ⟨q0, ow, o, c0, p0', ho, H0⟩ := zl7 code ⟨code, 0, 0⟩ rfl (by omega)
 obtain ⟨q1, n1, c1, p1, o1, H1⟩ := zfk code 5 (by omega) (by omega) q0 c0 (by omega)
 obtain ⟨m, rfl⟩ : ∃ m : Nat, n1 = m := ⟨n1.toNat, by omega⟩
 obtain ⟨Q, X, Q0, hQ, hX⟩ := zza zrL (znc code) m q1 c1 (by omega)
 obtain ⟨cQ, pQ⟩ := hQ m (Nat.le_refl _)
 have hm : m <= 4 := by omega
 have hm1 : m * 200 <= 800 := by omega
 obtain ⟨q2, b, c2, p2, _, H2⟩ := zzn code 40 (by omega) (Q m) cQ (by omega)
 obtain ⟨q3, Y, n, hn, hYw, HB⟩ : ∃ (q3 : Cu) (Y : Nat -> Li) (n : Nat), n <= 10 /\ (∀ k, k < n -> (Y k).atom.wt <= 1000) /\ (b = false /\ q3 = q2 /\ n = 0 \/ b = true /\ ∃ (R S : Nat -> Cu) (B : Nat -> Int), R 0 = q2 /\ S n = q3 /\ (∀ k, k <= n -> (0 <= B k /\ B k < 2) /\ PC Tryz.prog 16 (zbb code (R k)) [.p 0, .d false (iD 2)] (zbb code (S k)) [(true, iD (B k))]) /\ (∀ k, k < n -> ((m + k : Nat) : Int) < (8 : Nat) + B k /\ PC Tryz.prog 22 (zbb code (S k)) [.p 0] (zbb code (R (k + 1))) [(true, liD (Y k))]) /\ ¬ (((m + n : Nat) : Int) < (8 : Nat) + B n)) := by
  cases b
  ·exact ⟨q2, fun _ => zrL, 0, by omega, fun k hk => absurd hk (by omega), Or.inl ⟨rfl, rfl, rfl⟩⟩
  ·obtain ⟨n, R, S, B, Y, hn, R0, hR, hY, hE⟩ := qfe zrL (znc code) 8 (9 - m) m q2 (by omega) c2 (by omega)
   exact ⟨S n, Y, n, by omega, fun k hk => (hY k hk).2.1, Or.inr ⟨rfl, R, S, B, R0, rfl, fun k hk => (hR k hk).2.2.2, fun k hk => ⟨(hY k hk).1, (hY k hk).2.2⟩, hE⟩⟩
 refine ⟨o, ⟨upX X m ++ upX Y n⟩, ho, ⟨?_, fun t ht => ?_⟩, ?_⟩
 ·show (upX X m ++ upX Y n).length <= 100
  rw [List.length_append, za7, za7]; omega
 ·rcases List.mem_append.1 ht with h | h
  ·obtain ⟨i, hi, rfl⟩ := zkg h
   exact (hX i hi).1
  ·obtain ⟨i, hi, rfl⟩ := zkg h
   exact hYw i hi
 clear hQ
 rw [show zbb code (⟨code, 0, 0⟩ : Cu) = [[(false, zi7 code), (false, .int .i64 0), (false, .int .u64 0)]] from rfl] at H0
 simp only [ogD, zax, cqD, cqC] at H0 ⊢
 cases ow
 case' true =>
  refine zbl Tryz.call9 Tryz.func9 rfl (by kernel_rfl) (by simp only [List.length_cons, List.length_nil, Tryz.ntmps9]; omega) (by simp only [Tryz.ntmps9]; omega) rfl rfl (by simp [zar, T.isPin, AF.ds, bxA]) (by simp [gFS, T.fs, T.flat, AF.ds, bxA]) rfl ?_
  simp -implicitDefEqProofs only [go_sem, Tryz.results9]
  refine callQ [10] (H0) (by decide) (by simp -implicitDefEqProofs only [go_sem]) (by simp -implicitDefEqProofs only [go_sem]) ?_
  simp -implicitDefEqProofs only [go_sem]
  refine zxd 384 rfl rfl ?_
  simp -implicitDefEqProofs only [go_sem]
  refine zxd 385 rfl rfl ?_
  simp -implicitDefEqProofs only [go_sem]
 case' false =>
  refine zbl Tryz.call9 Tryz.func9 rfl (by kernel_rfl) (by simp only [List.length_cons, List.length_nil, Tryz.ntmps9]; omega) (by simp only [Tryz.ntmps9]; omega) rfl rfl (by simp [zar, T.isPin, AF.ds, bxA]) (by simp [gFS, T.fs, T.flat, AF.ds, bxA]) rfl ?_
  simp -implicitDefEqProofs only [go_sem, Tryz.results9]
  refine callQ [10] (H0) (by decide) (by simp -implicitDefEqProofs only [go_sem]) (by simp -implicitDefEqProofs only [go_sem]) ?_
  simp -implicitDefEqProofs only [go_sem]
 all_goals
  refine callQ [10] (H1) (by decide) (by simp -implicitDefEqProofs only [go_sem]) (by simp -implicitDefEqProofs only [go_sem]) ?_
  simp -implicitDefEqProofs only [go_sem]
  refine zaj (fun k => mdL code o (Q k) X m k) (fun k => k <= m) (fun k => m - k) 0 (zab ?_) (Nat.zero_le _) ?_
  ·rw [Q0]
   simp -implicitDefEqProofs only [go_sem, zey, List.map_nil]
   rw [Int.sub_zero]
  ·intro k hk
   by_cases hlt : k < m
   ·have h0 : ((m : Int) - (k : Int) > 0) = True := by simp; omega
    have hwk : IntKind.i64.wrap ((m : Int) - (k : Int) - 1) = (m : Int) - ((k + 1 : Nat) : Int) := by rw [zbd (by omega) (by omega)]; omega
    have HX := (hX k hlt).2
    have hk4 : k <= 4294967295 := by omega
    simp only [liD, liC] at HX
    show ex _ _ _ _ (hd _ _ _)
    simp -implicitDefEqProofs only [go_sem, h0]
    refine drawn (by kernel_rfl) ?_
    simp -implicitDefEqProofs only [go_sem]
    refine zd3 [10] (HX) (by decide) (by simp -implicitDefEqProofs only [go_sem]) (by simp -implicitDefEqProofs only [go_sem]) ?_
    simp -implicitDefEqProofs only [go_sem]
    refine zb7 (by simp -implicitDefEqProofs only [go_sem]) ?_
    simp -implicitDefEqProofs only [go_sem]
    refine zlk true (by simp -implicitDefEqProofs only [go_sem, ne_eq, List.length_map, za7, hk4]) ?_
    simp -implicitDefEqProofs only [go_sem, ne_eq, List.length_map, za7, hk4]
    refine ⟨by kernel_rfl, k + 1, by omega, by omega, zab ?_⟩
    rw [zhb, List.map_append, List.map_cons, List.map_nil, liC]
    simp -implicitDefEqProofs only [go_sem]
    rw [hwk]
   ·have h0 : ((m : Int) - (k : Int) > 0) = False := by simp; omega
    have e : k = m := by omega
    subst e
    show ex _ _ _ _ (hd _ _ _)
    simp -implicitDefEqProofs only [go_sem, h0]
    refine callQ [10] (H2) (by decide) (by simp -implicitDefEqProofs only [go_sem]) (by simp -implicitDefEqProofs only [go_sem]) ?_
    simp -implicitDefEqProofs only [go_sem]
    rcases HB with ⟨rfl, rfl, rfl⟩ | ⟨rfl, R, S, B, R0, rfl, hS, hY, hE⟩
    ·simp -implicitDefEqProofs only [go_sem]
     refine drawn (by kernel_rfl) ?_
     simp -implicitDefEqProofs only [go_sem]
     refine ⟨by kernel_rfl, ?_⟩
     left; left
     rw [zey, List.append_nil]
    ·simp -implicitDefEqProofs only [go_sem]
     rw [<- R0]
     refine zaj (fun j => mdF code o (R j) X Y k j) (fun j => j <= n) (fun j => n - j) 0 (zc7 6000 6001 ?_) (Nat.zero_le _) ?_
     ·simp -implicitDefEqProofs only [go_sem, zey, List.append_nil]
     ·intro j hj
      obtain ⟨hb, HP⟩ := hS j hj
      have hw : IntKind.i64.wrap (8 + B j) = 8 + B j := zbd (by omega) (by omega)
      by_cases hlt2 : j < n
      ·obtain ⟨hc, HX⟩ := hY j hlt2
       have h1 : (((k + j : Nat) : Int) < 8 + B j) = True := eq_true hc
       have hl2 : k + j <= 4294967295 := by omega
       simp only [liD, liC] at HX
       show ex _ _ _ _ (hd _ _ _)
       simp -implicitDefEqProofs only [go_sem]
       refine drawn (by kernel_rfl) ?_
       simp -implicitDefEqProofs only [go_sem, List.length_map, List.length_append, za7]
       refine zd3 [10] (HP) (by decide) (by simp -implicitDefEqProofs only [go_sem, hw, List.length_map, List.length_append, za7, h1]) (by simp -implicitDefEqProofs only [go_sem, hw, List.length_map, List.length_append, za7, h1]) ?_
       simp -implicitDefEqProofs only [go_sem, hw, List.length_map, List.length_append, za7, h1]
       refine ⟨by kernel_rfl, ?_⟩
       refine drawn (by kernel_rfl) ?_
       simp -implicitDefEqProofs only [go_sem]
       refine zd3 [10] (HX) (by decide) (by simp -implicitDefEqProofs only [go_sem]) (by simp -implicitDefEqProofs only [go_sem]) ?_
       simp -implicitDefEqProofs only [go_sem]
       refine zb7 (by simp -implicitDefEqProofs only [go_sem]) ?_
       simp -implicitDefEqProofs only [go_sem]
       refine zlk true (by simp -implicitDefEqProofs only [go_sem, ne_eq, List.length_map, List.length_append, za7, hl2]) ?_
       simp -implicitDefEqProofs only [go_sem, ne_eq, List.length_map, List.length_append, za7, hl2]
       refine ⟨by kernel_rfl, j + 1, by omega, by omega, zab ?_⟩
       rw [zhb, znu, liC]
       simp -implicitDefEqProofs only [go_sem]
      ·have e : j = n := by omega
       subst e
       have h1 : (((k + j : Nat) : Int) < 8 + B j) = False := eq_false hE
       show ex _ _ _ _ (hd _ _ _)
       simp -implicitDefEqProofs only [go_sem]
       refine drawn (by kernel_rfl) ?_
       simp -implicitDefEqProofs only [go_sem, List.length_map, List.length_append, za7]
       refine zd3 [10] (HP) (by decide) (by simp -implicitDefEqProofs only [go_sem, hw, List.length_map, List.length_append, za7, h1]) (by simp -implicitDefEqProofs only [go_sem, hw, List.length_map, List.length_append, za7, h1]) ?_
       simp -implicitDefEqProofs only [go_sem, hw, List.length_map, List.length_append, za7, h1]
       refine ⟨by kernel_rfl, ?_⟩
       refine drawn (by kernel_rfl) ?_
       simp -implicitDefEqProofs only [go_sem]
       kernel_rfl
end Go.Proofs.YtaaniggpnljckaaGreat
namespace Go.Proofs.YtaaniggpnljckaaGreat
set_option linter.unusedSimpArgs false
set_option linter.unusedVariables false
set_option linter.unusedSectionVars false
set_option maxRecDepth 4000
open Go.RowKit
variable {P : Program} {N : Nat}
structure Hj where
 F : Nat -> Prop
 R : Nat -> Prop
 I : World -> Prop
structure GoodJ (J : Hj) : Prop where
 dis : ∀ x, J.R x -> ¬ J.F x
 keep : ∀ w w' : World, (∀ x, J.F x \/ J.R x -> w'.heap[x]? = w.heap[x]?) -> J.I w -> J.I w'
structure OkJ (J : Hj) (n1 A0 : Nat -> Prop) (w : World) : Prop where
 good : GoodJ J
 F : ∀ x, J.F x -> n1 x /\ ¬ A0 x
 R : ∀ x, J.R x -> n1 x
 I : J.I w
structure RelJ (n0 : Nat -> Prop) (N : Nat) (σ : St) (J : Hj) (A0 : (Nat -> Prop) × RP) (g : Gh) (a : Act) (w : World) : Prop where
 rel : ∃ n1 : Nat -> Prop, (∀ x, n0 x -> n1 x) /\ OkJ J n1 g.A0 w /\ Rel n1 N σ g a w /\ LtK n1 w
 nb : ∀ x, J.F x -> ¬ n0 x
 sub : ∀ x, g.A0 x -> A0.1 x
 r0 : g.R0 = A0.2
 new : ∀ x, ¬ n0 x -> A0.1 x /\ A0.2 x
theorem RelJ.keep {n0 n1 : Nat -> Prop} {σ σ' : St} {J : Hj} {A0 : (Nat -> Prop) × RP} {g g' : Gh} {a a' : Act} {w w' : World} (h : RelJ n0 N σ J A0 g a w) (hn : ∀ x, n0 x -> n1 x) (ho : OkJ J n1 g.A0 w)
  (h2 : Rel n1 N σ' g' a' w') (h3 : LtK n1 w') (h4 : Bk n1 w w') (h5 : (g'.A0, g'.R0) = (g.A0, g.R0)) : RelJ n0 N σ' J A0 g' a' w' := by
 have e1 : g'.A0 = g.A0 := (Prod.mk.inj h5).1
 have e2 : g'.R0 = g.R0 := (Prod.mk.inj h5).2
 exact ⟨⟨n1, hn, ⟨ho.good, by rw [e1]; exact ho.F, ho.R, ho.good.keep w w' (fun x hx => h4.block x (hx.elim (fun k => (ho.F x k).1) (ho.R x))) ho.I⟩, h2, h3⟩, h.nb, by rw [e1]; exact h.sub, by rw [e2]; exact h.r0, h.new⟩
def EndsJ (n0 : Nat -> Prop) (N : Nat) (w0 : World) (A0 : (Nat -> Prop) × RP) (Q : Exit -> St -> Hj -> Prop) (e : Exit) (a : Act) (w : World) : Prop := ∃ σ J g, Q e σ J /\ RelJ n0 N σ J A0 g a w /\ LtK n0 w /\ Bk n0 w0 w
def zbw (P : Program) (N : Nat) (c : Code) (σ : St) (J : Hj) (Q : Exit -> St -> Hj -> Prop) : Prop := ∀ n0 w0 A0 g a w, RelJ n0 N σ J A0 g a w -> LtK n0 w -> Bk n0 w0 w -> c.wp P (EndsJ n0 N w0 A0 Q) a w
theorem zbw.ofEx {c : Code} {σ : St} {J : Hj} {Q : Exit -> St -> Hj -> Prop} (hd : zcp N c = true) (h : ex P c [] (fun e σ' => Q e σ' J) σ) : zbw P N c σ J Q := fun n0 w0 A0 g a w hM h2 h3 => by
 obtain ⟨n1, k1, k2, k4, k5⟩ := hM.rel
 refine wp_mono (zbi (w0 := w) (A0 := (g.A0, g.R0)) c σ _ hd h g a w k4 k5 (Bk.refl _ _) rfl) fun e a' w' hq => ?_
 obtain ⟨σ', g', h1, m2, m3, m4, m5⟩ := hq
 exact ⟨σ', J, g', h1, hM.keep k1 k2 m2 m3 m4 m5, h2.mono m4.size, h3.trans (zv5 k1 m4)⟩
def zss (P : Program) (N : Nat) (c : Code) (Q : Exit -> St -> Hj -> Prop) (e : Exit) (σ : St) (J : Hj) : Prop := match e with | .normal => zbw P N c σ J Q | e => Q e σ J
theorem zlw (c : Code) (Q : Exit -> St -> Hj -> Prop) (σ : St) (J : Hj) : zss P N c Q .normal σ J = zbw P N c σ J Q := rfl
theorem zx5 (c : Code) (Q : Exit -> St -> Hj -> Prop) (σ : St) (J : Hj) : zss P N c Q .ret σ J = Q .ret σ J := rfl
theorem zsx (c : Code) (Q : Exit -> St -> Hj -> Prop) (σ : St) (J : Hj) (i : Nat) : zss P N c Q (.exit i) σ J = Q (.exit i) σ J := rfl
theorem zbw.seq {x y : Code} {σ : St} {J : Hj} {Q : Exit -> St -> Hj -> Prop} (h : zbw P N x σ J (zss P N y Q)) : zbw P N (.seq x y) σ J Q := fun n0 w0 A0 g a w h1 h2 h3 => by
 refine wp_seq (wp_mono (h n0 w0 A0 g a w h1 h2 h3) fun e a' w' hq => ?_)
 obtain ⟨σ', r', g', k1, k2, k3, k4⟩ := hq
 cases e with
 | normal => exact k1 n0 w0 A0 g' a' w' k2 k3 k4
 | exit i => exact ⟨σ', r', g', k1, k2, k3, k4⟩
 | goto l => exact ⟨σ', r', g', k1, k2, k3, k4⟩
 | ret => exact ⟨σ', r', g', k1, k2, k3, k4⟩
 | panic ch => exact ⟨σ', r', g', k1, k2, k3, k4⟩
 | outgrown => exact ⟨σ', r', g', k1, k2, k3, k4⟩
def blkJ (i : Nat) (Q : Exit -> St -> Hj -> Prop) (e : Exit) (σ : St) (J : Hj) : Prop := match e with | .exit j => if j = i then Q .normal σ J else Q (.exit j) σ J | e => Q e σ J
theorem zoo (i : Nat) (Q : Exit -> St -> Hj -> Prop) (σ : St) (J : Hj) : blkJ i Q .normal σ J = Q .normal σ J := rfl
theorem qbo (i : Nat) (Q : Exit -> St -> Hj -> Prop) (σ : St) (J : Hj) : blkJ i Q .ret σ J = Q .ret σ J := rfl
theorem znh (i j : Nat) (Q : Exit -> St -> Hj -> Prop) (σ : St) (J : Hj) : blkJ i Q (.exit j) σ J = if j = i then Q .normal σ J else Q (.exit j) σ J := rfl
theorem zbw.block {i : Nat} {c : Code} {σ : St} {J : Hj} {Q : Exit -> St -> Hj -> Prop} (h : zbw P N c σ J (blkJ i Q)) : zbw P N (.block i c) σ J Q := fun n0 w0 A0 g a w h1 h2 h3 => by
 refine wp_block (wp_mono (h n0 w0 A0 g a w h1 h2 h3) fun e a' w' hq => ?_)
 obtain ⟨σ', r', g', k1, k2, k3, k4⟩ := hq
 cases e with
 | exit j =>
  simp only [Exit.inBlock]
  simp only [znh] at k1
  split at k1
  ·rw [if_pos ‹_›]; exact ⟨σ', r', g', k1, k2, k3, k4⟩
  ·rw [if_neg ‹_›]; exact ⟨σ', r', g', k1, k2, k3, k4⟩
 | normal => exact ⟨σ', r', g', k1, k2, k3, k4⟩
 | goto l => exact ⟨σ', r', g', k1, k2, k3, k4⟩
 | ret => exact ⟨σ', r', g', k1, k2, k3, k4⟩
 | panic ch => exact ⟨σ', r', g', k1, k2, k3, k4⟩
 | outgrown => exact ⟨σ', r', g', k1, k2, k3, k4⟩
theorem RelJ.wk {n0 : Nat -> Prop} {σ σ' : St} {J : Hj} {A0 : (Nat -> Prop) × RP} {g : Gh} {a : Act} {w : World} (h : RelJ n0 N σ J A0 g a w) (k : Wk σ σ') : ∃ g', RelJ n0 N σ' J A0 g' a w := by
 obtain ⟨n1, k1, k2, k4, k5⟩ := h.rel
 obtain ⟨g', r1, r2, r3⟩ := k _ _ _ _ _ k4
 exact ⟨g', h.keep k1 k2 r1 k5 (Bk.refl _ _) (by rw [r2, r3])⟩
def lpJ {X : Type} (I : X -> St) (JX : X -> Hj) (Pr : X -> Prop) (μ : X -> Nat) (x : X) (Q : Exit -> St -> Hj -> Prop) (e : Exit) (σ : St) (J : Hj) : Prop := match e with | .normal => ∃ x', Pr x' /\ μ x' < μ x /\ J = JX x' /\ Wk σ (I x') | e => Q e σ J
section
variable {X : Type} (I : X -> St) (JX : X -> Hj) (Pr : X -> Prop) (μ : X -> Nat) (x : X)
theorem zsk (Q : Exit -> St -> Hj -> Prop) (σ : St) (J : Hj) : lpJ I JX Pr μ x Q .normal σ J = ∃ x', Pr x' /\ μ x' < μ x /\ J = JX x' /\ Wk σ (I x') := rfl
theorem qhk (Q : Exit -> St -> Hj -> Prop) (σ : St) (J : Hj) : lpJ I JX Pr μ x Q .ret σ J = Q .ret σ J := rfl
theorem zz2 (Q : Exit -> St -> Hj -> Prop) (σ : St) (J : Hj) (i : Nat) : lpJ I JX Pr μ x Q (.exit i) σ J = Q (.exit i) σ J := rfl
theorem zbw.loop {c : Code} {σ : St} {J : Hj} {Q : Exit -> St -> Hj -> Prop} (x0 : X) (h0 : Wk σ (I x0)) (j0 : J = JX x0) (p0 : Pr x0) (hr : ∀ x, Pr x -> zbw P N c (I x) (JX x) (lpJ I JX Pr μ x Q)) : zbw P N (.loop c) σ J Q := fun n0 w0 A0 g a w h1 h2 h3 => by
 subst j0
 refine zr0 (fun n a w => ∃ x g1, Pr x /\ μ x = n /\ RelJ n0 N (I x) (JX x) A0 g1 a w /\ LtK n0 w /\ Bk n0 w0 w) ?_ (n := μ x0) (by obtain ⟨g0, r1⟩ := h1.wk h0; exact ⟨x0, g0, p0, rfl, r1, h2, h3⟩)
 rintro n a w ⟨x, g1, px, rfl, k2, k3, k4⟩
 refine wp_mono (hr x px n0 w0 A0 g1 a w k2 k3 k4) fun e a' w' hq => ?_
 obtain ⟨σ', r', g', h1, h2, h3, h4⟩ := hq
 cases e with
 | normal =>
  obtain ⟨x', p', hlt, hj, hwk⟩ := h1
  subst hj
  obtain ⟨g2, r1⟩ := h2.wk hwk
  exact ⟨μ x', hlt, x', g2, p', rfl, r1, h3, h4⟩
 | exit i => exact ⟨σ', r', g', h1, h2, h3, h4⟩
 | goto l => exact ⟨σ', r', g', h1, h2, h3, h4⟩
 | ret => exact ⟨σ', r', g', h1, h2, h3, h4⟩
 | panic ch => exact ⟨σ', r', g', h1, h2, h3, h4⟩
 | outgrown => exact ⟨σ', r', g', h1, h2, h3, h4⟩
end
def zd2 (P : Program) (N : Nat) (ops : Array Oper) (i : Nat) (σ : St) (J : Hj) (K : St -> Hj -> Prop) : Prop := ∀ (Q : Exit -> St -> Hj -> Prop) n0 w0 A0 g a w, (∀ σ' J', K σ' J' -> Q .normal σ' J') -> RelJ n0 N σ J A0 g a w -> LtK n0 w -> Bk n0 w0 w -> wpOps P ops (EndsJ n0 N w0 A0 Q) (List.range' i (ops.size - i)) a w
theorem zbw.region {id : Nat} {ops : Array Oper} {σ : St} {J : Hj} {Q : Exit -> St -> Hj -> Prop} (h : zd2 P N ops 0 σ J (Q .normal)) : zbw P N (.region id ops false) σ J Q := fun n0 w0 A0 g a w h1 h2 h3 => by
 refine wp_region ?_
 rw [List.range_eq_range']
 exact h Q n0 w0 A0 g a w (fun _ _ k => k) h1 h2 h3
section
variable {ops : Array Oper} {i : Nat} {σ : St} {J : Hj} {K : St -> Hj -> Prop}
theorem zd2.done (hi : ops.size = i) (h : K σ J) : zd2 P N ops i σ J K := fun Q n0 w0 A0 g a w hK h1 h2 h3 => by
 rw [hi, Nat.sub_self]
 exact ⟨σ, J, g, hK _ _ h, h1, h2, h3⟩
theorem zd2.plain (k : Nat) (hk : i + k <= ops.size) (hg : (ops.toList.all fun o => o.guard.isNone) = true) (hd : zcp N (.region 0 ops false) = true) (h : exo P ops ((ops.toList.drop i).take k) [] (fun _ σ' => zd2 P N ops (i + k) σ' J K) σ) : zd2 P N ops i σ J K := fun Q n0 w0 A0 g a w hK h1 h2 h3 => by
 obtain ⟨n1, k1, k2, k4, k5⟩ := h1.rel
 have hd' : ∀ o ∈ ops.toList, ∀ d, o.dst = some d -> d < N := fun o ho d hdd => by
  simp only [zcp, Array.all_eq_true_iff_forall_mem] at hd
  have := hd o (by simpa using ho)
  rw [hdd] at this
  simpa using this
 have hg' : ∀ o ∈ ops.toList, o.guard = none := fun o ho => by
  have := List.all_eq_true.1 hg o ho
  simpa using this
 have hr : List.range' i (ops.size - i) = List.range' i k ++ List.range' (i + k) (ops.size - (i + k)) := by
  rw [List.range'_append_1]; congr 1; omega
 rw [hr]
 refine zyc (w0 := w) (A0 := (g.A0, g.R0)) hg' ?_ k i hk hd' σ g a w (by simpa [exo, ztv] using h) k4 k5 (Bk.refl _ _) rfl
 intro a' w' σ' g' hK' m2 m3 m4 m5
 exact hK' Q n0 w0 A0 g' a' w' hK (h1.keep k1 k2 m2 m3 m4 m5) (h2.mono m4.size) (h3.trans (zv5 k1 m4))
structure EndJ (J : Hj) (w : World) (J' : Hj) (w' : World) : Prop where
 good : GoodJ J'
 I : J'.I w'
 F : ∀ x, J'.F x -> (J.F x \/ w.heap.size <= x) /\ x < w'.heap.size
 R : ∀ x, J'.R x -> J.R x
 bk : Bk (fun x => x < w.heap.size /\ ¬ J.F x) w w'
end
attribute [go_sem] zlw zx5 zsx zoo qbo znh zsk qhk zz2
end Go.Proofs.YtaaniggpnljckaaGreat
namespace Go.Proofs.YtaaniggpnljckaaGreat
set_option linter.unusedSimpArgs false
set_option linter.unusedVariables false
set_option linter.unusedSectionVars false
set_option maxRecDepth 4000
open Go.RowKit
variable {P : Program} {N : Nat}
theorem zbw.mono {c : Code} {σ : St} {J : Hj} {Q R : Exit -> St -> Hj -> Prop} (h : ∀ e σ' J', Q e σ' J' -> R e σ' J') (k : zbw P N c σ J Q) : zbw P N c σ J R := fun n0 w0 A0 g a w h1 h2 h3 => by
 refine wp_mono (k n0 w0 A0 g a w h1 h2 h3) fun e a' w' hq => ?_
 obtain ⟨σ', r', g', k1, k2, k3, k4⟩ := hq
 exact ⟨σ', r', g', h _ _ _ k1, k2, k3, k4⟩
theorem zbw.cut : ∀ (n : Nat) {c : Code} {σ : St} {H : Hj} {Q : Exit -> St -> Hj -> Prop}, okC n c = true -> zcp N (preC n c) = true -> ex P (preC n c) [] (fun e σ' => zss P N (sufC n c) Q e σ' H) σ -> zbw P N c σ H Q
 | 0, .seq x y, σ, H, Q, _, hd, h => zbw.seq (zbw.ofEx hd h)
 | n + 1, .seq x y, σ, H, Q, ho, hd, h => by
  simp only [preC, zcp, Bool.and_eq_true] at hd
  refine zbw.seq (zbw.mono (Q := fun e σ' r => r = H /\ ztv P [.seq (preC n y)] (fun e σ' => zss P N (sufC n y) Q e σ' H) e σ') (fun e σ' r k => ?_) (zbw.ofEx hd.1 (zcm (fun e σ' k => ⟨rfl, k⟩) h)))
  obtain ⟨rfl, k⟩ := k
  cases e with
  | normal => exact zbw.cut n ho hd.2 k
  | exit i => exact k
  | goto l => exact k
  | ret => exact k
  | panic ch => exact k
  | outgrown => exact k
theorem zyj {n0 : Nat -> Prop} {σ : St} {g : Gh} {a : Act} {w : World} (hR : Rel n0 N σ g a w) {o : Oper} {x : Operand} {asx : Array Operand} {ts : Array TypeId} {f : FuncId} {caps : List Value} (ho : o.op = .call ⟨.value x, asx, ts⟩)
  (hc : σ.get P 0 x = .one (.t (.cl f caps))) (hf : za8 P f) : ∃ us, (execOp a.eval o).run P w = .ok (.enter f ⟨us ++ caps⟩) w /\ VRl σ g w (σ.gets P asx ts) us := by
 have hv := hR.get P 0 x
 rw [hc] at hv
 simp only [VR, CR, zai] at hv
 refine ⟨asx.toList.map a.eval, ?_, zn9 hR asx ts⟩
 unfold execOp
 simp only [ho, resolve, hv, Deferred.ofValue, invoke, Sem.run_bind, Sem.run_pure, Result.andThen]
 refine (hf _ w).trans ?_
 congr 2
 apply Array.ext'
 simp
theorem EvR.rep {w : World} {A : Nat -> Prop} {x : Ev} {v : Value} {fp : List Nat} (h : EvR w A x v fp) : zai w (fun b => A b \/ b ∈ fp) (.sl x.sz x.rows) v := by
 obtain ⟨ao, cap, rfl, h1, h2, h3⟩ := h
 unfold zai
 refine ⟨ao, cap, rfl, h1, h2, ?_⟩
 rcases h3 with ⟨_, _, h, _⟩ | ⟨b, cells, ty, fps, rfl, rfl, k1, k2, k3⟩
 ·exact Or.inl h
 ·refine Or.inr ⟨b, 0, rfl, Or.inr (by simp), ?_⟩
  split at k3
  ·exact zag.rep b cells ty k1 0 x.sz x.rows fps k3 fun q hq => Or.inr (by simp [hq])
  ·exact zak.keep (fun _ _ => rfl) (fun q hq => Or.inl hq) b rfl 0 x.sz x.rows k3.2
theorem qhu {n1 : Nat -> Prop} {σ : St} {J : Hj} {g : Gh} {a : Act} {w : World} (hR : Rel n1 N σ g a w) (hn : LtK n1 w) (hJ : OkJ J n1 g.A0 w) {e n : Nat} {x : Ev} (he : σ.ev e = some x) (ho : x.on = true) (hg : x.gen = n) :
  zai w (fun b => (b < w.heap.size /\ ¬ J.F b)) (.sl x.sz x.rows) (g.ψ e n) := by
 subst hg
 have hE := hR.evs e x he ho
 refine zai.keep (fun _ _ => rfl) (fun b hb => ?_) _ _ hE.rep
 rcases hb with hb | hb
 ·exact ⟨hb.2.2.1, fun hF => (hJ.F b hF).2 hb.2.2.2⟩
 ·exact ⟨hE.lt b hb, fun hF => hR.etop e ⟨x, he, ho⟩ b hb (hJ.F b hF).1⟩
end Go.Proofs.YtaaniggpnljckaaGreat
namespace Go.Proofs.YtaaniggpnljckaaGreat
set_option linter.unusedSimpArgs false
set_option linter.unusedVariables false
set_option linter.unusedSectionVars false
set_option maxRecDepth 4000
open Go.RowKit
def zwq (w : World) (A : Nat -> Prop) (r : List T) (t : Tm) : Prop := ∃ ao l c, r = [.str t.name, .vs ao l c] /\ zai w A (tmS t.args) (.slice ao l c)
def zbu (w : World) (A : Nat -> Prop) : List (List T) -> List Tm -> Prop
 | [], l => l = []
 | r :: rs, l => ∃ t ts, l = t :: ts /\ zwq w A r t /\ zbu w A rs ts
theorem zwq.keep {w w' : World} {A A' : Nat -> Prop} (hs : ∀ b, A b -> w'.heap[b]? = w.heap[b]?) (ha : ∀ b, A b -> A' b) {r : List T} {t : Tm} (h : zwq w A r t) : zwq w' A' r t := by
 obtain ⟨ao, l, c, h1, h2⟩ := h
 exact ⟨ao, l, c, h1, zai.keep hs ha _ _ h2⟩
theorem zbu.keep {w w' : World} {A A' : Nat -> Prop} (hs : ∀ b, A b -> w'.heap[b]? = w.heap[b]?) (ha : ∀ b, A b -> A' b) : ∀ {rs : List (List T)} {ts : List Tm}, zbu w A rs ts -> zbu w' A' rs ts
 | [], _, h => h
 | _ :: _, _, h => by obtain ⟨t, ts, rfl, h1, h2⟩ := h; exact ⟨t, ts, rfl, h1.keep hs ha, zbu.keep hs ha h2⟩
theorem zbu.len {w : World} {A : Nat -> Prop} : ∀ {rs : List (List T)} {ts : List Tm}, zbu w A rs ts -> rs.length = ts.length
 | [], _, h => by rw [show _ = [] from h]; rfl
 | _ :: _, _, h => by obtain ⟨t, ts, rfl, h1, h2⟩ := h; simp [zbu.len h2]
theorem zbu.at {w : World} {A : Nat -> Prop} : ∀ {rs : List (List T)} {ts : List Tm}, zbu w A rs ts -> ∀ i (h1 : i < rs.length) (h2 : i < ts.length), zwq w A rs[i] ts[i]
 | [], _, _, i, h1, _ => by simp at h1
 | _ :: _, _, h, i, h1, h2 => by
  obtain ⟨t, ts, rfl, k1, k2⟩ := h
  cases i with
  | zero => exact k1
  | succ i => exact zbu.at k2 i (by simpa using h1) (by simpa using h2)
theorem zlu {w : World} {A : Nat -> Prop} {b : Nat} : ∀ (l : List Tm) (o : Nat), zak w A b o 2 (l.map tmC) -> ∃ fl, zak w A b o 2 fl /\ zbu w A fl l
 | [], _, _ => ⟨[], by unfold zak; trivial, rfl⟩
 | t :: l, o, h => by
  rw [List.map_cons, zak] at h
  obtain ⟨_, h2, h3⟩ := h
  obtain ⟨fl, k1, k2⟩ := zlu l (o + 2) h3
  rw [zaa] at h2
  simp only [zaz] at h2
  obtain ⟨⟨v1, c1, r1⟩, ⟨v2, c2, r2⟩, _⟩ := h2
  have r2' := r2
  unfold zai at r2'
  obtain ⟨ao, cap, rfl, _⟩ := r2'
  refine ⟨[.str t.name, .vs ao _ cap] :: fl, ?_, t, l, rfl, ⟨ao, _, cap, rfl, r2⟩, k2⟩
  rw [zak]
  refine ⟨rfl, ?_, k1⟩
  simp only [zaz]
  exact ⟨⟨v1, c1, r1⟩, ⟨_, c2, by unfold zai; rfl⟩, trivial⟩
theorem zm3 {w : World} {A A' A'' : Nat -> Prop} (h1 : ∀ b, A b -> A'' b) (h2 : ∀ b, A' b -> A'' b) {b : Nat} : ∀ (fl : List (List T)) (l : List Tm) (o : Nat), zak w A b o 2 fl -> zbu w A' fl l -> zak w A'' b o 2 (l.map tmC)
 | [], l, o, _, h => by rw [show l = [] from h, List.map_nil, zak]; trivial
 | r :: fl, l, o, h, k => by
  obtain ⟨t, ts, rfl, ⟨ao, n, c, rfl, k1⟩, k2⟩ := k
  rw [zak] at h
  obtain ⟨_, h4, h5⟩ := h
  rw [List.map_cons, zak]
  refine ⟨by rw [zaa]; rfl, ?_, zm3 h1 h2 fl ts (o + 2) h5 k2⟩
  rw [zaa]
  simp only [zaz] at h4 ⊢
  obtain ⟨⟨v1, c1, r1⟩, ⟨v2, c2, r2⟩, _⟩ := h4
  unfold zai at r2
  subst r2
  exact ⟨⟨v1, c1, zai.keep (fun _ _ => rfl) h1 _ _ r1⟩, ⟨_, c2, zai.keep (fun _ _ => rfl) h2 _ _ k1⟩, trivial⟩
theorem zai.flatL {w : World} {A : Nat -> Prop} {l : List Tm} {v : Value} (h : zai w A (tmS l) v) : ∃ fl, zai w A (.sl 2 fl) v /\ zbu w A fl l := by
 unfold zai at h
 obtain ⟨ao, cap, rfl, h1, h2, h3⟩ := h
 rw [List.length_map] at h1
 rcases h3 with h3 | ⟨b, o, rfl, h4, h5⟩
 ·have e : l = [] := List.map_eq_nil_iff.1 h3
  subst e
  exact ⟨[], by unfold zai; exact ⟨ao, cap, rfl, Nat.zero_le _, h2, Or.inl rfl⟩, rfl⟩
 ·obtain ⟨fl, k1, k2⟩ := zlu l o h5
  refine ⟨fl, ?_, k2⟩
  unfold zai
  exact ⟨_, cap, by rw [k2.len, List.length_map], by rw [k2.len]; exact h1, h2, Or.inr ⟨b, o, rfl, h4, k1⟩⟩
theorem zai.deepL {w : World} {A A' A'' : Nat -> Prop} (h1 : ∀ b, A b -> A'' b) (h2 : ∀ b, A' b -> A'' b) {fl : List (List T)} {l : List Tm} {v : Value} (h : zai w A (.sl 2 fl) v) (k : zbu w A' fl l) : zai w A'' (tmS l) v := by
 unfold zai at h ⊢
 obtain ⟨ao, cap, rfl, q1, q2, q3⟩ := h
 have e := k.len
 refine ⟨ao, cap, by rw [List.length_map, e], by rw [List.length_map, <- e]; exact q1, q2, ?_⟩
 rcases q3 with rfl | ⟨b, o, rfl, h4, h5⟩
 ·have : l = [] := k
  subst this
  exact Or.inl rfl
 ·exact Or.inr ⟨b, o, rfl, h1 b h4, zm3 h1 h2 fl l o h5 k⟩
set_option maxHeartbeats 1000000 in
theorem zxr : CloneOf Tryz.prog 35 2 40 := by
 have t22 := Tryz.underlying28
 have q22 : ∀ (w : World) (a : Option Addr) (n c n' c' : Nat), (binOp .eql 28 (.slice a n c) (.slice none n' c')).run Tryz.prog w = .ok (.bool a.isNone) w := fun w a n c n' c' => Lib.run_eql_slice_nil w _ _ a n c n' c' t22
 have u22 : ∀ w, Sem.run Tryz.prog (underlying 28) w = .ok (TypeDesc.slice 35) w := run_underlying t22
 refine ⟨Tryz.call35, fun ad n c news w hl hn hbig hc h1 => ?_, fun n c w => ?_⟩
 ·have A : Aside (∀ j u, news[j]? = some u -> w.cell? (ad.add j) = some u) := hc
  clear hc
  obtain ⟨i0, z, hi, hz0, hzs, hz1, hz2⟩ := qha (P := Tryz.prog) (t := 35) (n := 2) (b := 40) (z := [.t (.str []), .nl 2]) (by kernel_rfl) (by kernel_rfl) (by kernel_rfl) rfl
  go_enter Tryz.func35, Tryz.ntmps35
  go_wp2_with (at_builtin; refine wpList_append_own _ rfl _ _ 28 rfl w.heap.size 35 i0 z 2 40 t22 hi hz0 hz1 hz2 hzs (by decide) _ _ _ rfl (World.ownsRow_made w #[] 0 (Nat.le_refl _) (Nat.zero_le _) (by simp)) ad n c news rfl ?qc1 ?qc2 ?qc3 ?qc4 ?qc5 ?qc6 ?_)
  case qc1 => exact hl
  case qc2 =>
   intro j u hj
   exact Lib.cell?_alloc_some _ (A.out j u hj)
  case qc3 => exact h1
  case qc4 => rw [Nat.zero_add]; exact hn
  case qc5 => rw [Nat.zero_add]; exact hbig
  case qc6 => simp
  intro v' w1 hown hgrow hnil
  go_wp2
  go_ret
  refine ⟨_, v', rfl, by simpa using hown, hnil, ?_⟩
  exact ((Below.refl _ w).alloc (Nat.le_refl _) _).grown hgrow (by simp) (by intro k hk; simp [Value.ownBlock] at hk; omega)
 ·go_enter Tryz.func35, Tryz.ntmps35
  go_wp2
  go_ret
  exact ⟨rfl, rfl⟩
theorem zne (fl : List (List T)) (hs : fl.length <= 1099511627776) (hf : ∀ c ∈ fl.flatten, c.flat = true) : FC Tryz.prog 35 [.one (.sl 2 fl)] [.one (.sl 2 fl)] :=
 qcc zxr _ (by omega) hf
end Go.Proofs.YtaaniggpnljckaaGreat
namespace Go.Proofs.YtaaniggpnljckaaGreat
set_option linter.unusedSimpArgs false
set_option linter.unusedVariables false
set_option linter.unusedSectionVars false
set_option maxRecDepth 4000
open Go.RowKit
variable {P : Program} {N : Nat}
def vwM (P : Program) (t : TypeId) (x lo : Operand) (d : Nat) (K : St -> Prop) (σ : St) : Prop := match σ.get P t x, σ.get P 0 lo with
 | .one (.ow e gn), .one (.t (.int _ k)) => zam (σ.ev e) fun y => y.gen = gn /\ (0 <= k /\ k < y.rows.length) /\ (elT P t).bind (zbc P) = some y.sz /\ K (σ.put (some d) (.one (.vw e gn y.sz k.toNat)))
 | _, _ => False
theorem viewF {ks : List Fr} {Q : Exit -> St -> Prop} {σ : St} {ops : Array Oper} {os : List Oper} {d : Nat} {t : TypeId} {x lo : Operand} {ty : TypeId} {ps : String} {af : Array Edge} (k : vwM P t x lo d (exo P ops os ks Q) σ) : ztq P ops ⟨some d, .slice t x (some lo) none none, ty, ps, af, none⟩ os ks Q σ := by
 unfold vwM at k
 split at k
 ·rename_i e gn kk k' s1 s2
  obtain ⟨y, he, h3⟩ := zal k
  obtain ⟨dp, sz, rows, g', on⟩ := y
  obtain ⟨rfl, ⟨h0, hl⟩, hsz, hK⟩ := h3
  simp only at hl hsz hK
  refine zae.toX (zae.value (x := .one (.vw e g' sz k'.toNat)) fun n0 N g a w hR => ?_) hK
  have v1 := hR.get P t x
  rw [s1] at v1
  obtain ⟨v1, hh⟩ := v1
  obtain ⟨b, cap, e1⟩ := hR.sliceOf he (by intro h0; simp only at h0; rw [h0] at hl; simp at hl; omega)
  obtain ⟨ao', cap', e2, e3, e4⟩ := hR.sliceAny he
  have hcc : cap = cap' := by
   have := e1.symm.trans e2
   simp only [Value.slice.injEq] at this
   exact this.2.2
  subst hcc
  simp only at e1 e2 e3
  obtain ⟨kn, rfl⟩ : ∃ kn : Nat, k' = kn := ⟨k'.toNat, by omega⟩
  have hkl : kn < rows.length := by omega
  obtain ⟨el, hel, hse⟩ := qd7 hsz
  have hbn := zcg (P := P) (low := some lo) (high := none) (len := rows.length) (cap := cap) hR true (l := (kn : Int)) (u := (rows.length : Int)) (by simp only [ziv, s2]) rfl (by omega) (by omega) (by omega) (by omega)
  refine ⟨.slice (some ⟨b, kn * sz, none⟩) (rows.length - kn) (cap - kn), ?_, b, rows.length, cap, e1, by rw [Int.toNat_natCast], by rw [Int.toNat_natCast]; exact hkl, hh⟩
  unfold execOp
  have hcp : ¬ cap = kn := by omega
  rw [Int.toNat_natCast, Int.toNat_natCast, Option.map_some, Option.map_none] at hbn
  simp only [Instr.sliceAt, Instr.slice, Sem.run_bind, run_underlying hel, Result.andThen, v1, e1, Option.map_some, Option.map_none, hbn, zbo hse, Sem.run_pure]
  rw [if_neg hcp]
  simp only [Addr.add]
  congr 2
  split <;> simp_all
 ·exact k.elim
def PSJ (P : Program) (rs : List ResultVar) (res : List D) (e : Exit) (σ : St) (_ : Hj) : Prop := match e with
 | .normal => zam (zbh P σ rs) fun vs => zvq σ [] vs res
 | .ret => zam (zbh P σ rs) fun vs => zvq σ [] vs res
 | _ => False
end Go.Proofs.YtaaniggpnljckaaGreat
namespace Go.Proofs.YtaaniggpnljckaaGreat
set_option linter.unusedSimpArgs false
set_option linter.unusedVariables false
set_option linter.unusedSectionVars false
set_option maxRecDepth 4000
open Go.RowKit
variable {P : Program} {N : Nat}
theorem zd2.step {ops : Array Oper} {i : Nat} {σ : St} {J : Hj} {K : St -> Hj -> Prop} {o : Oper} (hl : ops[i]? = some o) (hg : o.guard = none) (hd : ∀ d, o.dst = some d -> d < N) (h : za9 P o σ fun σ' => zd2 P N ops (i + 1) σ' J K) : zd2 P N ops i σ J K := fun Q n0 w0 A0 g a w hK h1 h2 h3 => by
 have hlt : i < ops.size := (Array.getElem?_eq_some_iff.1 hl).1
 obtain ⟨n1, k1, k2, k4, k5⟩ := h1.rel
 rw [show List.range' i (ops.size - i) = i :: List.range' (i + 1) (ops.size - (i + 1)) by rw [show ops.size - i = (ops.size - (i + 1)) + 1 by omega]; rfl, wpOps_cons]
 unfold wpOp
 simp only [hl]
 rw [if_pos (by simp [Region.wanted, hg])]
 refine Or.inl (zb9 ?_ (h n1 N g a w k4 k5 hd))
 rintro a' w' ⟨σ', g', hK', m2, m3, m4, m5⟩
 exact hK' Q n0 w0 A0 g' a' w' hK (h1.keep k1 k2 m2 (k5.mono m3.size) m3 (by rw [m4, m5])) (h2.mono m3.size) (h3.trans (zv5 k1 m3))
theorem zdg {w : World} {zt : List T} {z : List Value} (h : zav w zt z []) : ∀ n, zav w (List.replicate n zt).flatten (List.replicate n z).flatten []
 | 0 => ⟨rfl, rfl⟩
 | n + 1 => by
  rw [List.replicate_succ, List.replicate_succ, List.flatten_cons, List.flatten_cons]
  exact h.append (zdg h n)
theorem zes {sz : Nat} : ∀ {rows : List (List T)} (k : Nat), lens sz rows -> (rows.take k).flatten = rows.flatten.take (k * sz)
 | [], k, _ => by simp
 | r :: rs, 0, _ => by simp
 | r :: rs, k + 1, h => by
  have h1 := h r (by simp)
  rw [List.take_succ_cons, List.flatten_cons, List.flatten_cons, zes k fun y hy => h y (by simp [hy]), show (k + 1) * sz = r.length + k * sz by rw [h1, Nat.add_mul]; omega, List.take_length_add_append]
theorem ze7 (z : Array Value) (n : Nat) : (Builtin.zeroCells z n).toList = (List.replicate n z.toList).flatten := by
 unfold Builtin.zeroCells
 apply List.ext_getElem
 ·simp
 ·intro i h1 h2
  simp only [Array.toList_map, Array.toList_range, List.getElem_map, List.getElem_range]
  have hi : i < n * z.size := by simpa using h1
  have hz : 0 < z.size := Nat.pos_of_ne_zero fun h => by rw [h] at hi; omega
  have hm : i % z.size < z.size := Nat.mod_lt _ hz
  rw [getElem!_pos z (i % z.size) hm]
  have : ∀ (n i : Nat) (h : i < ((List.replicate n z.toList).flatten).length), ((List.replicate n z.toList).flatten)[i] = z[i % z.size]'(Nat.mod_lt _ hz) := by
   intro n
   induction n with
   | zero => intro i h; simp at h
   | succ n ih =>
    intro i h
    simp only [List.replicate_succ, List.flatten_cons] at h ⊢
    by_cases hlt : i < z.size
    ·rw [List.getElem_append_left (by simpa using hlt)]
     simp [Nat.mod_eq_of_lt hlt]
    ·rw [List.getElem_append_right (by simpa using hlt)]
     rw [ih]
     have e : (i - z.toList.length) % z.size = i % z.size := by
      rw [Array.length_toList, <- Nat.mod_eq_sub_mod (by omega)]
     simp only [e]
  exact (this n i h2).symm
theorem ziy : ∀ {ts : List T} {vs : List Value} {f : List Nat} {w : World}, (∀ c ∈ ts, c.flat = true) -> zav w ts vs f -> f = []
 | [], _, _, _, _, h => h.2
 | c :: ts, vs, f, w, hc, h => by
  obtain ⟨v, vs', f1, f2, _, rfl, h1, h2⟩ := h
  rw [ziy (fun c' hc' => hc c' (by simp [hc'])) h2, List.append_nil]
  have hcf := hc c (by simp)
  cases c <;> simp only [T.flat, Bool.false_eq_true] at hcf <;> unfold zao at h1
  ·exact h1.2.2.2
  ·exact h1.2
  ·exact h1.2.2
  ·exact h1.2
theorem qck {σ : St} {K : St -> Prop} {d : Nat} {t el : TypeId} {x hi : Operand} {ty : TypeId} {ps : String} {af : Array Edge} {e gn sz k : Nat} {rows : List (List T)} {kk : IntKind} (s1 : σ.get P t x = .one (.ow e gn)) (s2 : σ.get P 0 hi = .one (.t (.int kk k))) (he : σ.ev e = some ⟨true, sz, rows, gn, true⟩)
  (hfl : ∀ c ∈ rows.flatten, c.flat = true) (hkl : k < rows.length) (hel : elT P t = some el) (hsz : zbc P el = some sz) (hK : K ((σ.apd e [] ⟨true, sz, rows.take k, gn + 1, true⟩).put (some d) (.one (.ow e (gn + 1))))) : za9 P ⟨some d, .slice t x none (some hi) none, ty, ps, af, none⟩ σ K := by
 intro n0 N g a w hR hn hdN
 have v1 := hR.get P t x
 rw [s1] at v1
 obtain ⟨v1, -⟩ := v1
 obtain ⟨vs0, fps, top, hT⟩ := hR.tgt he rfl
 have hlens := hT.lens
 simp only at hlens
 rcases hT.val with ⟨_, hh, _⟩ | ⟨b, cap, cells, cty, w1, w2, w3, w4, w5, w6, w7⟩
 ·simp only at hh; rw [hh] at hkl; simp at hkl
 simp only at w1 w2 w5 w6
 have hown := hT.own rfl
 simp only at hown
 have hfps := ziy hfl hown
 subst hfps
 have hbn := zcg (P := P) (low := none) (high := some hi) (len := rows.length) (cap := cap) hR true (l := 0) (u := (k : Int)) rfl (by simp only [ziv, s2]) (by omega) (by omega) (by omega) w2
 have hun : P.underlying t = some (.slice el) := zdn hel
 have e0 : (execOp a.eval ⟨some d, .slice t x none (some hi) none, ty, ps, af, none⟩).run P w = .ok (.value (.slice (some ⟨b, 0, none⟩) k cap)) w := by
  unfold execOp
  have hcp : ¬ cap = 0 := by omega
  rw [Int.toNat_natCast, show ((0 : Int).toNat) = 0 from rfl, Option.map_some, Option.map_none] at hbn
  simp only [Instr.sliceAt, Instr.slice, Sem.run_bind, run_underlying hun, Result.andThen, v1, w1, Option.map_some, Option.map_none, hbn, zbo hsz, Sem.run_pure]
  rw [if_neg hcp]
  simp only [Addr.add]
  congr 2
  simp
 unfold Oper.wp
 rw [e0]
 have hTl : (rows.take k).length = k := by rw [List.length_take]; omega
 have hR' := hR.apd_fin (w' := w) (y := ⟨true, sz, rows.take k, gn + 1, true⟩) (v' := .slice (some ⟨b, 0, none⟩) k cap) (fp' := [b]) (fps2 := []) hT rfl (fun m hm => by
   obtain ⟨q, hq, hmq⟩ := hm
   rw [he, Option.some.injEq] at hq
   subst hq
   simp only at hmq ⊢
   exact ⟨by omega, fun em => by omega⟩) (cons := []) (fun p hp => by simp at hp) (fun b hb => by simp at hb) b (Or.inl w7.symm) (fun k _ _ => rfl) (Nat.le_refl _) hn (by simp) (fun c hc => by
   simp only [List.mem_singleton] at hc
   exact Or.inl hc) (fun c hc => by simpa using hc.symm) fun A' hA' => by
  refine ⟨some ⟨b, 0, none⟩, cap, by simp only [hTl], by simp only [hTl]; omega, w3, Or.inr ⟨b, cells, cty, [], rfl, rfl, w4, w5, ?_⟩⟩
  simp only [if_true]
  have hl2 : lens sz (rows.take k) := fun r hr => hlens r (List.mem_of_mem_take hr)
  rw [<- List.take_append_drop (k * sz) rows.flatten, <- zes k hlens] at hown
  obtain ⟨u1, u2, f1, f2, hu, hf, k1, k2⟩ := hown.split
  obtain ⟨rfl, rfl⟩ := List.append_eq_nil_iff.1 hf.symm
  refine zag.of_vals hl2 k1 fun j u hj => ?_
  have hju : vs0[j]? = some u := by rw [hu, List.getElem?_append_left (List.getElem?_eq_some_iff.1 hj).1]; exact hj
  have hc : cells.toList[j]? = some u := by
   rw [<- w6, List.getElem?_take] at hju
   split at hju
   ·exact hju
   ·cases hju
  rw [Nat.zero_add]
  simpa using hc
 have hE : (σ.apd e [] ⟨true, sz, rows.take k, gn + 1, true⟩).ev e = some ⟨true, sz, rows.take k, gn + 1, true⟩ := by simp [St.apd, zac]
 exact ⟨_, _, hK, hR'.put (some d) (x := .one (.ow e (gn + 1))) (v := .slice (some ⟨b, 0, none⟩) k cap) ⟨by simp only [zac], _, hE, Nat.le_refl _⟩ (fun j hj => hdN j hj), Bk.refl _ _, rfl, rfl⟩
theorem qbf {σ : St} {K : St -> Prop} {t el : TypeId} {x : Operand} {ty : TypeId} {ps : String} {af : Array Edge} {e gn sz k : Nat} {rows : List (List T)} {z : Value} {zt : List T} (s1 : σ.get P t x = .one (.vw e gn sz k)) (he : σ.ev e = some ⟨true, sz, rows, gn, true⟩)
  (hfl : ∀ c ∈ rows.flatten, c.flat = true) (hel : elT P t = some el) (hzv : ∀ w, (zeroValue el).run P w = .ok z w) (hzl : zt.length = sz) (hz1 : ∀ v ∈ z.cells.toList, v.oneCell' = true) (hzt : ∀ w, zav w zt z.cells.toList [])
  (hK : K (σ.apd e [] ⟨true, sz, rows.take k ++ List.replicate (rows.length - k) zt, gn, true⟩)) : za9 P ⟨none, .call ⟨.builtin .clear, #[x], #[t]⟩, ty, ps, af, none⟩ σ K := by
 intro n0 N g a w hR hn hdN
 have v1 := hR.get P t x
 rw [s1] at v1
 obtain ⟨b0, n0', c0, q1, q2, q3, -⟩ := v1
 obtain ⟨vs0, fps, top, hT⟩ := hR.tgt he rfl
 have hlens := hT.lens
 simp only at hlens
 have hzs : z.cells.toList.length = sz := by rw [<- hzl]; exact (hzt w).len
 rcases hT.val with ⟨hh, _⟩ | ⟨b, cap, cells, cty, w1, w2, w3, w4, w5, w6, w7⟩
 ·simp only at hh; rw [q1] at hh; cases hh
 simp only at w1 w2 w5 w6
 obtain ⟨rfl, rfl, rfl⟩ : b = b0 /\ rows.length = n0' /\ cap = c0 := by
  have := w1.symm.trans q1
  simp only [Value.slice.injEq, Option.some.injEq, Addr.mk.injEq] at this
  exact ⟨this.1.1, this.2.1, this.2.2⟩
 have hown := hT.own rfl
 simp only at hown
 have hfps := ziy hfl hown
 subst hfps
 have hun : P.underlying t = some (.slice el) := zdn hel
 have hrl : rows.flatten.length = rows.length * sz := zf6 hlens
 have hsub : k * sz + (rows.length - k) * sz = rows.length * sz := by rw [<- Nat.add_mul]; congr 1; omega
 have hcap : rows.length * sz <= cap * sz := Nat.mul_le_mul_right _ w2
 have hvl : vs0.length = rows.length * sz := hT.len
 have hzl2 : ((List.replicate (rows.length - k) z.cells.toList).flatten).length = (rows.length - k) * sz := by simp [hzs]
 have hst := run_storeCells_at P b (k * sz) cty ((List.replicate (rows.length - k) z.cells.toList).flatten) 0 cells w w4 (by rw [hzl2, w5]; omega) (fun v hv => by
  obtain ⟨l, hl, hv⟩ := List.mem_flatten.1 hv
  rw [List.eq_of_mem_replicate hl] at hv
  exact hz1 v hv)
 simp only [Nat.add_zero] at hst
 rw [hzl2, hsub] at hst
 have hnew : cells.toList.take (k * sz) ++ (List.replicate (rows.length - k) z.cells.toList).flatten ++ cells.toList.drop (rows.length * sz) = vs0.take (k * sz) ++ (List.replicate (rows.length - k) z.cells.toList).flatten ++ cells.toList.drop (rows.length * sz) := by
  rw [<- w6, List.take_take, Nat.min_eq_left (by omega)]
 rw [hnew] at hst
 have e1 : (execOp a.eval ⟨none, .call ⟨.builtin .clear, #[x], #[t]⟩, ty, ps, af, none⟩).run P w = .ok (.value (.tuple #[])) (w.setRow b (vs0.take (k * sz) ++ (List.replicate (rows.length - k) z.cells.toList).flatten ++ cells.toList.drop (rows.length * sz)).toArray) := by
  obtain ⟨n', hn'⟩ : ∃ n', rows.length - k = n' + 1 := ⟨rows.length - k - 1, by omega⟩
  have hzc := ze7 z.cells (rows.length - k)
  rw [hn'] at q2 hst hzc ⊢
  unfold execOp
  simp [resolve, invoke, builtin, q2, Builtin.clear_, run_underlying hun, hzv, hzc, hst, Result.andThen]
 unfold Oper.wp
 rw [e1]
 have hsame : ∀ j, j ≠ b -> (w.setRow b (vs0.take (k * sz) ++ (List.replicate (rows.length - k) z.cells.toList).flatten ++ cells.toList.drop (rows.length * sz)).toArray).heap[j]? = w.heap[j]? := fun j hj => setRow_other w _ j _ hj
 have hblk := setRow_heap w b cells (vs0.take (k * sz) ++ (List.replicate (rows.length - k) z.cells.toList).flatten ++ cells.toList.drop (rows.length * sz)).toArray cty (0, 0) w4
 have hsize : (w.setRow b (vs0.take (k * sz) ++ (List.replicate (rows.length - k) z.cells.toList).flatten ++ cells.toList.drop (rows.length * sz)).toArray).heap.size = w.heap.size := setRow_size _ _ _
 have hbk : Bk n0 w (w.setRow b (vs0.take (k * sz) ++ (List.replicate (rows.length - k) z.cells.toList).flatten ++ cells.toList.drop (rows.length * sz)).toArray) := ⟨rfl, rfl, rfl, Nat.le_of_eq hsize.symm, fun j hj => hsame j fun e' => (hT.bx b (Or.inl w7.symm)).2.1.2.2 (e' ▸ hj)⟩
 generalize w.setRow b (vs0.take (k * sz) ++ (List.replicate (rows.length - k) z.cells.toList).flatten ++ cells.toList.drop (rows.length * sz)).toArray = w' at hsame hblk hsize hbk ⊢
 have hyl : (rows.take k ++ List.replicate (rows.length - k) zt).length = rows.length := by simp; omega
 have hR' := hR.apd_fin (w' := w') (y := ⟨true, sz, rows.take k ++ List.replicate (rows.length - k) zt, gn, true⟩) (v' := g.ψ e gn) (fp' := [b]) (fps2 := []) hT rfl (fun m hm => ⟨by
   obtain ⟨q, hq, hmq⟩ := hm
   rw [he, Option.some.injEq] at hq
   subst hq
   exact hmq, fun em => by simp only at em; rw [em]⟩) (cons := []) (fun p hp => by simp at hp) (fun b hb => by simp at hb) b (Or.inl w7.symm) (fun j _ hj => hsame j hj) (Nat.le_of_eq hsize.symm) hn (by simp) (fun c hc => by
   simp only [List.mem_singleton] at hc
   exact Or.inl hc) (fun c hc => by simpa using hc.symm) fun A' hA' => by
  refine ⟨some ⟨b, 0, none⟩, cap, by rw [hyl]; exact w1, by rw [hyl]; exact w2, w3, Or.inr ⟨b, _, cty, [], rfl, rfl, hblk, ?_, ?_⟩⟩
  ·simp only [List.size_toArray, List.length_append, List.length_take, List.length_drop, hzl2, hvl, Array.length_toList, w5]
   omega
  ·simp only [if_true]
   have hl2 : lens sz (rows.take k ++ List.replicate (rows.length - k) zt) := fun r hr => by
    rcases List.mem_append.1 hr with h | h
    ·exact hlens r (List.mem_of_mem_take h)
    ·rw [List.eq_of_mem_replicate h]; exact hzl
   rw [<- List.take_append_drop (k * sz) rows.flatten, <- zes k hlens] at hown
   obtain ⟨u1, u2, f1, f2, hu, hf, k1, k2⟩ := hown.split
   obtain ⟨rfl, rfl⟩ := List.append_eq_nil_iff.1 hf.symm
   have l1 : u1.length = k * sz := by rw [k1.len, zes k hlens, List.length_take, hrl]; omega
   have ha : zav w' (rows.take k ++ List.replicate (rows.length - k) zt).flatten (u1 ++ (List.replicate (rows.length - k) z.cells.toList).flatten) [] := by
    rw [List.flatten_append]
    exact (k1.keep fun c hc => by simp at hc).append (zdg (hzt w') _)
   rw [hu, <- l1, List.take_left]
   refine zag.of_vals hl2 ha fun j u hu => ?_
   rw [Nat.zero_add]
   simp only [List.getElem?_toArray]
   rw [List.getElem?_append_left (List.getElem?_eq_some_iff.1 hu).1]
   exact hu
 exact ⟨_, _, hK, hR', hbk, rfl, rfl⟩
end Go.Proofs.YtaaniggpnljckaaGreat
namespace Go.Proofs.YtaaniggpnljckaaGreat
set_option linter.unusedSimpArgs false
set_option linter.unusedVariables false
set_option linter.unusedSectionVars false
set_option maxRecDepth 4000
open Go.RowKit Go.Lib
variable {P : Program}
theorem zj3 (w : World) {o : Oper} {a : Act} {K : Act -> World -> Prop} {Q : Exit -> Act -> World -> Prop} (d : Operand) (t : TypeId)
  (ho : o.op = .call { callee := .builtin .clear, args := #[d], argTypes := #[t] }) (v : Value) (hd : a.eval d = v) {v' : Value} {w' : World}
  (hr : (Builtin.clear_ #[t] o.type #[v]).run P w = .ok v' w') (h : K (a.put o.dst v') w') : o.wp P a w K Q := by
 unfold Oper.wp execOp
 simp only [ho, resolve, invoke, builtin, Sem.run_bind, Sem.run_pure, Result.andThen_ok, List.map_toArray, List.map_cons, List.map_nil, hd, hr]
 exact h
theorem zge (w : World) {ops : Array Oper} {rest : List Oper} {o : Oper} {a : Act} {Q : Exit -> Act -> World -> Prop} (hgd : o.guard = none) (d : Operand) (t : TypeId)
  (ho : o.op = .call { callee := .builtin .clear, args := #[d], argTypes := #[t] }) (v : Value) (hd : a.eval d = v) {v' : Value} {w' : World}
  (hr : (Builtin.clear_ #[t] o.type #[v]).run P w = .ok v' w') (h : wpList P ops Q rest (a.put o.dst v') w') : wpList P ops Q (o :: rest) a w :=
 wpList_plain hgd fun _ hK => zj3 w d t ho v hd hr (hK _ _ h)
theorem zg5 {ops : Array Oper} {o : Oper} {a : Act} {w : World} {K : Act -> World -> Prop} {Q : Exit -> Act -> World -> Prop} {E : Prop}
  (hg : o.guard = none) (d x : Operand) (t : TypeId) (hop : o.op = Op.call { callee := Callee.builtin Builtin.append, args := #[d, x], argTypes := #[t, t] })
  (v u : Value) (hd : a.eval d = v) (hx : a.eval x = u) {v' : Value} {w' : World} (hr : (Builtin.append_ #[t, t] o.type #[v, u]).run P w = .ok v' w') (hK : K (a.put o.dst v') w') :
  if Region.wanted o (yielded ops a.tmps) = true then Oper.wp P o a w K Q else E := by
 have hw : Region.wanted o (yielded ops a.tmps) = true := by simp [Region.wanted, hg]
 rw [if_pos hw]
 unfold Oper.wp
 simp [execOp, hop, resolve, invoke, builtin, hd, hx, hr, Result.andThen]
 exact hK
theorem zx6 (w : World) (t el ty : TypeId) (b o k c : Nat) (cells : Array Value) (cty : TypeId) (z : Value) (hu : P.underlying t = some (.slice el)) (hzv : ∀ w, (zeroValue el).run P w = .ok z w)
  (hg : w.heap[b]? = some (.cells cells cty (0, 0))) (hfit : o + (k + 1) * z.cells.toList.length <= cells.size) (h1 : ∀ v ∈ z.cells.toList, v.oneCell' = true) :
  (Builtin.clear_ #[t] ty #[.slice (some ⟨b, o, none⟩) (k + 1) c]).run P w = .ok (.tuple #[]) (w.setRow b (cells.toList.take o ++ (List.replicate (k + 1) z.cells.toList).flatten ++ cells.toList.drop (o + (k + 1) * z.cells.toList.length)).toArray) := by
 have hzl2 : ((List.replicate (k + 1) z.cells.toList).flatten).length = (k + 1) * z.cells.toList.length := by simp
 have hst := run_storeCells_at P b o cty ((List.replicate (k + 1) z.cells.toList).flatten) 0 cells w hg (by rw [hzl2]; omega) (fun v hv => by
  obtain ⟨l, hl, hv⟩ := List.mem_flatten.1 hv
  rw [List.eq_of_mem_replicate hl] at hv
  exact h1 v hv)
 simp only [Nat.add_zero] at hst
 rw [hzl2] at hst
 have hzc := ze7 z.cells (k + 1)
 simp [Builtin.clear_, run_underlying hu, hzv, hzc, hst, Result.andThen]
section
abbrev qed : TypeId := 35
abbrev zk5 : TypeId := 28
set_option maxHeartbeats 4000000
set_option maxRecDepth 100000
theorem delTm (w : World) (b n c i : Nat) (cells : Array Value) (cty : TypeId) (xs : List Value) (hg : w.heap[b]? = some (.cells cells cty (0, 0))) (hcs : cells.size = c * 2) (hxs : cells.toList.take (n * 2) = xs) (hi : i < n) (hnc : n <= c) (hc : c <= zds) (hn : n <= 1048576) (h1 : ∀ v ∈ xs, v.oneCell' = true) :
  Calls Tryz.prog 41 #[.slice (some ⟨b, 0, none⟩) n c, .int .i64 i, .int .i64 ((i : Int) + 1)] w fun e w' =>
   e = .returned (.slice (some ⟨b, 0, none⟩) (n - 1) c) /\ ∃ A : Array Value, w'.heap[b]? = some (.cells A cty (0, 0)) /\ A.size = c * 2 /\ A.toList.take ((n - 1) * 2) = xs.take (i * 2) ++ xs.drop ((i + 1) * 2) /\ Bk (fun k => k < w.heap.size /\ k ≠ b) w w' := by
 have hxl : xs.length = n * 2 := by rw [<- hxs, List.length_take, Array.length_toList, hcs]; omega
 obtain ⟨news, hnews⟩ : ∃ news, xs.drop ((i + 1) * 2) = news := ⟨_, rfl⟩
 have hnl : news.length = (n - (i + 1)) * 2 := by rw [<- hnews, List.length_drop, hxl]; omega
 have hgd : w.drew.heap[b]? = some (.cells cells cty (0, 0)) := hg
 obtain ⟨i0, hi0⟩ : ∃ i0, Tryz.prog.info? qed = some i0 := ⟨_, rfl⟩
 have hi02 : i0.size = 2 := by
  have : Tryz.prog.info? qed = some i0 := hi0
  have h2 : zbc Tryz.prog qed = some 2 := by kernel_rfl
  unfold zbc at h2
  rw [hi0] at h2
  simpa using h2
 have hcell : ∀ j v, news[j]? = some v -> w.drew.cell? ((⟨b, (i + 1) * 2, none⟩ : Addr).add j) = some v := fun j v hj => by
  rw [Addr.add_lit]
  rw [<- hnews, List.getElem?_drop, <- hxs, List.getElem?_take] at hj
  split at hj
  ·simp only [World.cell?, hgd]
   simpa using hj
  ·cases hj
 obtain ⟨A, hA, hsrc⟩ : ∃ A : Addr, (if c = i + 1 then some (⟨b, 0, none⟩ : Addr) else some ⟨b, (i + 1) * 2, none⟩) = some A /\ ∀ j v, news[j]? = some v -> w.drew.cell? (A.add j) = some v := by
  by_cases h : c = i + 1
  ·refine ⟨⟨b, 0, none⟩, by simp [h], fun j v hj => ?_⟩
   have : news = [] := List.length_eq_zero_iff.1 (by omega)
   rw [this] at hj; simp at hj
  ·exact ⟨_, by simp [h], hcell⟩
 obtain ⟨R1, hR1⟩ : ∃ R1 : Array Value, (cells.toList.take (i * 2) ++ news ++ cells.toList.drop (i * 2 + news.length)).toArray = R1 := ⟨_, rfl⟩
 have hR1s : R1.size = c * 2 := by
  rw [<- hR1]
  simp only [List.size_toArray, List.length_append, List.length_take, Array.length_toList, List.length_drop, hcs, hnl]
  omega
 have hR1t : R1.toList.take ((n - 1) * 2) = xs.take (i * 2) ++ news := by
  rw [<- hR1]
  simp only
  rw [List.take_left' (by simp only [List.length_append, List.length_take, Array.length_toList, hcs, hnl]; omega), <- hxs, List.take_take, Nat.min_eq_left (by omega)]
 have hap : ∀ ty sc, (Builtin.append_ #[zk5, zk5] ty #[.slice (some ⟨b, 0, none⟩) i c, .slice (some A) (n - (i + 1)) sc]).run Tryz.prog w.drew = .ok (.slice (some ⟨b, 0, none⟩) (n - 1) c) (w.drew.setRow b R1) := fun ty sc => by
  have := zqb (P := Tryz.prog) w.drew zk5 ty qed i0 Tryz.underlying28 hi0 cty b i c cells hgd A (n - (i + 1)) sc news (by rw [hi02]; exact hnl) hsrc (fun v hv => h1 v (by rw [<- hnews] at hv; exact List.mem_of_mem_drop hv)) (by omega) (by rw [hi02, hnl, hcs]; omega)
  rw [hi02, hR1, show i + (n - (i + 1)) = n - 1 by omega] at this
  exact this
 obtain ⟨W1, hW1⟩ : ∃ W1, w.drew.setRow b R1 = W1 := ⟨_, rfl⟩
 rw [hW1] at hap
 have hg1 : W1.heap[b]? = some (.cells R1 cty (0, 0)) := by rw [<- hW1]; exact setRow_heap w.drew b cells R1 cty (0, 0) hgd
 have hB1 : Bk (fun k => k < w.heap.size /\ k ≠ b) w W1 := by
  rw [<- hW1]
  exact ⟨rfl, rfl, rfl, by rw [size_setRow]; exact Nat.le_refl _, fun k hk => setRow_other w.drew b k R1 hk.2⟩
 obtain ⟨z, hz, hzv⟩ : ∃ z : Value, z.cells.toList = [.string ⟨#[]⟩, .slice none 0 0] /\ ∀ w, (zeroValue qed).run Tryz.prog w = .ok z w := ⟨_, rfl, Tryz.zeroValue35⟩
 obtain ⟨R2, hR2⟩ : ∃ R2 : Array Value, (R1.toList.take ((n - 1) * 2) ++ (List.replicate 1 z.cells.toList).flatten ++ R1.toList.drop ((n - 1) * 2 + 1 * z.cells.toList.length)).toArray = R2 := ⟨_, rfl⟩
 have hcl : ∀ ty sc, (Builtin.clear_ #[zk5] ty #[.slice (some ⟨b, (n - 1) * 2, none⟩) 1 sc]).run Tryz.prog W1 = .ok (.tuple #[]) (W1.setRow b R2) := fun ty sc => by
  have := zx6 (P := Tryz.prog) W1 zk5 qed ty b ((n - 1) * 2) 0 sc R1 cty z Tryz.underlying28 hzv hg1 (by rw [hz, hR1s]; simp only [List.length_cons, List.length_nil]; omega) (fun v hv => by
   rw [hz] at hv
   simp only [List.mem_cons, List.not_mem_nil, or_false] at hv
   rcases hv with rfl | rfl <;> rfl)
  rw [Nat.zero_add, hR2] at this
  exact this
 have hR2s : R2.size = c * 2 := by
  rw [<- hR2, hz]
  simp only [List.size_toArray, List.length_append, List.length_take, Array.length_toList, List.length_drop, hR1s, List.replicate_one, List.flatten_singleton, List.length_cons, List.length_nil]
  omega
 have hR2t : R2.toList.take ((n - 1) * 2) = xs.take (i * 2) ++ news := by
  rw [<- hR1t, <- hR2]
  simp only
  rw [List.append_assoc, List.take_left' (by simp only [List.length_take, Array.length_toList, hR1s]; omega)]
 obtain ⟨W2, hW2⟩ : ∃ W2, W1.setRow b R2 = W2 := ⟨_, rfl⟩
 rw [hW2] at hcl
 have hg2 : W2.heap[b]? = some (.cells R2 cty (0, 0)) := by rw [<- hW2]; exact setRow_heap W1 b R1 R2 cty (0, 0) hg1
 have hB2 : Bk (fun k => k < w.heap.size /\ k ≠ b) w W2 := by
  rw [<- hW2]
  exact ⟨hB1.os, hB1.tape, hB1.output, by rw [size_setRow]; exact hB1.size, fun k hk => by rw [setRow_other W1 b k R2 hk.2]; exact hB1.block k hk⟩
 have hne : ¬ ((i : Int) = (i : Int) + 1) := by omega
 have hb1 : (i : Int) <= (i : Int) + 1 := by omega
 have hb2 : (i : Int) + 1 <= (n : Int) := by omega
 have hin : i <= n := by omega
 have hic : i <= c := by omega
 have htn : ((i : Int) + 1).toNat = i + 1 := by omega
 have hb3 : (0 : Int) <= (i : Int) + 1 := by omega
 have hn1 : ((n : Int) - 1) = ((n - 1 : Nat) : Int) := by omega
 have hcn : ¬ (c = n - 1) := by omega
 have hnn : n - (n - 1) = 1 := by omega
 have hle1 : n - 1 <= n := by omega
 have hb4 : (i : Int) + 1 <= (c : Int) := by omega
 have hic1 : i + 1 <= c := by omega
 have hic2 : i + 1 <= n := by omega
 clear hR1 hR2 hW1 hW2 hR1t
 go_enter Tryz.func41, Tryz.ntmps41
 go_wp2_with fail
 go_region_law (refine zg5 rfl (.tmp 22) (.tmp 25) zk5 rfl (.slice (some ⟨b, 0, none⟩) i c) (.slice (some A) (n - (i + 1)) (c - (i + 1))) (by simp [Act.eval, Act.put]) (by simp [Act.eval, Act.put, hA]) (hap _ _) ?_)
 go_wp2_with (at_builtin; refine zge _ rfl _ zk5 rfl _ rfl (hcl _ _) ?_)
 go_ret
 exact ⟨rfl, R2, hg2, hR2s, by rw [hR2t, hnews], hB2⟩
end
end Go.Proofs.YtaaniggpnljckaaGreat
namespace Go.Proofs.YtaaniggpnljckaaGreat
set_option linter.unusedSimpArgs false
set_option linter.unusedVariables false
set_option linter.unusedSectionVars false
set_option maxRecDepth 4000
open Go.RowKit
abbrev Frw := Str × (Option Addr × Nat × Nat)
def frT (r : Frw) : List T := [.str r.1, .vs r.2.1 r.2.2.1 r.2.2.2]
theorem znt (r : Frw) : frT r = [.str r.1, .vs r.2.1 r.2.2.1 r.2.2.2] := rfl
def tvR (t : Frw) : List Value := [.string ⟨t.1.toArray⟩, .slice t.2.1 t.2.2.1 t.2.2.2]
def tvr (ts : List Frw) : List Value := (ts.map tvR).flatten
theorem zim (ts : List Frw) : (tvr ts).length = ts.length * 2 := by
 unfold tvr
 induction ts with
 | nil => rfl
 | cons t ts ih => rw [List.map_cons, List.flatten_cons, List.length_append, ih, List.length_cons, Nat.add_mul]; simp [tvR]; omega
theorem zkl (t : Frw) (ts : List Frw) : tvr (t :: ts) = tvR t ++ tvr ts := rfl
theorem zgf (a b : List Frw) : tvr (a ++ b) = tvr a ++ tvr b := by unfold tvr; rw [List.map_append, List.flatten_append]
theorem qdh (ts : List Frw) (i : Nat) : (tvr ts).take (i * 2) = tvr (ts.take i) := by
 by_cases h : i <= ts.length
 ·conv => lhs; rw [<- List.take_append_drop i ts, zgf]
  rw [List.take_left' (by rw [zim, List.length_take, Nat.min_eq_left h])]
 ·rw [List.take_of_length_le (by rw [zim]; omega), List.take_of_length_le (by omega)]
theorem qdm (ts : List Frw) (i : Nat) : (tvr ts).drop (i * 2) = tvr (ts.drop i) := by
 by_cases h : i <= ts.length
 ·conv => lhs; rw [<- List.take_append_drop i ts, zgf]
  rw [List.drop_left' (by rw [zim, List.length_take, Nat.min_eq_left h])]
 ·rw [List.drop_of_length_le (by rw [zim]; omega), List.drop_of_length_le (by omega)]; rfl
theorem qfj (ts : List Frw) : ∀ v ∈ tvr ts, v.oneCell' = true := fun v hv => by
 unfold tvr at hv
 obtain ⟨r, hr, hv⟩ := List.mem_flatten.1 hv
 obtain ⟨t, _, rfl⟩ := List.mem_map.1 hr
 simp only [tvR, List.mem_cons, List.not_mem_nil, or_false] at hv
 rcases hv with rfl | rfl | rfl | rfl <;> rfl
def wfR (t : Frw) : Prop := t.1.length <= zds
theorem zp5 {w : World} {cells : Array Value} {o : Nat} {t : Frw} {f : List Nat} : za4 w cells o (frT t) f ↔ f = [] /\ wfR t /\ ∀ j v, (tvR t)[j]? = some v -> cells[o + j]? = some v := by
 constructor
 ·intro h
  rw [znt] at h
  simp only [za4] at h
  obtain ⟨v1, f1, _, c1, rfl, h1, v2, f2, _, c2, rfl, h2, rfl⟩ := h
  unfold zao at h1 h2
  obtain ⟨rfl, l1, rfl⟩ := h1
  obtain ⟨rfl, rfl⟩ := h2
  refine ⟨rfl, l1, fun j v hj => ?_⟩
  match j, hj with
  | 0, hj => rw [<- Option.some.inj hj]; exact c1
  | 1, hj => rw [<- Option.some.inj hj]; exact c2
  | j + 2, hj => simp [tvR] at hj
 ·rintro ⟨rfl, l1, h⟩
  rw [znt]
  simp only [za4]
  refine ⟨_, [], [], h 0 _ rfl, rfl, ?_, _, [], [], h 1 _ rfl, rfl, ?_, rfl⟩ <;> unfold zao
  ·exact ⟨rfl, l1, rfl⟩
  ·exact ⟨rfl, rfl⟩
theorem zex {w : World} {cells : Array Value} : ∀ {ts : List Frw} {o : Nat} {f : List Nat}, zag w cells o 2 (ts.map frT) f ↔ f = [] /\ (∀ t ∈ ts, wfR t) /\ ∀ j v, (tvr ts)[j]? = some v -> cells[o + j]? = some v
 | [], o, f => by
  rw [List.map_nil, zag]
  exact ⟨fun h => ⟨h, by simp, fun j v hj => by simp [tvr] at hj⟩, fun h => h.1⟩
 | t :: ts, o, f => by
  rw [List.map_cons, zag]
  constructor
  ·rintro ⟨_, f1, f2, rfl, h1, h2⟩
   obtain ⟨rfl, w1, c1⟩ := zp5.1 h1
   obtain ⟨rfl, w2, c2⟩ := zex.1 h2
   refine ⟨rfl, fun x hx => ?_, fun j v hj => ?_⟩
   ·rcases List.mem_cons.1 hx with rfl | hx
    ·exact w1
    ·exact w2 x hx
   ·rw [zkl] at hj
    by_cases h4 : j < 2
    ·rw [List.getElem?_append_left (by simpa [tvR] using h4)] at hj
     exact c1 j v hj
    ·rw [List.getElem?_append_right (by simpa [tvR] using Nat.le_of_not_lt h4)] at hj
     have := c2 (j - 2) v (by simpa [tvR] using hj)
     rwa [show o + 2 + (j - 2) = o + j by omega] at this
  ·rintro ⟨rfl, h1, h2⟩
   refine ⟨rfl, [], [], rfl, zp5.2 ⟨rfl, h1 t (by simp), fun j v hj => h2 j v ?_⟩, zex.2 ⟨rfl, fun x hx => h1 x (by simp [hx]), fun j v hj => ?_⟩⟩
   ·rw [zkl, List.getElem?_append_left (by
     have := (List.getElem?_eq_some_iff.1 hj).1
     exact this)]
    exact hj
   ·have := h2 (2 + j) v (by
     rw [zkl, List.getElem?_append_right (by simp [tvR])]
     simpa [tvR] using hj)
    rwa [show o + 2 + j = o + (2 + j) by omega]
theorem zoc {cells : Array Value} {xs : List Value} (h : ∀ j v, xs[j]? = some v -> cells[0 + j]? = some v) : cells.toList.take xs.length = xs := by
 apply List.ext_getElem?
 intro j
 by_cases hj : j < xs.length
 ·rw [List.getElem?_take, if_pos hj, List.getElem?_eq_getElem hj]
  have := h j _ (List.getElem?_eq_getElem hj)
  simpa using this
 ·rw [List.getElem?_take, if_neg hj, List.getElem?_eq_none (by omega)]
theorem zpn {cells : Array Value} {xs : List Value} {n : Nat} (h : cells.toList.take n = xs) : ∀ j v, xs[j]? = some v -> cells[0 + j]? = some v := fun j v hj => by
 rw [<- h, List.getElem?_take] at hj
 split at hj
 ·simpa using hj
 ·cases hj
theorem qfw {w : World} {ts : List Frw} {v : Value} {fp : List Nat} : zao w (.sl 2 (ts.map frT)) v fp ↔ ∃ ao cap, v = .slice ao ts.length cap /\ ts.length <= cap /\ cap <= zds /\ ((ao = none /\ cap = 0 /\ ts = [] /\ fp = []) ∨
  ∃ b cells ty, ao = some ⟨b, 0, none⟩ /\ fp = [b] /\ w.heap[b]? = some (.cells cells ty (0, 0)) /\ cells.size = cap * 2 /\ (∀ t ∈ ts, wfR t) /\ cells.toList.take (ts.length * 2) = tvr ts) := by
 constructor
 ·intro h
  unfold zao at h
  obtain ⟨ao, cap, rfl, h1, h2, h3⟩ := h
  rw [List.length_map] at h1 ⊢
  refine ⟨ao, cap, rfl, h1, h2, ?_⟩
  rcases h3 with ⟨rfl, rfl, h3, rfl⟩ | ⟨b, cells, ty, fps, rfl, rfl, h3, h4, h5⟩
  ·exact Or.inl ⟨rfl, rfl, List.map_eq_nil_iff.1 h3, rfl⟩
  ·obtain ⟨rfl, k1, k2⟩ := zex.1 h5
   refine Or.inr ⟨b, cells, ty, rfl, rfl, h3, h4, k1, ?_⟩
   have := zoc k2
   rwa [zim] at this
 ·rintro ⟨ao, cap, rfl, h1, h2, h3⟩
  unfold zao
  refine ⟨ao, cap, by rw [List.length_map], by rw [List.length_map]; exact h1, h2, ?_⟩
  rcases h3 with ⟨rfl, rfl, rfl, rfl⟩ | ⟨b, cells, ty, rfl, rfl, h3, h4, k1, k2⟩
  ·exact Or.inl ⟨rfl, rfl, rfl, rfl⟩
  ·exact Or.inr ⟨b, cells, ty, [], rfl, rfl, h3, h4, zex.2 ⟨rfl, k1, zpn k2⟩⟩
end Go.Proofs.YtaaniggpnljckaaGreat
namespace Go.Proofs.YtaaniggpnljckaaGreat
set_option linter.unusedSimpArgs false
set_option linter.unusedVariables false
set_option linter.unusedSectionVars false
set_option maxRecDepth 4000
open Go.RowKit
def voI : Tm -> List Str := Tm.fold fun n xs rs => if (decide (xs.length = 0) && ziz (n.getD 0 0)) = true then [n] else rs.flatten
theorem qdp (a : Tm) : voI a = if (decide (a.args.length = 0) && ziz (a.name.getD 0 0)) = true then [a.name] else (a.args.map voI).flatten := Tm.fold_eq _ a
def voS : Tm -> List Str := Tm.fold fun n _ rs => if za6 n = true then [n] else rs.flatten
theorem zmi (a : Tm) : voS a = if za6 a.name = true then [a.name] else (a.args.map voS).flatten := Tm.fold_eq _ a
def Tm.ne : Tm -> Bool := Tm.fold fun n xs rs => (!decide (xs.length = 0) || decide (0 < n.length)) && rs.all id
theorem Tm.ne_eq' (a : Tm) : a.ne = ((!decide (a.args.length = 0) || decide (0 < a.name.length)) && a.args.all Tm.ne) := by
 unfold Tm.ne
 rw [Tm.fold_eq]
 simp only [List.all_map]
 rfl
def ztk (l : List Str) (s : Str) : List Str := if l.contains s = true then l else l ++ [s]
def zde (l : List Str) (ss : List Str) : List Str := ss.foldl ztk l
theorem qae (l : List Str) (s : Str) : (ztk l s).length <= l.length + 1 := by unfold ztk; split <;> simp
theorem zf2 : ∀ (ss : List Str) (l : List Str), (zde l ss).length <= l.length + ss.length
 | [], l => by simp [zde]
 | s :: ss, l => by have := zf2 ss (ztk l s); have := qae l s; simp only [zde, List.foldl_cons, List.length_cons] at *; omega
theorem zny (l a b : List Str) : zde l (a ++ b) = zde (zde l a) b := List.foldl_append ..
theorem qa5 (l : List Str) (s x : Str) : x ∈ ztk l s ↔ x = s \/ x ∈ l := by
 unfold ztk
 split
 ·rename_i h
  have h : s ∈ l := by simpa using h
  exact ⟨Or.inr, fun k => k.elim (fun e => e ▸ h) id⟩
 ·simp [or_comm]
theorem zmd : ∀ (ss l : List Str) (x : Str), x ∈ zde l ss ↔ x ∈ ss \/ x ∈ l
 | [], l, x => by simp [zde]
 | s :: ss, l, x => by
  show x ∈ zde (ztk l s) ss ↔ _
  rw [zmd ss, qa5]; simp [or_assoc, or_left_comm, or_comm]
theorem qf6 {l : List Str} (h : l.Nodup) (s : Str) : (ztk l s).Nodup := by
 unfold ztk
 split
 ·exact h
 ·rename_i hn
  have hn : s ∉ l := by simpa using hn
  exact List.nodup_append.2 ⟨h, by simp, fun a ha b hb e => hn (by rw [List.mem_singleton.1 hb] at e; exact e ▸ ha)⟩
theorem zqf : ∀ (ss : List Str) {l : List Str}, l.Nodup -> (zde l ss).Nodup
 | [], _, h => h
 | s :: ss, _, h => zqf ss (qf6 h s)
def zcq (l : List Str) (ss : List Str) : List Str := ss.foldl ztw l
theorem qcr (l : List Str) (s : Str) : (ztw l s).length <= l.length + 1 := by
 unfold ztw
 split
 ·omega
 ·have : l.length = ((l.takeWhile fun x => Op.bytesLess x s) ++ l.dropWhile fun x => Op.bytesLess x s).length := by rw [List.takeWhile_append_dropWhile]
  simp only [List.length_append, List.length_cons, List.length_nil] at *; omega
theorem zhn : ∀ (ss : List Str) (l : List Str), (zcq l ss).length <= l.length + ss.length
 | [], l => by simp [zcq]
 | s :: ss, l => by have := zhn ss (ztw l s); have := qcr l s; simp only [zcq, List.foldl_cons, List.length_cons] at *; omega
theorem zw7 (l a b : List Str) : zcq l (a ++ b) = zcq (zcq l a) b := List.foldl_append ..
theorem zhq : ∀ (ss l : List Str) (x : Str), x ∈ zcq l ss ↔ x ∈ ss \/ x ∈ l
 | [], l, x => by simp [zcq]
 | s :: ss, l, x => by
  show x ∈ zcq (ztw l s) ss ↔ _
  rw [zhq ss, qb7]; simp [or_assoc, or_left_comm, or_comm]
theorem zmf : ∀ (ss : List Str) {l : List Str}, Srt l -> Srt (zcq l ss)
 | [], _, h => h
 | s :: ss, _, h => zmf ss (qco h s)
theorem qam (ss : List Str) : zg4 (zde [] ss) = zcq [] ss :=
 qgt (zzd (zqf ss List.nodup_nil)) (zmf ss List.Pairwise.nil) fun s => by rw [zw6, zmd, zhq]
theorem zwl (a : Tm) (h : 0 < a.name.length) : FC Tryz.prog 68 [tmD a] [bD (ziz (a.name.getD 0 0))] := by
 simp only [tmD, zaa]
 refine zan Tryz.call68 Tryz.func68 rfl (by kernel_rfl) (za2 (by kernel_rfl)) ?_
 simp -implicitDefEqProofs only [go_sem, Tryz.results68]
 have h0 : (0 : Int) < a.name.length := by omega
 simp -implicitDefEqProofs only [go_sem, h0, h]
 refine callF (zl0 (a.name.getD 0 0)) (by simp -implicitDefEqProofs only [go_sem]) ?_
 simp -implicitDefEqProofs only [go_sem]
theorem zgl {α : Type} (f : α -> List Str) (xs : List α) (k : Nat) (h : k < xs.length) : ((xs.take (k + 1)).map f).flatten = ((xs.take k).map f).flatten ++ f xs[k] := by
 rw [List.take_succ_eq_append_getElem h, List.map_append, List.flatten_append]; simp
theorem zon {α : Type} (f : α -> List Str) : ∀ (xs : List α), ∀ x ∈ xs, (f x).length <= ((xs.map f).flatten).length
 | [], x, h => by simp at h
 | a :: xs, x, h => by
  rcases List.mem_cons.1 h with rfl | h
  ·simp
  ·have := zon f xs x h; simp at *; omega
theorem zel {α : Type} (f : α -> List Str) (xs : List α) (k : Nat) (h : k < xs.length) : (((xs.take k).map f).flatten).length + (f xs[k]).length <= ((xs.map f).flatten).length := by
 have e : xs = xs.take k ++ xs[k] :: xs.drop (k + 1) := by rw [<- List.drop_eq_getElem_cons h, List.take_append_drop]
 conv => rhs; rw [e]
 simp only [List.map_append, List.map_cons, List.flatten_append, List.flatten_cons, List.length_append]; omega
set_option maxHeartbeats 1000000 in
theorem zso (a : Tm) (ha : a.ne = true) (H : ∀ x ∈ a.args, ∀ ys : List Str, ys.length + (voI x).length <= 1073741824 -> GC Tryz.prog 116 [(true, .one (zb6 ys)), (false, tmD x)] [.one (zb6 (zde ys (voI x)))])
  (ys : List Str) (hs : ys.length + (voI a).length <= 1073741824) (hl : a.args.length <= 1099511627776) : GC Tryz.prog 116 [(true, .one (zb6 ys)), (false, tmD a)] [.one (zb6 (zde ys (voI a)))] := by
 have hv := qdp a
 rw [Tm.ne_eq'] at ha
 simp only [tmD, zaa]
 refine qdr Tryz.call116 Tryz.func116 rfl (by kernel_rfl) (by simp only [List.length_cons, List.length_nil, Tryz.ntmps116]; omega) (by simp [zar, T.isPin]) ?_
 simp -implicitDefEqProofs only [go_sem, Tryz.results116]
 by_cases h0 : a.args.length = 0
 ·have hn : 0 < a.name.length := by simp [h0] at ha; omega
  have e0 : ((a.args.length : Int) == 0) = true := by simp [h0]
  have hV := zwl a hn
  simp only [tmD, zaa] at hV
  simp -implicitDefEqProofs only [go_sem, e0]
  refine callF (hV) (by simp -implicitDefEqProofs only [go_sem]) ?_
  simp -implicitDefEqProofs only [go_sem]
  refine ⟨fun h1 => ?_, fun h1 => ?_⟩
  ·rw [h1, show decide (a.args.length = 0) = true by simpa using h0, Bool.true_and, if_pos rfl] at hv
   rw [hv] at hs ⊢
   refine callF (zcz ys a.name) (by simp -implicitDefEqProofs only [go_sem]) ?_
   simp -implicitDefEqProofs only [go_sem]
   have hy : ys.length + 1 <= 4294967296 := by simp at hs; omega
   have hy2 : ys.length <= 4294967295 := by simp at hs; omega
   refine ⟨fun h2 => ?_, fun h2 => ?_⟩
   ·have h2 : ys.contains a.name = false := by simpa using h2
    refine zay (by simp -implicitDefEqProofs only [go_sem]) ?_
    simp -implicitDefEqProofs only [go_sem]
    refine apD true (by simp -implicitDefEqProofs only [go_sem, hy, hy2, ne_eq, List.length_map]) ?_
    simp -implicitDefEqProofs only [go_sem, hy, hy2, ne_eq, List.length_map]
    have e : zde ys [a.name] = ys ++ [a.name] := by show ztk ys a.name = _; unfold ztk; rw [h2]; simp
    exact Or.inl (by rw [e]; simp)
   ·have h2 : ys.contains a.name = true := by simpa using h2
    have e : zde ys [a.name] = ys := by show ztk ys a.name = _; unfold ztk; rw [h2]; simp
    exact Or.inl (by rw [e])
  ·rw [h1, Bool.and_false, if_neg (by simp), List.length_eq_zero_iff.1 h0, List.map_nil, List.flatten_nil] at hv
   have hv : voI a = (a.args.map voI).flatten := by rw [hv, List.length_eq_zero_iff.1 h0]; rfl
   rw [hv] at hs ⊢
   refine zaj (fun k : Nat => hd [(0, .one (.ow 0 0)), (27, .one (.rn (tmS a.args))), (28, vI a.args.length), (29, vI k)] [] [(0, ⟨true, 1, (zde ys ((a.args.take k).map voI).flatten).map fun s => [.str s], 0, true⟩)]) (fun k => k <= a.args.length) (fun k => a.args.length - k) 0 (zab ?_) (Nat.zero_le _) ?_
   ·simp -implicitDefEqProofs only [go_sem]
    rfl
   ·intro k hk
    by_cases hlt : k < a.args.length
    ·have hf := zel voI a.args k hlt
     have hL := zf2 ((a.args.take k).map voI).flatten ys
     have hx := zon voI a.args _ (List.getElem_mem hlt)
     have HC := H a.args[k] (List.getElem_mem hlt) (zde ys ((a.args.take k).map voI).flatten) (by omega)
     rw [<- zny, <- zgl voI a.args k hlt] at HC
     simp only [tmD, zaa a.args[k]] at HC
     simp -implicitDefEqProofs only [go_sem, zaf, hlt, zaa a.args[k]]
     refine zjx [27, 28, 29] [33, 34] [] (HC) (by simp -implicitDefEqProofs only [go_sem]) (by simp -implicitDefEqProofs only [go_sem]) (by simp -implicitDefEqProofs only [go_sem]) (by simp -implicitDefEqProofs only [go_sem]) ?_
     simp -implicitDefEqProofs only [go_sem]
     refine ⟨k + 1, hlt, by omega, zc7 0 1120 ?_⟩
     simp -implicitDefEqProofs only [go_sem]
     rw [zaq (by omega)]
    ·simp -implicitDefEqProofs only [go_sem, hlt]
     exact Or.inl (by rw [List.take_of_length_le (by omega)])
 ·have e0 : ((a.args.length : Int) == 0) = false := by simp [h0]
  rw [show decide (a.args.length = 0) = false by simpa using h0, Bool.false_and, if_neg (by simp)] at hv
  rw [hv] at hs ⊢
  simp -implicitDefEqProofs only [go_sem, e0]
  refine zaj (fun k : Nat => hd [(0, .one (.ow 0 0)), (27, .one (.rn (tmS a.args))), (28, vI a.args.length), (29, vI k)] [] [(0, ⟨true, 1, (zde ys ((a.args.take k).map voI).flatten).map fun s => [.str s], 0, true⟩)]) (fun k => k <= a.args.length) (fun k => a.args.length - k) 0 (zab ?_) (Nat.zero_le _) ?_
  ·simp -implicitDefEqProofs only [go_sem]
   rfl
  ·intro k hk
   by_cases hlt : k < a.args.length
   ·have hf := zel voI a.args k hlt
    have hL := zf2 ((a.args.take k).map voI).flatten ys
    have hx := zon voI a.args _ (List.getElem_mem hlt)
    have HC := H a.args[k] (List.getElem_mem hlt) (zde ys ((a.args.take k).map voI).flatten) (by omega)
    rw [<- zny, <- zgl voI a.args k hlt] at HC
    simp only [tmD, zaa a.args[k]] at HC
    simp -implicitDefEqProofs only [go_sem, zaf, hlt, zaa a.args[k]]
    refine zjx [27, 28, 29] [33, 34] [] (HC) (by simp -implicitDefEqProofs only [go_sem]) (by simp -implicitDefEqProofs only [go_sem]) (by simp -implicitDefEqProofs only [go_sem]) (by simp -implicitDefEqProofs only [go_sem]) ?_
    simp -implicitDefEqProofs only [go_sem]
    refine ⟨k + 1, hlt, by omega, zc7 0 1120 ?_⟩
    simp -implicitDefEqProofs only [go_sem]
    rw [zaq (by omega)]
   ·simp -implicitDefEqProofs only [go_sem, hlt]
    exact Or.inl (by rw [List.take_of_length_le (by omega)])
theorem zw8 : ∀ a : Tm, a.ne = true -> a.wt <= 1099511627776 -> ∀ ys : List Str, ys.length + (voI a).length <= 1073741824 -> GC Tryz.prog 116 [(true, .one (zb6 ys)), (false, tmD a)] [.one (zb6 (zde ys (voI a)))] :=
 zbm fun n xs ih ha hw ys hs => zso (.mk n xs) ha (fun x hx ys hs => ih x hx (by rw [Tm.ne_eq', Bool.and_eq_true] at ha; exact List.all_eq_true.1 ha.2 x hx) (by
  have := Tm.wt_eq (.mk n xs)
  have := zgq Tm.wt xs x hx
  simp only [Tm.args] at *; omega) ys hs) ys hs (by have := Tm.wt_eq (.mk n xs); omega)
theorem zo2 (a : Tm) (ha : a.ne = true) (hw : a.wt <= 1099511627776) (hs : (voI a).length <= 1073741824) : FC Tryz.prog 107 [tmD a] [.one (zb6 (zcq [] (voI a)))] := by
 have HC := zw8 a ha hw [] (by simpa using hs)
 have HS := zzg (zde [] (voI a)) (by have := zf2 (voI a) []; simp at this; omega)
 rw [qam] at HS
 simp only [tmD, zaa] at HC ⊢
 refine zfn Tryz.call107 Tryz.func107 rfl (by kernel_rfl) (za2 (by kernel_rfl)) ?_
 simp -implicitDefEqProofs only [go_sem, Tryz.results107]
 refine zay (by simp -implicitDefEqProofs only [go_sem]) ?_
 simp -implicitDefEqProofs only [go_sem]
 refine zjx [] [4, 5] [] (HC) (by simp -implicitDefEqProofs only [go_sem]) (by simp -implicitDefEqProofs only [go_sem]) (by simp -implicitDefEqProofs only [go_sem]) (by simp -implicitDefEqProofs only [go_sem]) ?_
 simp -implicitDefEqProofs only [go_sem]
 refine callIs (HS) (by simp -implicitDefEqProofs only [go_sem, zfw]) (by simp -implicitDefEqProofs only [go_sem, zfw]) rfl ?_
 simp -implicitDefEqProofs only [go_sem, zfw]
theorem zyx (a : Tm) (H : ∀ x ∈ a.args, ∀ ys : List Str, ys.length + (voS x).length <= 1073741824 -> GC Tryz.prog 118 [(true, .one (zb6 ys)), (false, tmD x)] [.one (zb6 (zcq ys (voS x)))])
  (ys : List Str) (hs : ys.length + (voS a).length <= 1073741824) (hl : a.args.length <= 1099511627776) : GC Tryz.prog 118 [(true, .one (zb6 ys)), (false, tmD a)] [.one (zb6 (zcq ys (voS a)))] := by
 have hv := zmi a
 simp only [tmD, zaa]
 refine qdr Tryz.call118 Tryz.func118 rfl (by kernel_rfl) (by simp only [List.length_cons, List.length_nil, Tryz.ntmps118]; omega) (by simp [zar, T.isPin]) ?_
 simp -implicitDefEqProofs only [go_sem, Tryz.results118]
 refine callF (zgk a.name) (by simp -implicitDefEqProofs only [go_sem]) ?_
 simp -implicitDefEqProofs only [go_sem]
 refine ⟨fun h => ?_, fun h => ?_⟩
 ·rw [if_pos h] at hv
  rw [hv] at hs ⊢
  refine zjx [] [9, 11] [] (qge ys a.name (by simp at hs; omega)) (by simp -implicitDefEqProofs only [go_sem]) (by simp -implicitDefEqProofs only [go_sem]) (by simp -implicitDefEqProofs only [go_sem]) (by simp -implicitDefEqProofs only [go_sem]) ?_
  simp -implicitDefEqProofs only [go_sem]
  exact Or.inl rfl
 ·rw [h, if_neg (by simp)] at hv
  rw [hv] at hs ⊢
  refine zaj (fun k : Nat => hd [(0, .one (.ow 0 0)), (3, .one (.bx 3 0)), (5, vI k)] [(3, [.t (.str a.name), .rn (tmS a.args)])] [(0, ⟨true, 1, (zcq ys ((a.args.take k).map voS).flatten).map fun s => [.str s], 0, true⟩)]) (fun k => k <= a.args.length) (fun k => a.args.length - k) 0 (zab ?_) (Nat.zero_le _) ?_
  ·simp -implicitDefEqProofs only [go_sem]
   rfl
  ·intro k hk
   by_cases hlt : k < a.args.length
   ·have hf := zel voS a.args k hlt
    have hL := zhn ((a.args.take k).map voS).flatten ys
    have HC := H a.args[k] (List.getElem_mem hlt) (zcq ys ((a.args.take k).map voS).flatten) (by omega)
    rw [<- zw7, <- zgl voS a.args k hlt] at HC
    simp only [tmD, zaa a.args[k]] at HC
    simp -implicitDefEqProofs only [go_sem, zaf, hlt, zaa a.args[k]]
    refine zjx [3, 5] [20, 25] [] (HC) (by simp -implicitDefEqProofs only [go_sem]) (by simp -implicitDefEqProofs only [go_sem]) (by simp -implicitDefEqProofs only [go_sem]) (by simp -implicitDefEqProofs only [go_sem]) ?_
    simp -implicitDefEqProofs only [go_sem]
    refine ⟨k + 1, hlt, by omega, zc7 0 832 ?_⟩
    simp -implicitDefEqProofs only [go_sem]
    rw [zaq (by omega)]
   ·simp -implicitDefEqProofs only [go_sem, hlt]
    exact Or.inl (by rw [List.take_of_length_le (by omega)])
end Go.Proofs.YtaaniggpnljckaaGreat
namespace Go.Proofs.YtaaniggpnljckaaGreat
set_option linter.unusedSimpArgs false
set_option linter.unusedVariables false
set_option linter.unusedSectionVars false
set_option maxRecDepth 4000
open Go.RowKit
theorem qc9 : ∀ a : Tm, a.wt <= 1099511627776 -> ∀ ys : List Str, ys.length + (voS a).length <= 1073741824 -> GC Tryz.prog 118 [(true, .one (zb6 ys)), (false, tmD a)] [.one (zb6 (zcq ys (voS a)))] :=
 zbm fun n xs ih hw ys hs => zyx (.mk n xs) (fun x hx ys hs => ih x hx (Nat.le_trans (zc6 (a := .mk n xs) hx) hw) ys hs) ys hs (by have := Tm.wt_eq (.mk n xs); omega)
theorem qaz (a : Tm) (hw : a.wt <= 1099511627776) (hs : (voS a).length <= 1073741824) : FC Tryz.prog 112 [tmD a] [.one (zb6 (zcq [] (voS a)))] := by
 have HC := qc9 a hw [] (by simpa using hs)
 simp only [tmD, zaa] at HC ⊢
 refine zfn Tryz.call112 Tryz.func112 rfl (by kernel_rfl) (za2 (by kernel_rfl)) ?_
 simp -implicitDefEqProofs only [go_sem, Tryz.results112]
 refine zay (by simp -implicitDefEqProofs only [go_sem]) ?_
 simp -implicitDefEqProofs only [go_sem]
 refine zjx [] [3, 4] [] (HC) (by simp -implicitDefEqProofs only [go_sem]) (by simp -implicitDefEqProofs only [go_sem]) (by simp -implicitDefEqProofs only [go_sem]) (by simp -implicitDefEqProofs only [go_sem]) ?_
 simp -implicitDefEqProofs only [go_sem]
theorem zq0 {s : Str} (h : za6 s = true) : ziz (s.getD 0 0) = true /\ 0 < s.length := by
 unfold za6 at h
 rw [Bool.and_eq_true] at h
 cases s with
 | nil => exact absurd h.2 (by decide)
 | cons b s =>
  have := zql (s := b :: s) (by simp)
  rw [h.1] at this
  have := (Bool.and_eq_true _ _).mp this.symm
  exact ⟨this.1, by simp⟩
theorem up_low {b : UInt8} (h : zd7 b = true) : ziz b = false := by
 unfold zd7 ziz at *
 simp only [Bool.and_eq_true, decide_eq_true_eq, Bool.and_eq_false_iff, decide_eq_false_iff_not] at *
 omega
theorem zml {s : Str} (h : zbz s = true) : ziz (s.getD 0 0) = false /\ 0 < s.length := by
 unfold zbz at h
 simp only [Bool.and_eq_true] at h
 cases s with
 | nil => exact absurd h.1.2 (by decide)
 | cons b s =>
  have := znn (s := b :: s) (by simp)
  rw [h.1.1] at this
  have := (Bool.and_eq_true _ _).mp this.symm
  exact ⟨up_low this.1, by simp⟩
theorem zz0 : ∀ a : Tm, a.names = true -> voI a = voS a /\ a.ne = true := zbm fun n xs ih h => by
 rw [Tm.names_eq] at h
 rw [qdp, zmi, Tm.ne_eq']
 change (if za6 n = true then decide (xs.length = 0) else zbz n && decide (xs.length <= 4) && xs.all Tm.names) = true at h
 change (if (decide (xs.length = 0) && ziz (n.getD 0 0)) = true then [n] else (xs.map voI).flatten) = (if za6 n = true then [n] else (xs.map voS).flatten) /\ ((!decide (xs.length = 0) || decide (0 < n.length)) && xs.all Tm.ne) = true
 change ∀ x ∈ xs, _ at ih
 by_cases hv : za6 n = true
 ·rw [if_pos hv] at h ⊢
  obtain ⟨h1, h2⟩ := zq0 hv
  have h : xs.length = 0 := of_decide_eq_true h
  have hx : xs = [] := List.length_eq_zero_iff.1 h
  subst hx
  rw [h1]
  exact ⟨rfl, by simp [h2]⟩
 ·rw [if_neg hv] at h ⊢
  simp only [Bool.and_eq_true] at h
  obtain ⟨h1, h2⟩ := zml h.1.1
  rw [h1, Bool.and_false, if_neg (by simp)]
  have hI := fun x hx => ih x hx (List.all_eq_true.1 h.2 x hx)
  refine ⟨by rw [List.map_congr_left fun x hx => (hI x hx).1], ?_⟩
  rw [Bool.and_eq_true]
  exact ⟨by simp [h2], List.all_eq_true.2 fun x hx => (hI x hx).2⟩
theorem zpl : ∀ a : Tm, (voS a).length <= 1 + a.wt := zbm fun n xs ih => by
 rw [zmi, Tm.wt_eq]
 change (if za6 n = true then [n] else (xs.map voS).flatten).length <= 1 + (n.length + xs.length + (xs.map Tm.wt).sum)
 split
 ·simp
 ·have : ((xs.map voS).flatten).length <= xs.length + (xs.map Tm.wt).sum := by
   revert ih
   induction xs with
   | nil => simp
   | cons x xs ih2 =>
    intro ih
    have h1 := ih x (by simp)
    have h2 := ih2 fun y hy => ih y (by simp [hy])
    simp only [List.map_cons, List.flatten_cons, List.length_append, List.sum_cons, List.length_cons]
    omega
  omega
end Go.Proofs.YtaaniggpnljckaaGreat
namespace Go.Proofs.YtaaniggpnljckaaGreat
set_option linter.unusedSimpArgs false
set_option linter.unusedVariables false
set_option linter.unusedSectionVars false
set_option maxRecDepth 4000
open Go.RowKit
def zcn (n : Str) : Tm -> Nat := Tm.fold fun m _ rs => (if (m == n) = true then 1 else 0) + rs.sum
theorem zh2 (n : Str) (a : Tm) : zcn n a = (if (a.name == n) = true then 1 else 0) + (a.args.map (zcn n)).sum := by unfold zcn; rw [Tm.fold_eq]
theorem zjv (n : Str) : ∀ a : Tm, zcn n a <= a.nodes := zbm fun m xs ih => by
 rw [zh2, Tm.nodes_eq]
 have : (xs.map (zcn n)).sum <= (xs.map Tm.nodes).sum := by
  revert ih
  induction xs with
  | nil => simp
  | cons x xs ih2 =>
   intro ih
   have h1 := ih x (by simp)
   have h2 := ih2 fun y hy => ih y (by simp [hy])
   simp only [List.map_cons, List.sum_cons]
   omega
 show (if (m == n) = true then 1 else 0) + (xs.map (zcn n)).sum <= 1 + (xs.map Tm.nodes).sum
 split <;> omega
theorem zl2 (n : Str) (a : Tm) (ha : a.wt <= 1099511627776) (H : ∀ x ∈ a.args, FC Tryz.prog 108 [tmD x, sD n] [iD (zcn n x)]) : FC Tryz.prog 108 [tmD a, sD n] [iD (zcn n a)] := by
 have hv := zh2 n a
 have hN := zdc a
 have hNe := a.nodes_eq
 have hle := zjv n a
 simp only [tmD, zaa a]
 refine zan Tryz.call108 Tryz.func108 rfl (by kernel_rfl) (za2 (by kernel_rfl)) ?_
 simp -implicitDefEqProofs only [go_sem, Tryz.results108]
 obtain ⟨z, hz⟩ : ∃ z : Nat, (if (a.name == n) = true then 1 else 0) = z := ⟨_, rfl⟩
 rw [hz] at hv
 cases hn : a.name == n
 all_goals
  rw [hn] at hz
  simp only [Bool.false_eq_true, if_true, if_false] at hz
  simp -implicitDefEqProofs only [go_sem, hn]
  refine zaj (fun k : Nat => hd [(1, vT (.str n)), (5, vI (z + ((a.args.take k).map (zcn n)).sum : Nat)), (13, vT (tmS a.args)), (14, vI a.args.length), (15, vI k)] [] []) (fun k => k <= a.args.length) (fun k => a.args.length - k) 0 (zab ?_) (Nat.zero_le _) ?_
  ·simp -implicitDefEqProofs only [go_sem]
   subst hz
   rfl
  ·intro k hk
   by_cases hlt : k < a.args.length
   ·have HC := H a.args[k] (List.getElem_mem hlt)
    simp only [tmD, zaa a.args[k]] at HC
    have hsm : ((a.args.take (k + 1)).map (zcn n)).sum = ((a.args.take k).map (zcn n)).sum + zcn n a.args[k] := by rw [List.take_succ_eq_append_getElem hlt, List.map_append, List.sum_append, List.map_singleton, List.sum_singleton]
    have hle2 : ((a.args.take (k + 1)).map (zcn n)).sum <= (a.args.map (zcn n)).sum := by
     have := congrArg (fun l => (l.map (zcn n)).sum) (List.take_append_drop (k + 1) a.args)
     simp only [List.map_append, List.sum_append] at this
     omega
    have hlen : a.args.length <= a.wt := by have := a.wt_eq; omega
    simp -implicitDefEqProofs only [go_sem, zaf, hlt, zaa a.args[k]]
    refine callF (HC) (by simp -implicitDefEqProofs only [go_sem]) ?_
    simp -implicitDefEqProofs only [go_sem]
    refine ⟨k + 1, hlt, by omega, zab ?_⟩
    simp -implicitDefEqProofs only [go_sem]
    rw [zaq (by omega), zbd (by omega) (by omega), hsm]
    exact ⟨by congr 1; omega, rfl⟩
   ·simp -implicitDefEqProofs only [go_sem, hlt]
    rw [hv, List.take_of_length_le (by omega)]
theorem zh9 (n : Str) : ∀ a : Tm, a.wt <= 1099511627776 -> FC Tryz.prog 108 [tmD a, sD n] [iD (zcn n a)] :=
 zbm fun m xs ih hs => zl2 n (.mk m xs) hs fun x hx => ih x hx (Nat.le_trans (zc6 (a := .mk m xs) hx) hs)
end Go.Proofs.YtaaniggpnljckaaGreat
namespace Go.Proofs.YtaaniggpnljckaaGreat
set_option linter.unusedSimpArgs false
set_option linter.unusedVariables false
set_option linter.unusedSectionVars false
set_option maxRecDepth 4000
open Go.RowKit
def bal (s t : Tm) : Bool := (zcq [] (voS t)).all fun n => decide (zcn n t <= zcn n s)
mutual
noncomputable def Og.kbo (o : Og) : Tm -> Tm -> Bool
 | .mk n xs, t => bal (.mk n xs) t && (if o.wgt (.mk n xs) = o.wgt t then !za6 n && !za6 t.name && (o.rgt (.mk n xs) t || (o.req (.mk n xs) t && Og.kboS o xs t.args)) else decide (o.wgt t < o.wgt (.mk n xs)))
noncomputable def Og.kboS (o : Og) : List Tm -> List Tm -> Bool
 | [], _ => false
 | _ :: _, [] => false
 | x :: xs, y :: ys => if same x y = true then Og.kboS o xs ys else Og.kbo o x y
end
theorem Og.kbo_eq (o : Og) (s t : Tm) : o.kbo s t = (bal s t && (if o.wgt s = o.wgt t then !za6 s.name && !za6 t.name && (o.rgt s t || (o.req s t && o.kboS s.args t.args)) else decide (o.wgt t < o.wgt s))) := by
 cases s; rw [Og.kbo]; rfl
theorem qft : ∀ (a : Tm) (n : Str), n ∈ voS a -> za6 n = true := zbm fun m xs ih n h => by
 rw [zmi] at h
 split at h
 ·next h1 => rw [List.mem_singleton.1 h]; exact h1
 ·obtain ⟨l, hl, hn⟩ := List.mem_flatten.1 h
  obtain ⟨x, hx, rfl⟩ := List.mem_map.1 hl
  exact ih x hx n hn
theorem zpq {α : Type} {f : α -> Nat} : ∀ {xs : List α}, 0 < (xs.map f).sum -> ∃ x ∈ xs, 0 < f x
 | [], h => by simp at h
 | x :: xs, h => by
  simp only [List.map_cons, List.sum_cons] at h
  by_cases hx : 0 < f x
  ·exact ⟨x, by simp, hx⟩
  ·obtain ⟨y, hy, h⟩ := zpq (f := f) (xs := xs) (by omega)
   exact ⟨y, by simp [hy], h⟩
theorem cnt_vo : ∀ (a : Tm) (n : Str), a.names = true -> za6 n = true -> 0 < zcn n a -> n ∈ voS a := zbm fun m xs ih n hn hv hc => by
 have hv0 : voS (.mk m xs) = if za6 m = true then [m] else (xs.map voS).flatten := zmi _
 have hn : (if za6 m = true then decide (xs.length = 0) else zbz m && decide (xs.length <= 4) && xs.all Tm.names) = true := (Tm.names_eq (.mk m xs)).symm.trans hn
 have hc : 0 < (if (m == n) = true then 1 else 0) + (xs.map (zcn n)).sum := (zh2 n (.mk m xs)) ▸ hc
 rw [hv0]
 by_cases h1 : za6 m = true
 ·rw [if_pos h1]
  rw [if_pos h1] at hn
  have h0 : xs = [] := List.length_eq_zero_iff.1 (by simpa using hn)
  subst h0
  simp only [List.map_nil, List.sum_nil, Nat.add_zero] at hc
  split at hc
  ·next h2 => rw [beq_iff_eq.1 h2]; simp
  ·exact absurd hc (by omega)
 ·rw [if_neg h1]
  rw [if_neg h1] at hn
  simp only [Bool.and_eq_true, List.all_eq_true] at hn
  have h2 : (m == n) = false := by
   cases h : m == n
   ·rfl
   ·rw [beq_iff_eq.1 h] at h1; exact absurd hv h1
  rw [h2] at hc
  simp only [Bool.false_eq_true, if_false, Nat.zero_add] at hc
  have : ∃ x ∈ xs, 0 < zcn n x := zpq hc
  obtain ⟨x, hx, h⟩ := this
  exact List.mem_flatten.2 ⟨voS x, List.mem_map.2 ⟨x, hx, rfl⟩, ih x hx n (hn.2 x hx) hv h⟩
theorem zoj {s t : Tm} (ht : t.names = true) : bal s t = true ↔ ∀ n, za6 n = true -> zcn n t <= zcn n s := by
 unfold bal
 simp only [List.all_eq_true, decide_eq_true_eq, zhq]
 refine ⟨fun h n hn => ?_, fun h n hn => h n (qft t n (by simpa using hn))⟩
 by_cases h0 : 0 < zcn n t
 ·exact h n (Or.inl (cnt_vo t n ht hn h0))
 ·omega
theorem zvy {s t u : Tm} (ht : t.names = true) (hu : u.names = true) (h1 : bal s t = true) (h2 : bal t u = true) : bal s u = true :=
 (zoj hu).2 fun n hn => Nat.le_trans ((zoj hu).1 h2 n hn) ((zoj ht).1 h1 n hn)
theorem zgo {a : Tm} (h : a.names = true) : ∀ x ∈ a.args, x.names = true := by
 rw [Tm.names_eq] at h
 split at h
 ·have h0 : a.args = [] := List.length_eq_zero_iff.1 (by simpa using h)
  rw [h0]; simp
 ·simp only [Bool.and_eq_true, List.all_eq_true] at h
  exact h.2
theorem zmq (o : Og) : ∀ xs : List Tm, o.kboS xs xs = false
 | [] => by rw [Og.kboS]
 | x :: xs => by rw [Og.kboS, if_pos (zbe.2 rfl)]; exact zmq o xs
theorem zur (o : Og) (s : Tm) : o.kbo s s = false := by
 rw [Og.kbo_eq, if_pos rfl, zmq]
 simp [Og.rgt]
theorem zjj (o : Og) : ∀ (xs ys zs : List Tm), xs.length = ys.length -> ys.length = zs.length -> (∀ x ∈ xs, ∀ y ∈ ys, ∀ z ∈ zs, o.kbo x y = true -> o.kbo y z = true -> o.kbo x z = true) -> o.kboS xs ys = true -> o.kboS ys zs = true -> o.kboS xs zs = true
 | [], _, _, _, _, _, h, _ => by rw [Og.kboS] at h; cases h
 | _ :: _, [], _, _, _, _, h, _ => by rw [Og.kboS] at h; cases h
 | _ :: _, _ :: _, [], _, _, _, _, h => by rw [Og.kboS] at h; cases h
 | x :: xs, y :: ys, z :: zs, e1, e2, H, h1, h2 => by
  rw [Og.kboS] at h1 h2 ⊢
  have H0 := H x (by simp) y (by simp) z (by simp)
  by_cases hxy : same x y = true
  ·obtain rfl := zbe.1 hxy
   rw [if_pos (zbe.2 rfl)] at h1
   by_cases hyz : same x z = true
   ·rw [if_pos hyz] at h2 ⊢
    exact zjj o xs ys zs (by simpa using e1) (by simpa using e2) (fun a ha b hb c hc => H a (by simp [ha]) b (by simp [hb]) c (by simp [hc])) h1 h2
   ·rw [if_neg hyz] at h2 ⊢
    exact h2
  ·rw [if_neg hxy] at h1
   by_cases hyz : same y z = true
   ·obtain rfl := zbe.1 hyz
    rw [if_neg hxy]
    exact h1
   ·rw [if_neg hyz] at h2
    have h3 := H0 h1 h2
    by_cases hxz : same x z = true
    ·obtain rfl := zbe.1 hxz
     rw [zur] at h3; cases h3
    ·rw [if_neg hxz]; exact h3
theorem zwo (o : Og) : ∀ s t u : Tm, s.names = true -> t.names = true -> u.names = true -> o.kbo s t = true -> o.kbo t u = true -> o.kbo s u = true := zbm fun n xs ih t u hs ht hu h1 h2 => by
 rw [Og.kbo_eq] at h1 h2 ⊢
 rw [Bool.and_eq_true] at h1 h2 ⊢
 refine ⟨zvy ht hu h1.1 h2.1, ?_⟩
 replace h1 := h1.2
 replace h2 := h2.2
 split at h1
 ·next e1 =>
  split at h2
  ·next e2 =>
   rw [if_pos (e1.trans e2)]
   simp only [Bool.and_eq_true, Bool.or_eq_true, Og.rgt, Og.req, decide_eq_true_eq] at h1 h2 ⊢
   refine ⟨⟨h1.1.1, h2.1.2⟩, ?_⟩
   rcases h1.2 with g1 | ⟨g1, k1⟩
   ·rcases h2.2 with g2 | ⟨g2, k2⟩
    ·left; omega
    ·left; omega
   ·rcases h2.2 with g2 | ⟨g2, k2⟩
    ·left; omega
    ·right
     refine ⟨by omega, zjj o xs t.args u.args g1.2 g2.2 (fun x hx y hy z hz => ih x hx y z (zgo hs x hx) (zgo ht y hy) (zgo hu z hz)) k1 k2⟩
  ·next e2 =>
   rw [if_neg (by rw [e1]; exact e2)]
   rw [decide_eq_true_eq] at h2 ⊢
   rw [e1]; exact h2
 ·next e1 =>
  rw [decide_eq_true_eq] at h1
  split at h2
  ·next e2 =>
   rw [if_neg (by omega), decide_eq_true_eq]; omega
  ·next e2 =>
   rw [decide_eq_true_eq] at h2
   rw [if_neg (by omega), decide_eq_true_eq]; omega
noncomputable def Og.abv (o : Og) (s t : Tm) : Bool := if (s.name == [] || t.name == []) = true then !(s.name == []) else o.kbo s t
def elM (t : Tm) : Prop := t = .mk [] [] \/ (t.names = true /\ (t.name == []) = false)
theorem zxc (o : Og) (s : Tm) : o.abv s s = false := by
 unfold Og.abv
 split
 ·next h => simpa using h
 ·exact zur o s
theorem zh3 (o : Og) {s t u : Tm} (hs : elM s) (ht : elM t) (hu : elM u) (h1 : o.abv s t = true) (h2 : o.abv t u = true) : o.abv s u = true := by
 have hsn : (s.name == []) = false := by
  unfold Og.abv at h1
  split at h1
  ·simpa using h1
  ·next h => simp at h; simpa using h.1
 have htn : (t.name == []) = false := by
  unfold Og.abv at h2
  split at h2
  ·simpa using h2
  ·next h => simp at h; simpa using h.1
 unfold Og.abv at *
 simp only [hsn, htn, Bool.false_or, Bool.false_eq_true, if_false] at h1 h2 ⊢
 split
 ·rfl
 ·next h =>
  rw [if_neg h] at h2
  have hs' : s.names = true := by rcases hs with rfl | h; exact absurd hsn (by simp [Tm.name]); exact h.1
  have ht' : t.names = true := by rcases ht with rfl | h; exact absurd htn (by simp [Tm.name]); exact h.1
  have hu' : u.names = true := by rcases hu with rfl | h'; exact absurd rfl h; exact h'.1
  exact zwo o s t u hs' ht' hu' h1 h2
theorem maxE {α : Type} (r : α -> α -> Prop) (P : α -> Prop) (irr : ∀ a, P a -> ¬ r a a) (tr : ∀ a b c, P a -> P b -> P c -> r a b -> r b c -> r a c) : ∀ l : List α, (∀ a ∈ l, P a) -> l ≠ [] -> ∃ m ∈ l, ∀ x ∈ l, ¬ r x m
 | [], _, h => absurd rfl h
 | [a], hP, _ => ⟨a, by simp, fun x hx => by rw [List.mem_singleton.1 hx]; exact irr a (hP a (by simp))⟩
 | a :: b :: l, hP, _ => by
  obtain ⟨m, hm, h⟩ := maxE r P irr tr (b :: l) (fun x hx => hP x (by simp [List.mem_cons.1 hx])) (by simp)
  by_cases ha : r a m
  ·refine ⟨a, by simp, fun x hx hxa => ?_⟩
   rcases List.mem_cons.1 hx with rfl | hx
   ·exact irr _ (hP _ (by simp)) hxa
   ·exact h x hx (tr x a m (hP x (by simp [List.mem_cons.1 hx])) (hP a (by simp)) (hP m (by simp [List.mem_cons.1 hm])) hxa ha)
  ·refine ⟨m, by simp [List.mem_cons.1 hm], fun x hx => ?_⟩
   rcases List.mem_cons.1 hx with rfl | hx
   ·exact ha
   ·exact h x hx
noncomputable def cn (t : Tm) (l : List Tm) : Nat := l.countP fun x => same x t
theorem zzf (t : Tm) : cn t [] = 0 := rfl
theorem zb5 (t x : Tm) (l : List Tm) : cn t (x :: l) = cn t l + if same x t = true then 1 else 0 := by unfold cn; rw [List.countP_cons]
theorem qek (t : Tm) (l m : List Tm) : cn t (l ++ m) = cn t l + cn t m := by unfold cn; rw [List.countP_append]
theorem zt4 {t : Tm} {l : List Tm} : 0 < cn t l ↔ t ∈ l := by
 unfold cn
 rw [List.countP_pos_iff]
 refine ⟨fun ⟨a, h1, h2⟩ => by rw [<- zbe.1 h2]; exact h1, fun h => ⟨t, h, zbe.2 rfl⟩⟩
def eqM (a b : List Tm) : Prop := ∀ t, cn t a = cn t b
def gtM (o : Og) (a b : List Tm) : Prop := ∀ t, cn t a < cn t b -> ∃ s, cn s b < cn s a /\ o.abv s t = true
noncomputable def dcP (p : Prop) : Bool := @decide p (Classical.propDecidable p)
theorem zdv {p : Prop} : dcP p = true ↔ p := by unfold dcP; exact @decide_eq_true_iff p (Classical.propDecidable p)
theorem zgu {p : Prop} : dcP p = false ↔ ¬ p := by unfold dcP; exact @decide_eq_false_iff_not p (Classical.propDecidable p)
noncomputable def zd4 (o : Og) (a b : List Tm) : Int := if dcP (eqM a b) = true then 1 else if dcP (gtM o a b) = true then 2 else if dcP (gtM o b a) = true then 3 else 0
theorem zri {a b : List Tm} : eqM a b ↔ eqM b a := ⟨fun h t => (h t).symm, fun h t => (h t).symm⟩
theorem zc3 {t : Tm} {a b : List Tm} (h : cn t a < cn t b) : t ∈ b := zt4.1 (by omega)
theorem qeo (o : Og) {a b : List Tm} (ha : ∀ t ∈ a, elM t) (hb : ∀ t ∈ b, elM t) (h1 : gtM o a b) (h2 : gtM o b a) : eqM a b := by
 apply Classical.byContradiction
 intro hne
 obtain ⟨t, ht⟩ : ∃ t, cn t a ≠ cn t b := Classical.not_forall.1 hne
 have hall : ∀ x ∈ a ++ b, elM x := fun x hx => (List.mem_append.1 hx).elim (ha x) (hb x)
 let D := (a ++ b).filter fun x => !decide (cn x a = cn x b)
 have hD : ∀ x, x ∈ D ↔ cn x a ≠ cn x b := fun x => by
  show x ∈ (a ++ b).filter _ ↔ _
  rw [List.mem_filter]
  constructor
  ·intro h; simpa using h.2
  ·intro h
   refine ⟨List.mem_append.2 ?_, by simpa using h⟩
   rcases Nat.lt_or_ge (cn x a) (cn x b) with h' | h'
   ·exact Or.inr (zc3 h')
   ·exact Or.inl (zc3 (show cn x b < cn x a by omega))
 obtain ⟨m, hm, hmax⟩ := maxE (fun x y => o.abv x y = true) elM (fun x _ => by rw [zxc]; simp) (fun x y z hx hy hz => zh3 o hx hy hz) D (fun x hx => hall x (List.mem_filter.1 hx).1) (fun h => by have := (hD t).2 ht; rw [h] at this; simp at this)
 have hmn := (hD m).1 hm
 rcases Nat.lt_or_ge (cn m a) (cn m b) with h' | h'
 ·obtain ⟨s, k1, k2⟩ := h1 m h'
  exact hmax s ((hD s).2 (by omega)) k2
 ·obtain ⟨s, k1, k2⟩ := h2 m (by omega)
  exact hmax s ((hD s).2 (by omega)) k2
def bck (c : Int) : Int := if c = 2 then 3 else if c = 3 then 2 else c
theorem zyz (o : Og) {a b : List Tm} (ha : ∀ t ∈ a, elM t) (hb : ∀ t ∈ b, elM t) : zd4 o b a = bck (zd4 o a b) := by
 unfold zd4
 by_cases he : eqM a b
 ·rw [zdv.2 he, zdv.2 (zri.1 he)]; rfl
 ·rw [zgu.2 he, zgu.2 fun h => he (zri.2 h)]
  by_cases h1 : gtM o a b
  ·have h2 : ¬ gtM o b a := fun h2 => he (qeo o ha hb h1 h2)
   rw [zdv.2 h1, zgu.2 h2]; rfl
  ·rw [zgu.2 h1]
   by_cases h2 : gtM o b a
   ·rw [zdv.2 h2]; rfl
   ·rw [zgu.2 h2]; rfl
theorem zwb (o : Og) (a b : List Tm) (t : Tm) : zd4 o (a ++ [t]) (b ++ [t]) = zd4 o a b := by
 have e : ∀ x l, cn x (l ++ [t]) = cn x l + cn x [t] := fun x l => qek x l [t]
 have h1 : ∀ a b : List Tm, eqM (a ++ [t]) (b ++ [t]) = eqM a b := fun a b => by unfold eqM; simp only [e, Nat.add_right_cancel_iff]
 have h2 : ∀ a b : List Tm, gtM o (a ++ [t]) (b ++ [t]) = gtM o a b := fun a b => by unfold gtM; simp only [e, Nat.add_lt_add_iff_right]
 unfold zd4
 rw [h1, h2, h2]
theorem qaq (o : Og) (a : List Tm) (t : Tm) : zd4 o (a ++ [t]) a = 2 := by
 have e : ∀ x, cn x (a ++ [t]) = cn x a + cn x [t] := fun x => qek x a [t]
 unfold zd4
 have h1 : ¬ eqM (a ++ [t]) a := fun h => by
  have := h t
  rw [e, zb5, zbe.2 rfl, if_pos rfl, zzf] at this; omega
 have h2 : gtM o (a ++ [t]) a := fun x hx => by rw [e] at hx; omega
 rw [zgu.2 h1, zdv.2 h2]; rfl
theorem zrl (o : Og) (a b : List Tm) : zd4 o a b = 2 ↔ ¬ eqM a b /\ gtM o a b := by
 unfold zd4
 by_cases h1 : eqM a b
 ·rw [zdv.2 h1]; simp [h1]
 ·rw [zgu.2 h1]
  by_cases h2 : gtM o a b
  ·rw [zdv.2 h2]; simp [h1, h2]
  ·rw [zgu.2 h2]
   simp only [Bool.false_eq_true, if_false, h2, and_false, iff_false]
   split <;> simp
theorem zwy (o : Og) {a b c : List Tm} (ha : ∀ t ∈ a, elM t) (hb : ∀ t ∈ b, elM t) (hc : ∀ t ∈ c, elM t) (h1 : gtM o a b) (h2 : gtM o b c) : gtM o a c := by
 intro y hy
 have hyc : elM y := hc y (zc3 hy)
 let D := (a ++ b).filter fun x => o.abv x y && (decide (cn x b < cn x a) || decide (cn x c < cn x b))
 have hD : ∀ x, x ∈ D ↔ o.abv x y = true /\ (cn x b < cn x a \/ cn x c < cn x b) := fun x => by
  show x ∈ (a ++ b).filter _ ↔ _
  rw [List.mem_filter]
  simp only [Bool.and_eq_true, Bool.or_eq_true, decide_eq_true_eq]
  refine ⟨fun h => h.2, fun h => ⟨List.mem_append.2 ?_, h⟩⟩
  rcases h.2 with h | h
  ·exact Or.inl (zc3 h)
  ·exact Or.inr (zc3 h)
 have hel : ∀ x ∈ D, elM x := fun x hx => (List.mem_append.1 (List.mem_filter.1 hx).1).elim (ha x) (hb x)
 have hne : D ≠ [] := by
  have : ∃ x, x ∈ D := by
   by_cases h : cn y a < cn y b
   ·obtain ⟨s, k1, k2⟩ := h1 y h
    exact ⟨s, (hD s).2 ⟨k2, Or.inl k1⟩⟩
   ·obtain ⟨s, k1, k2⟩ := h2 y (by omega)
    exact ⟨s, (hD s).2 ⟨k2, Or.inr k1⟩⟩
  intro h
  obtain ⟨x, hx⟩ := this
  rw [h] at hx; simp at hx
 obtain ⟨m, hm, hmax⟩ := maxE (fun x y => o.abv x y = true) elM (fun x _ => by rw [zxc]; simp) (fun x y z hx hy hz => zh3 o hx hy hz) D hel hne
 obtain ⟨k1, k2⟩ := (hD m).1 hm
 refine ⟨m, ?_, k1⟩
 have hme := hel m hm
 have up : ∀ s, o.abv s m = true -> elM s -> ¬ (cn s b < cn s a \/ cn s c < cn s b) := fun s h1 h2 h3 => hmax s ((hD s).2 ⟨zh3 o h2 hme hyc h1 k1, h3⟩) h1
 rcases k2 with k2 | k2
 ·apply Classical.byContradiction
  intro hn
  obtain ⟨s, q1, q2⟩ := h2 m (by omega)
  exact up s q2 (hb s (zc3 q1)) (Or.inr q1)
 ·apply Classical.byContradiction
  intro hn
  obtain ⟨s, q1, q2⟩ := h1 m (by omega)
  exact up s q2 (ha s (zc3 q1)) (Or.inl q1)
theorem qfo (o : Og) (L : List (List Tm)) (hL : ∀ a ∈ L, ∀ t ∈ a, elM t) (hne : L ≠ []) : ∃ m ∈ L, ∀ x ∈ L, zd4 o x m ≠ 2 := by
 refine maxE (fun x y => zd4 o x y = 2) (fun a => ∀ t ∈ a, elM t) (fun a _ h => ?_) (fun a b c ha hb hc h1 h2 => ?_) L hL hne
 ·exact ((zrl o a a).1 h).1 fun t => rfl
 ·rw [zrl] at h1 h2 ⊢
  refine ⟨fun he => ?_, zwy o ha hb hc h1.2 h2.2⟩
  have : gtM o b a := fun t ht => by
   obtain ⟨s, k1, k2⟩ := h2.2 t (by rw [<- he t]; exact ht)
   exact ⟨s, by rw [he s]; exact k1, k2⟩
  exact h1.1 (qeo o ha hb h1.2 this)
end Go.Proofs.YtaaniggpnljckaaGreat
namespace Go.Proofs.YtaaniggpnljckaaGreat
set_option linter.unusedSimpArgs false
set_option linter.unusedVariables false
set_option linter.unusedSectionVars false
set_option maxRecDepth 4000
open Go.RowKit
def eqL {α : Type} (p : α -> α -> Bool) : List α -> List α -> Bool
 | [], [] => true
 | a :: xs, b :: ys => p a b && eqL p xs ys
 | _, _ => false
theorem zxh {α : Type} {p : α -> α -> Bool} : ∀ {xs ys : List α}, xs.length ≠ ys.length -> eqL p xs ys = false
 | [], [], h => absurd rfl h
 | [], _ :: _, _ => rfl
 | _ :: _, [], _ => rfl
 | a :: xs, b :: ys, h => by simp only [eqL]; rw [zxh (by simpa using h), Bool.and_false]
theorem zr4 {α : Type} {p : α -> α -> Bool} : ∀ {xs ys : List α}, (∀ x ∈ xs, ∀ y, p x y = same x y) -> eqL p xs ys = same xs ys
 | [], [], _ => zrp.symm
 | [], _ :: _, _ => (zod.2 (by simp)).symm
 | _ :: _, [], _ => (zod.2 (by simp)).symm
 | a :: xs, b :: ys, h => by simp only [eqL]; rw [zn3, h a (by simp) b, zr4 fun x hx y => h x (by simp [hx]) y]
set_option maxRecDepth 10000 in
set_option maxHeartbeats 400000 in
theorem zij (xs ys : List Tm) (p : Tm -> Tm -> Bool) (g : FuncId) (caps : List T) (H : ∀ x ∈ xs, ∀ y ∈ ys, FC Tryz.prog g (tmD x :: tmD y :: caps.map .one) [bD (p x y)]) : FC Tryz.prog 70 [.one (tmS xs), .one (tmS ys), .one (.fn g caps)] [bD (eqL p xs ys)] := by
 refine zg6 (fun hw => ?_) Tryz.call70
 have hl : xs.length <= 9223372036854775807 := by simpa [zn6, wfT] using hw.1.1
 have hl2 : ys.length <= 9223372036854775807 := by simpa [zn6, wfT] using hw.2.1.1
 refine zan Tryz.call70 Tryz.func70 rfl (by kernel_rfl) (za2 (by kernel_rfl)) ?_
 simp -implicitDefEqProofs only [go_sem, Tryz.results70]
 refine ⟨fun h => ?_, fun h => ?_⟩
 ·rw [zxh (by rintro e; simp [e] at h)]
 ·have hlen : xs.length = ys.length := by simp at h; omega
  refine zaj (fun k : Nat => hd [(1, vT (tmS ys)), (2, .one (.t (.fn g caps))), (15, vT (tmS xs)), (16, vI xs.length), (17, vI k)] [] []) (fun k => k <= xs.length /\ eqL p xs ys = eqL p (xs.drop k) (ys.drop k)) (fun k => xs.length - k) 0 (zab ?_) ?_ ?_
  ·simp -implicitDefEqProofs only [go_sem]
  ·simp
  ·intro k ⟨hk, hr⟩
   by_cases hlt : k < xs.length
   ·have hk2 : k < ys.length := by omega
    simp -implicitDefEqProofs only [go_sem, List.length_map, zaf, hlt, hk2, zaa]
    refine callF (H xs[k] (List.getElem_mem hlt) ys[k] (List.getElem_mem hk2)) (by simp -implicitDefEqProofs only [go_sem, zaa]) ?_
    simp -implicitDefEqProofs only [go_sem, zaa]
    rw [List.drop_eq_getElem_cons hlt, List.drop_eq_getElem_cons hk2, eqL] at hr
    refine ⟨fun h => ?_, fun h => ?_⟩
    ·rw [hr, show p xs[k] ys[k] = false by simpa using h]; rfl
    ·rw [show p xs[k] ys[k] = true by simpa using h, Bool.true_and] at hr
     rw [zaq (by omega)]
     exact ⟨k + 1, ⟨by omega, hr⟩, by omega, zab (by simp -implicitDefEqProofs only [go_sem])⟩
   ·simp -implicitDefEqProofs only [go_sem, List.length_map, hlt]
    rw [hr, List.drop_of_length_le (by omega), List.drop_of_length_le (by omega)]; rfl
end Go.Proofs.YtaaniggpnljckaaGreat
namespace Go.Proofs.YtaaniggpnljckaaGreat
set_option linter.unusedSimpArgs false
set_option linter.unusedVariables false
set_option linter.unusedSectionVars false
set_option maxRecDepth 4000
open Go.RowKit
theorem zhu (a b : Tm) : same a b = (same a.name b.name && same a.args b.args) := by
 cases a; cases b
 rw [Bool.eq_iff_iff]
 simp only [Bool.and_eq_true, zbe, Tm.name, Tm.args, Tm.mk.injEq]
theorem zhd {α : Type} [BEq α] [LawfulBEq α] (a b : α) : (a == b) = same a b := by
 rw [Bool.eq_iff_iff, beq_iff_eq, zbe]
theorem zs3 (a b : Tm) (H : FC Tryz.prog 70 [.one (tmS a.args), .one (tmS b.args), .one (.fn 40 [])] [bD (same a.args b.args)]) :
  FC Tryz.prog 40 [tmD a, tmD b] [bD (same a b)] := by
 simp only [tmD, zaa]
 refine zan Tryz.call40 Tryz.func40 rfl (by kernel_rfl) (za2 (by kernel_rfl)) ?_
 simp -implicitDefEqProofs only [go_sem, Tryz.results40]
 refine ⟨fun h => ?_, fun h => ?_⟩
 ·refine callF (H) (by simp -implicitDefEqProofs only [go_sem]) ?_
  simp -implicitDefEqProofs only [go_sem]
  rw [zhu, <- zhd a.name, h, Bool.true_and]
 ·rw [zhu, <- zhd a.name, h]; rfl
theorem zeh : ∀ a b : Tm, FC Tryz.prog 40 [tmD a, tmD b] [bD (same a b)] :=
 zbm fun n xs ih b => zs3 (.mk n xs) b (by
  rw [show same (Tm.mk n xs).args b.args = eqL same (Tm.mk n xs).args b.args from (zr4 fun _ _ _ => rfl).symm]
  exact zij xs b.args same _ [] fun x hx y _ => ih x hx y)
theorem zyn (a b : Tm) (H : ∀ x ∈ a.args, ∀ y, FC Tryz.prog 76 [tmD x, tmD y] [bD (same x y)]) : FC Tryz.prog 76 [tmD a, tmD b] [bD (same a b)] := by
 refine zg6 (fun hw => ?_) Tryz.call76
 simp only [tmD, zaa] at hw ⊢
 have hl : a.args.length <= 9223372036854775807 := by simp [zn6, wfT, zsm] at hw; exact hw.1.2.1
 refine zan Tryz.call76 Tryz.func76 rfl (by kernel_rfl) (za2 (by kernel_rfl)) ?_
 simp -implicitDefEqProofs only [go_sem, Tryz.results76]
 refine ⟨fun h1 => ?_, fun h1 => by rw [zhu, <- zhd a.name, show (a.name == b.name) = false by simpa using h1]; rfl⟩
 have h1' : same a.name b.name = true := by rw [<- zhd]; simpa using h1
 refine ⟨fun h2 => ?_, fun h2 => ?_⟩
 ·rw [zhu, h1', Bool.true_and, zod.2 (by rintro e; simp [e] at h2)]
 have hlen : a.args.length = b.args.length := by simp at h2; omega
 have hs : same a b = same a.args b.args := by rw [zhu, h1', Bool.true_and]
 refine zaj (fun k : Nat => hd [(2, .one (.bx 2 0)), (3, .one (.bx 3 0)), (4, vB false), (5, vI k)] [(2, [.t (.str a.name), .t (tmS a.args)]), (3, [.t (.str b.name), .t (tmS b.args)])] []) (fun k => k <= a.args.length /\ same a.args b.args = same (a.args.drop k) (b.args.drop k)) (fun k => a.args.length - k) 0 (zab ?_) ?_ ?_
 ·simp -implicitDefEqProofs only [go_sem]
 ·simp
 ·intro k ⟨hk, hr⟩
  by_cases hlt : k < a.args.length
  ·have hk2 : k < b.args.length := by omega
   simp -implicitDefEqProofs only [go_sem, hlt]
   refine drawn (by kernel_rfl) ?_
   simp -implicitDefEqProofs only [go_sem, zaf, hlt, hk2, zaa]
   refine zau (H a.args[k] (List.getElem_mem hlt) b.args[k]) (by simp -implicitDefEqProofs only [go_sem, zaa]) ?_
   simp -implicitDefEqProofs only [go_sem, zaa]
   rw [List.drop_eq_getElem_cons hlt, List.drop_eq_getElem_cons hk2, zn3] at hr
   refine ⟨by kernel_rfl, fun h => ?_, fun h => ?_⟩
   ·rw [hs, hr, show same a.args[k] b.args[k] = false by simpa using h]; rfl
   ·rw [show same a.args[k] b.args[k] = true by simpa using h, Bool.true_and] at hr
    rw [zaq (by omega)]
    exact ⟨k + 1, ⟨by omega, hr⟩, by omega, zab (by simp -implicitDefEqProofs only [go_sem])⟩
  ·simp -implicitDefEqProofs only [go_sem, hlt]
   rw [hs, hr, List.drop_of_length_le (by omega), List.drop_of_length_le (by omega), zrp]
theorem zsc : ∀ a b : Tm, FC Tryz.prog 76 [tmD a, tmD b] [bD (same a b)] := zbm fun n xs ih b => zyn (.mk n xs) b ih
end Go.Proofs.YtaaniggpnljckaaGreat
