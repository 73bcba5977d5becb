/-
  The walk over plain data, and contracts of functions of the program and of its laws.
  Conditions: those that each theorem names.
-/
import Derived.Test.YtaaniggpnljckaaGreatQM5
import Derived.Test.YtaaniggpnljckaaGreatQM4
import Derived.OrdersIn
import Derived.Laws.IdiomRangeMap
import Derived.Lib.Walk
import Derived.Lib.SliceRun
import Derived.Lib.AppendZeros
import Derived.Shelf.Sort.Plain
import Derived.Shelf.Slices.In.SortNone
import Derived.Shelf.Slices.CompactS
namespace Go.Proofs.YtaaniggpnljckaaGreat
set_option linter.unusedSimpArgs false
set_option linter.unusedVariables false
set_option linter.unusedSectionVars false
set_option maxRecDepth 4000
open Go.RowKit
abbrev zzl (q : Cu) : Bxs := [[(false, zi7 q.code), (false, .int .i64 q.pos), (false, .int .u64 q.seed)]]
theorem qg3 (b : UInt8) : IntKind.i64.wrap (b.toNat : Int) = b.toNat := by
 have := b.toNat_lt
 exact zbd (by omega) (by omega)
theorem qb0 (x : Int) : 0 <= (IntKind.u64.wrap x).fdiv (2 ^ 40) /\ (IntKind.u64.wrap x).fdiv (2 ^ 40) <= 18446744073709551615 := by
 have h : 0 <= IntKind.u64.wrap x /\ IntKind.u64.wrap x <= 18446744073709551615 := by
  have := I64.wrap .u64 x
  have m1 : IntKind.min .u64 = 0 := by decide
  have m2 : IntKind.max .u64 = 18446744073709551615 := by decide
  rw [m1, m2] at this; exact this
 generalize IntKind.u64.wrap x = y at h
 rw [Int.fdiv_eq_ediv_of_nonneg _ (by decide)]
 omega
theorem qcp (q : Cu) (hp : q.pos <= 1099511627776) : PC Tryz.prog 30 (zzl q) [.p 0] (zzl q.nx) [(true, iD q.v)] := by
 obtain ⟨code, pos, seed⟩ := q
 have hpw : IntKind.i64.wrap ((pos : Int) + 1) = ((pos + 1 : Nat) : Int) := zaq (by dsimp only at hp; omega)
 unfold Cu.v Cu.nx Cu.sd Cu.b
 dsimp only at hp ⊢
 by_cases hlt : pos < code.length
 ·have hli : ((pos : Int) < code.length) = True := by simp; omega
  have hle : (((pos + 1 : Nat) : Int) <= code.length) = True := by simp; omega
  have hg : code.getD pos 0 = code[pos] := by rw [List.getD_eq_getElem?_getD, List.getElem?_eq_getElem hlt]; rfl
  rw [if_pos hlt, if_pos (by omega), hg]
  refine zbl Tryz.call30 Tryz.func30 rfl (by kernel_rfl) (by simp only [List.length_cons, List.length_nil, Tryz.ntmps30]; omega) (by simp only [Tryz.ntmps30]; omega) rfl rfl (by simp [zar, T.isPin, AF.ds, bxA]) (by simp [gFS, T.fs, T.flat, AF.ds, bxA]) rfl ?_
  simp -implicitDefEqProofs only [go_sem, Tryz.results30]
  refine drawn (by kernel_rfl) ?_
  simp -implicitDefEqProofs only [go_sem, hli]
  refine ⟨by kernel_rfl, ?_⟩
  refine drawn (by kernel_rfl) ?_
  simp -implicitDefEqProofs only [go_sem, hlt, zaf, qg3]
  refine ⟨by kernel_rfl, ?_⟩
  rw [hpw]
  refine drawn (by kernel_rfl) ?_
  simp -implicitDefEqProofs only [go_sem, hle]
  kernel_rfl
 ·have hli : ((pos : Int) < code.length) = False := by simp; omega
  have hle : (((pos + 1 : Nat) : Int) <= code.length) = False := by simp; omega
  rw [if_neg hlt, if_neg (by omega)]
  refine zbl Tryz.call30 Tryz.func30 rfl (by kernel_rfl) (by simp only [List.length_cons, List.length_nil, Tryz.ntmps30]; omega) (by simp only [Tryz.ntmps30]; omega) rfl rfl (by simp [zar, T.isPin, AF.ds, bxA]) (by simp [gFS, T.fs, T.flat, AF.ds, bxA]) rfl ?_
  simp -implicitDefEqProofs only [go_sem, Tryz.results30]
  refine drawn (by kernel_rfl) ?_
  simp -implicitDefEqProofs only [go_sem, hli]
  refine ⟨by kernel_rfl, ?_⟩
  rw [hpw]
  refine drawn (by kernel_rfl) ?_
  simp -implicitDefEqProofs only [go_sem, hle]
  refine ⟨by kernel_rfl, ?_⟩
  rw [show min 40 64 = 40 from rfl]
  exact ⟨qb0 _, Or.inl rfl⟩
theorem qd6 (q : Cu) (hp : q.pos <= 1099511627776) (n : Int) (hn : n <= 200) : PC Tryz.prog 16 (zzl q) [.p 0, .d false (iD n)] (zzl (q.pick n).1) [(true, iD (q.pick n).2)] := by
 have HN := qcp q hp
 have hv := q.v_bd
 unfold Cu.pick
 by_cases h1 : n <= 1
 ·rw [if_pos h1]
  refine zbl Tryz.call16 Tryz.func16 rfl (by kernel_rfl) (by simp only [List.length_cons, List.length_nil, Tryz.ntmps16]; omega) (by simp only [Tryz.ntmps16]; omega) rfl rfl (by simp [zar, T.isPin, AF.ds, bxA]) (by simp [gFS, T.fs, T.flat, AF.ds, bxA]) rfl ?_
  simp -implicitDefEqProofs only [go_sem, Tryz.results16, h1]
 ·have h2 : (200 < n) = False := by simp; omega
  rw [if_neg h1]
  refine zbl Tryz.call16 Tryz.func16 rfl (by kernel_rfl) (by simp only [List.length_cons, List.length_nil, Tryz.ntmps16]; omega) (by simp only [Tryz.ntmps16]; omega) rfl rfl (by simp [zar, T.isPin, AF.ds, bxA]) (by simp [gFS, T.fs, T.flat, AF.ds, bxA]) rfl ?_
  simp -implicitDefEqProofs only [go_sem, Tryz.results16, h1]
  refine zaw [1, 1000000] [8] [1000000] [] (HN) (by decide) rfl (by simp -implicitDefEqProofs only [go_sem, h2]) (by simp -implicitDefEqProofs only [go_sem, h2]) (by simp -implicitDefEqProofs only [go_sem, h2]) (by simp -implicitDefEqProofs only [go_sem, h2]) ?_
  simp -implicitDefEqProofs only [go_sem, h2]
  have ht : 0 <= q.v.tmod n /\ q.v.tmod n < n := by
   rw [Int.tmod_eq_emod_of_nonneg hv.1]
   exact ⟨Int.emod_nonneg _ (by omega), Int.emod_lt_of_pos _ (by omega)⟩
  exact ⟨by omega, by omega, by omega⟩
theorem one_c (q : Cu) (hp : q.pos <= 1099511627776) (n : Int) (hn : n <= 200) : PC Tryz.prog 14 (zzl q) [.p 0, .d false (iD n)] (zzl (q.pick n).1) [(true, bD ((q.pick n).2 == 0))] := by
 have HN := qd6 q hp n hn
 refine zbl Tryz.call14 Tryz.func14 rfl (by kernel_rfl) (by simp only [List.length_cons, List.length_nil, Tryz.ntmps14]; omega) (by simp only [Tryz.ntmps14]; omega) rfl rfl (by simp [zar, T.isPin, AF.ds, bxA]) (by simp [gFS, T.fs, T.flat, AF.ds, bxA]) rfl ?_
 simp -implicitDefEqProofs only [go_sem, Tryz.results14]
 refine zaw [1000000] [5, 6] [1000000] [] (HN) (by decide) rfl (by simp -implicitDefEqProofs only [go_sem]) (by simp -implicitDefEqProofs only [go_sem]) (by simp -implicitDefEqProofs only [go_sem]) (by simp -implicitDefEqProofs only [go_sem]) ?_
 simp -implicitDefEqProofs only [go_sem]
abbrev zbb (code : List UInt8) (q : Cu) : Bxs := [[(false, zi7 code), (false, .int .i64 q.pos), (false, .int .u64 q.seed)]]
theorem zmt {code : List UInt8} {q : Cu} (hc : q.code = code) (hp : q.pos <= 1099511627776) (n : Int) (hn : n <= 200) : PC Tryz.prog 16 (zbb code q) [.p 0, .d false (iD n)] (zbb code (q.pick n).1) [(true, iD (q.pick n).2)] := by
 subst hc
 have h := qd6 q hp n hn
 rw [show zzl (q.pick n).1 = zbb q.code (q.pick n).1 by unfold zzl; rw [q.pick_code]] at h
 exact h
theorem one_k {code : List UInt8} {q : Cu} (hc : q.code = code) (hp : q.pos <= 1099511627776) (n : Int) (hn : n <= 200) : PC Tryz.prog 14 (zbb code q) [.p 0, .d false (iD n)] (zbb code (q.pick n).1) [(true, bD ((q.pick n).2 == 0))] := by
 subst hc
 have h := one_c q hp n hn
 rw [show zzl (q.pick n).1 = zbb q.code (q.pick n).1 by unfold zzl; rw [q.pick_code]] at h
 exact h
end Go.Proofs.YtaaniggpnljckaaGreat
namespace Go.Proofs.YtaaniggpnljckaaGreat
set_option linter.unusedSimpArgs false
set_option linter.unusedVariables false
set_option linter.unusedSectionVars false
set_option maxRecDepth 4000
open Go.RowKit
structure DrS (code : List UInt8) (b m k : Nat) (x : Cu × List (List Int)) : Prop where
 code : x.1.code = code
 pos : x.1.pos + k * b <= 274877910000
 len : x.2.length + k * m <= 2000
theorem DrS.put {code : List UInt8} {b m k n : Nat} {x : Cu × List (List Int)} (h : DrS code b m (k + 1) x) (hb : 2 * n + 3 <= b) (hm : 1 <= m) : DrS code b m k ((clD x.1 n).1, x.2 ++ [(clD x.1 n).2]) := by
 obtain ⟨p1, p2, p3, p4⟩ := zyg x.1 n
 have h1 := h.pos
 have h2 := h.len
 rw [Nat.add_mul] at h1 h2
 exact ⟨p3.trans h.code, by dsimp only; omega, by simp; omega⟩
end Go.Proofs.YtaaniggpnljckaaGreat
namespace Go.Proofs.YtaaniggpnljckaaGreat
set_option linter.unusedSimpArgs false
set_option linter.unusedVariables false
set_option linter.unusedSectionVars false
set_option maxRecDepth 4000
open Go.RowKit
theorem qhm {code : List UInt8} {q : Cu} (hc : q.code = code) (hp : q.pos <= 1099511627776) (l : List Int) (hl : 1 <= l.length) (hn : l.length <= 200) : PC Tryz.prog 27 (zbb code q) [.p 0, .d true (.one (ze4 l))] (zbb code (ammQ q l).1) [(true, iD (ammQ q l).2)] := by
 have HN := zmt hc hp l.length (by omega)
 have hb := q.pick_bd (n := l.length) (by omega)
 unfold ammQ
 obtain ⟨j, hj⟩ : ∃ j : Nat, (q.pick l.length).2 = j := ⟨(q.pick l.length).2.toNat, by omega⟩
 have hjl : j < l.length := by omega
 rw [hj] at HN ⊢
 refine zbl Tryz.call27 Tryz.func27 rfl (by kernel_rfl) (by simp only [List.length_cons, List.length_nil, Tryz.ntmps27]; omega) (by simp only [Tryz.ntmps27]; omega) rfl rfl (by simp [zar, T.isPin, AF.ds, bxA]) (by simp [gFS, T.fs, T.flat, AF.ds, bxA]) rfl ?_
 simp -implicitDefEqProofs only [go_sem, Tryz.results27]
 refine zaw [5, 1000000] [6, 8] [1000000] [] (HN) (by decide) rfl (by simp -implicitDefEqProofs only [go_sem, hjl, zaf]) (by simp -implicitDefEqProofs only [go_sem, hjl, zaf]) (by simp -implicitDefEqProofs only [go_sem, hjl, zaf]) (by simp -implicitDefEqProofs only [go_sem, hjl, zaf]) ?_
 simp -implicitDefEqProofs only [go_sem, hjl, zaf]
 exact Or.inl (by rw [List.getD_eq_getElem?_getD, List.getElem?_eq_getElem hjl]; rfl)
end Go.Proofs.YtaaniggpnljckaaGreat
namespace Go.Proofs.YtaaniggpnljckaaGreat
set_option linter.unusedSimpArgs false
set_option linter.unusedVariables false
set_option linter.unusedSectionVars false
set_option maxRecDepth 4000
open Go.RowKit
def Tm.names : Tm -> Bool := Tm.fold fun n xs rs => if za6 n = true then decide (xs.length = 0) else zbz n && decide (xs.length <= 4) && rs.all id
theorem Tm.names_eq (a : Tm) : a.names = if za6 a.name = true then decide (a.args.length = 0) else zbz a.name && decide (a.args.length <= 4) && a.args.all Tm.names := by
 unfold Tm.names
 rw [Tm.fold_eq]
 simp only [List.all_map]
 rfl
theorem zhw {α : Type} (xs : List α) (p : α -> Bool) : (!xs.any fun x => !p x) = xs.all p := by
 induction xs with
 | nil => rfl
 | cons x xs ih => simp only [List.any_cons, List.all_cons, Bool.not_or, Bool.not_not, ih]
theorem zoq (a : Tm) (H : ∀ x ∈ a.args, FC Tryz.prog 67 [tmD x] [bD x.names]) : FC Tryz.prog 67 [tmD a] [bD a.names] := by
 have H1 : ∀ x ∈ a.args, FC Tryz.prog 94 [tmD x] [bD (!x.names)] := fun x hx => by
  simp only [tmD, zaa]
  refine zan Tryz.call94 Tryz.func94 rfl (by kernel_rfl) (za2 (by kernel_rfl)) ?_
  simp -implicitDefEqProofs only [go_sem, Tryz.results94]
  refine callF (H x hx) (by simp -implicitDefEqProofs only [go_sem, zaa]) ?_
  simp -implicitDefEqProofs only [go_sem, zaa]
 have hN := a.names_eq
 simp only [tmD, zaa]
 refine zan Tryz.call67 Tryz.func67 rfl (by kernel_rfl) (za2 (by kernel_rfl)) ?_
 simp -implicitDefEqProofs only [go_sem, Tryz.results67]
 refine callF (zlv a.name) (by simp -implicitDefEqProofs only [go_sem]) ?_
 simp -implicitDefEqProofs only [go_sem]
 refine ⟨fun h => ?_, fun h => ?_⟩
 ·rw [hN, if_pos h]
  congr 1
  rw [Bool.eq_iff_iff]; simp
 ·rw [h] at hN
  simp only [Bool.false_eq_true, if_false] at hN
  refine callF (zgc a.name) (by simp -implicitDefEqProofs only [go_sem]) ?_
  simp -implicitDefEqProofs only [go_sem]
  refine ⟨fun h1 => ⟨fun h2 => ?_, fun h2 => ?_⟩, fun h1 => ?_⟩
  ·refine callF (zbv a.args (fun x => !x.names) _ [] H1) (by simp -implicitDefEqProofs only [go_sem]) ?_
   simp -implicitDefEqProofs only [go_sem]
   rw [zhw, hN, h1, Bool.true_and]
   rw [show decide (a.args.length <= 4) = true by simp at h2 ⊢; omega]; rfl
  ·rw [hN, h1, Bool.true_and, show decide (a.args.length <= 4) = false by simp at h2 ⊢; omega]; rfl
  ·rw [hN, h1]; rfl
theorem zgg : ∀ a : Tm, FC Tryz.prog 67 [tmD a] [bD a.names] := zbm fun n xs ih => zoq (.mk n xs) ih
def Tm.good (a : Tm) : Bool := zdb a && a.names
theorem zf0 (a : Tm) (hs : a.wt <= 1099511627776) : FC Tryz.prog 33 [tmD a] [bD a.good] := by
 simp only [tmD, zaa]
 refine zan Tryz.call33 Tryz.func33 rfl (by kernel_rfl) (za2 (by kernel_rfl)) ?_
 simp -implicitDefEqProofs only [go_sem, Tryz.results33]
 refine callF (zmu a hs) (by simp -implicitDefEqProofs only [go_sem, zaa]) ?_
 simp -implicitDefEqProofs only [go_sem, zaa]
 refine ⟨fun h => ?_, fun h => ?_⟩
 ·refine callF (zgg a) (by simp -implicitDefEqProofs only [go_sem, zaa]) ?_
  simp -implicitDefEqProofs only [go_sem, zaa]
  rw [Tm.good, h, Bool.true_and]
 ·rw [Tm.good, h, Bool.false_and]
theorem zej (a : Tm) : FC Tryz.prog 85 [tmD a] [bD (a.name == [61])] := by
 simp only [tmD, zaa]
 refine zan Tryz.call85 Tryz.func85 rfl (by kernel_rfl) (za2 (by kernel_rfl)) ?_
 simp -implicitDefEqProofs only [go_sem, Tryz.results85]
def Tm.atomOk (a : Tm) : Bool := if (a.name == [61]) = true then decide (a.args.length = 2) && zdb a && a.args.all Tm.names else zbz a.name && a.good
theorem zo3 {α : Type} {xs : List α} {p : α -> Bool} (h : xs.length = 2) : xs.all p = (p (xs[0]'(by omega)) && p (xs[1]'(by omega))) := by
 match xs, h with
 | [a, b], _ => simp
theorem zki (a : Tm) (hs : a.wt <= 1099511627776) : FC Tryz.prog 84 [tmD a] [bD a.atomOk] := by
 have hN : a.atomOk = if (a.name == [61]) = true then decide (a.args.length = 2) && zdb a && a.args.all Tm.names else zbz a.name && a.good := rfl
 simp only [tmD, zaa]
 refine zan Tryz.call84 Tryz.func84 rfl (by kernel_rfl) (za2 (by kernel_rfl)) ?_
 simp -implicitDefEqProofs only [go_sem, Tryz.results84]
 refine callF (zej a) (by simp -implicitDefEqProofs only [go_sem, zaa]) ?_
 simp -implicitDefEqProofs only [go_sem, zaa]
 refine ⟨fun h => ?_, fun h => ?_⟩
 ·rw [if_pos h] at hN
  by_cases h2 : a.args.length = 2
  ·have k0 : 0 < a.args.length := by omega
   have k1 : 1 < a.args.length := by omega
   have e2 : ((a.args.length : Int) == 2) = true := by simp [h2]
   have l0 : (0 : Int) < a.args.length := by omega
   have l1 : (1 : Int) < a.args.length := by omega
   rw [zo3 h2, show decide (a.args.length = 2) = true by simp [h2]] at hN
   simp only [Bool.true_and] at hN
   simp only [e2, zug, zee, qe6, zdh, and_true]
   refine callF (zmu a hs) (by simp -implicitDefEqProofs only [go_sem, zaa, l0, zaf, k0]) ?_
   simp -implicitDefEqProofs only [go_sem, zaa, l0, zaf, k0]
   refine ⟨fun h3 => ?_, fun h3 => ?_⟩
   ·refine callF (zgg a.args[0]) (by simp -implicitDefEqProofs only [go_sem, zaa, l1, zaf, k1]) ?_
    simp -implicitDefEqProofs only [go_sem, zaa, l1, zaf, k1]
    refine ⟨fun h4 => ?_, fun h4 => ?_⟩
    ·refine callF (zgg a.args[1]) (by simp -implicitDefEqProofs only [go_sem, zaa]) ?_
     simp -implicitDefEqProofs only [go_sem, zaa]
     rw [hN, h3, h4]; rfl
    ·rw [hN, h3, h4]; rfl
   ·rw [hN, h3]; rfl
  ·have e2 : ((a.args.length : Int) == 2) = false := by simp; omega
   simp only [e2, zug, qgc, zee, zdh, and_true, true_and, qgv]
   rw [hN, show decide (a.args.length = 2) = false by simpa using h2]; rfl
 ·rw [h] at hN
  simp only [Bool.false_eq_true, if_false] at hN
  refine callF (zgc a.name) (by simp -implicitDefEqProofs only [go_sem]) ?_
  simp -implicitDefEqProofs only [go_sem]
  refine ⟨fun h3 => ?_, fun h3 => ?_⟩
  ·refine callF (zf0 a hs) (by simp -implicitDefEqProofs only [go_sem, zaa]) ?_
   simp -implicitDefEqProofs only [go_sem, zaa]
   rw [hN, h3, Bool.true_and]
  ·rw [hN, h3, Bool.false_and]
end Go.Proofs.YtaaniggpnljckaaGreat
namespace Go.Proofs.YtaaniggpnljckaaGreat
set_option linter.unusedSimpArgs false
set_option linter.unusedVariables false
set_option linter.unusedSectionVars false
set_option maxRecDepth 4000
open Go.RowKit
theorem zc6 {a x : Tm} (h : x ∈ a.args) : x.wt <= a.wt := by
 have := Tm.wt_eq a
 have := zgq Tm.wt a.args x h
 omega
def mnL (zqs : Int) : Int -> List (Int -> Int) -> Int
 | n, [] => n
 | n, r :: rs => if n <= zqs then mnL zqs (n + r (zqs - n)) rs else n
theorem zqj {α : Type} (f : α -> Int -> Int) (g : α -> Nat) (zqs : Int) : ∀ (xs : List α) (n : Int), 0 <= n -> (∀ x ∈ xs, ∀ m, 0 <= m -> 1 <= f x m /\ f x m <= g x /\ (f x m <= m -> f x m = g x)) -> mnL zqs n (xs.map f) <= n + (xs.map g).sum /\ n <= mnL zqs n (xs.map f) /\ (mnL zqs n (xs.map f) <= zqs -> mnL zqs n (xs.map f) = n + (xs.map g).sum)
 | [], n, _, _ => by simp [mnL]
 | x :: xs, n, hn, h => by
  simp only [List.map_cons, mnL, List.sum_cons]
  split
  ·obtain ⟨h1, h2, h3⟩ := h x (by simp) (zqs - n) (by omega)
   obtain ⟨k1, k2, k3⟩ := zqj f g zqs xs (n + f x (zqs - n)) (by omega) fun y hy => h y (by simp [hy])
   refine ⟨by omega, by omega, fun hh => ?_⟩
   have := k3 hh
   have : f x (zqs - n) = g x := h3 (by omega)
   omega
  ·refine ⟨by omega, by omega, fun hh => by omega⟩
def zd0 : Tm -> Int -> Int := Tm.fold fun _ _ rs m => mnL m 1 rs
theorem zqi (a : Tm) (m : Int) : zd0 a m = mnL m 1 (a.args.map zd0) := congrFun (Tm.fold_eq _ a) m
theorem zjs : ∀ (a : Tm) (m : Int), 0 <= m -> 1 <= zd0 a m /\ zd0 a m <= a.nodes /\ (zd0 a m <= m -> zd0 a m = a.nodes) := by
 refine zbm fun b0 xs ih m hm => ?_
 rw [zqi, Tm.nodes_eq]
 show 1 <= mnL m 1 (xs.map zd0) /\ mnL m 1 (xs.map zd0) <= ((1 + (xs.map Tm.nodes).sum : Nat) : Int) /\ (mnL m 1 (xs.map zd0) <= m -> mnL m 1 (xs.map zd0) = ((1 + (xs.map Tm.nodes).sum : Nat) : Int))
 obtain ⟨k1, k2, k3⟩ := zqj zd0 Tm.nodes m xs 1 (by omega) ih
 refine ⟨k2, by omega, fun h => ?_⟩
 have := k3 h
 omega
theorem zz8 (a : Tm) (m : Nat) : decide (zd0 a m <= m) = decide (a.nodes <= m) := by
 obtain ⟨h1, h2, h3⟩ := zjs a m (by omega)
 rw [decide_eq_decide]
 exact ⟨fun h => by have := h3 h; omega, fun h => by omega⟩
set_option maxHeartbeats 400000 in
theorem zyu (a : Tm) (hs : a.wt <= 1099511627776) (H : ∀ x ∈ a.args, ∀ m : Int, 0 <= m -> m <= 1099511627776 -> FC Tryz.prog 105 [tmD x, iD m] [iD (zd0 x m)]) (m : Int) (h0 : 0 <= m) (h1 : m <= 1099511627776) : FC Tryz.prog 105 [tmD a, iD m] [iD (zd0 a m)] := by
 have hl : a.args.length <= 9223372036854775807 := by rw [Tm.wt_eq] at hs; omega
 have hn := zdc a
 have hN := a.nodes_eq
 simp only [tmD, zaa]
 refine zan Tryz.call105 Tryz.func105 rfl (by kernel_rfl) (za2 (by kernel_rfl)) ?_
 simp -implicitDefEqProofs only [go_sem, Tryz.results105]
 refine zaj (fun p : Nat × Int => hd [(1, vI m), (2, .one (.bx 2 0)), (5, vI p.2), (6, vI p.1)] [(2, [.t (.str a.name), .t (tmS a.args)])] []) (fun p => p.1 <= a.args.length /\ zd0 a m = mnL m p.2 ((a.args.drop p.1).map zd0) /\ 1 <= p.2 /\ p.2 + qfh Tm.nodes a.args p.1 <= a.nodes) (fun p => a.args.length - p.1) (0, 1) (zab ?_) ?_ ?_
 ·simp -implicitDefEqProofs only [go_sem]
 ·exact ⟨by simp, by rw [zqi]; rfl, by omega, by rw [zlz]; omega⟩
 ·intro ⟨k, n⟩ ⟨hk, hr, h2, h3⟩
  simp only at hk hr h2 h3
  by_cases hlt : k < a.args.length
  ·have hd := zum Tm.nodes a.args k hlt
   rw [List.drop_eq_getElem_cons hlt, List.map_cons, mnL] at hr
   simp -implicitDefEqProofs only [go_sem, zaf, hlt, zaa]
   refine ⟨fun h => ?_, fun h => ?_⟩
   ·have hle : n <= m := by simpa using h
    obtain ⟨s1, s2, s3⟩ := zjs a.args[k] (m - n) (by omega)
    rw [zbd (n := m - n) (by omega) (by omega)]
    refine callF (H a.args[k] (List.getElem_mem hlt) (m - n) (by omega) (by omega)) (by simp -implicitDefEqProofs only [go_sem, zaa]) ?_
    simp -implicitDefEqProofs only [go_sem, zaa]
    rw [if_pos hle] at hr
    exact ⟨(k + 1, n + zd0 a.args[k] (m - n)), ⟨hlt, hr, by simp only; omega, by simp only; omega⟩, by simp only; omega, zab (by simp -implicitDefEqProofs only [go_sem]; rw [zaq (by omega), zbd (by omega) (by omega)]; exact ⟨rfl, rfl⟩)⟩
   ·rw [hr, if_neg (by simpa using h)]
  ·simp -implicitDefEqProofs only [go_sem, hlt]
   rw [hr, List.drop_of_length_le (by omega)]; rfl
theorem qbc : ∀ a : Tm, a.wt <= 1099511627776 -> ∀ m : Int, 0 <= m -> m <= 1099511627776 -> FC Tryz.prog 105 [tmD a, iD m] [iD (zd0 a m)] :=
 zbm fun b0 xs ih hs => zyu (.mk b0 xs) hs fun x hx => ih x hx (Nat.le_trans (zc6 (a := .mk b0 xs) hx) hs)
end Go.Proofs.YtaaniggpnljckaaGreat
namespace Go.Proofs.YtaaniggpnljckaaGreat
set_option linter.unusedSimpArgs false
set_option linter.unusedVariables false
set_option linter.unusedSectionVars false
set_option maxRecDepth 4000
open Go.RowKit
set_option maxHeartbeats 400000 in
theorem zs9 (a : Tm) (hs : a.wt <= 1099511627776) (H : ∀ x ∈ a.args, FC Tryz.prog 106 [tmD x] [iD x.depth]) : FC Tryz.prog 106 [tmD a] [iD a.depth] := by
 have hl : a.args.length <= 9223372036854775807 := by rw [Tm.wt_eq] at hs; omega
 have hn := zdc a
 have hdn := zh7 a
 have hD := a.depth_eq
 simp only [tmD, zaa]
 refine zan Tryz.call106 Tryz.func106 rfl (by kernel_rfl) (za2 (by kernel_rfl)) ?_
 simp -implicitDefEqProofs only [go_sem, Tryz.results106]
 refine zaj (fun p : Nat × Nat => hd [(1, .one (.bx 1 0)), (3, vI p.2), (4, vI p.1)] [(1, [.t (.str a.name), .t (tmS a.args)])] []) (fun p => p.1 <= a.args.length /\ a.depth = ((a.args.drop p.1).map Tm.depth).foldl max p.2 + 1) (fun p => a.args.length - p.1) (0, 0) (zab ?_) ?_ ?_
 ·simp -implicitDefEqProofs only [go_sem]
 ·exact ⟨by simp, hD⟩
 ·intro ⟨k, n⟩ ⟨hk, hr⟩
  simp only at hk hr
  by_cases hlt : k < a.args.length
  ·rw [List.drop_eq_getElem_cons hlt, List.map_cons, List.foldl_cons] at hr
   simp -implicitDefEqProofs only [go_sem, zaf, hlt, zaa]
   refine callF (H a.args[k] (List.getElem_mem hlt)) (by simp -implicitDefEqProofs only [go_sem, zaa]) ?_
   simp -implicitDefEqProofs only [go_sem, zaa]
   refine callF (qbt n a.args[k].depth) (by simp -implicitDefEqProofs only [go_sem, zaa]) ?_
   simp -implicitDefEqProofs only [go_sem, zaa]
   exact ⟨(k + 1, max n a.args[k].depth), ⟨hlt, hr⟩, by simp only; omega, zab (by simp -implicitDefEqProofs only [go_sem]; rw [zaq (by omega)]; exact ⟨by congr 1; omega, rfl⟩)⟩
  ·simp -implicitDefEqProofs only [go_sem, hlt]
   rw [List.drop_of_length_le (by omega)] at hr
   simp only [List.map_nil, List.foldl_nil] at hr
   rw [hr, zaq (by omega)]
theorem zt7 : ∀ a : Tm, a.wt <= 1099511627776 -> FC Tryz.prog 106 [tmD a] [iD a.depth] :=
 zbm fun n xs ih hs => zs9 (.mk n xs) hs fun x hx => ih x hx (Nat.le_trans (zc6 (a := .mk n xs) hx) hs)
theorem zr6 (a : Tm) (hs : a.wt <= 1099511627776) : FC Tryz.prog 87 [tmD a] [bD (zdb a)] := by
 simp only [tmD, zaa]
 refine zan Tryz.call87 Tryz.func87 rfl (by kernel_rfl) (za2 (by kernel_rfl)) ?_
 simp -implicitDefEqProofs only [go_sem, Tryz.results87]
 refine callF (qbc a hs 30 (by omega) (by omega)) (by simp -implicitDefEqProofs only [go_sem, zaa]) ?_
 simp -implicitDefEqProofs only [go_sem, zaa]
 rw [show decide (zd0 a 30 <= 30) = decide (a.nodes <= 30) from zz8 a 30]
 refine ⟨fun h => ?_, fun h => ?_⟩
 ·refine callF (zt7 a hs) (by simp -implicitDefEqProofs only [go_sem, zaa]) ?_
  simp -implicitDefEqProofs only [go_sem, zaa]
  rw [zdb, h, Bool.true_and]
  congr 1
  rw [decide_eq_decide]; omega
 ·rw [zdb, h]; rfl
theorem zsu (a : Tm) (H : ∀ x ∈ a.args, FC Tryz.prog 88 [tmD x] [bD x.names]) : FC Tryz.prog 88 [tmD a] [bD a.names] := by
 refine zg6 (fun hw => ?_) Tryz.call88
 have hl : a.args.length <= 9223372036854775807 := by simp only [tmD, zaa] at hw; simp [zn6, wfT, zsm] at hw; exact hw.2.1
 have hN := a.names_eq
 simp only [tmD, zaa]
 refine zan Tryz.call88 Tryz.func88 rfl (by kernel_rfl) (za2 (by kernel_rfl)) ?_
 simp -implicitDefEqProofs only [go_sem, Tryz.results88]
 refine callF (zgk a.name) (by simp -implicitDefEqProofs only [go_sem]) ?_
 simp -implicitDefEqProofs only [go_sem]
 refine ⟨fun h => ?_, fun h => ?_⟩
 ·rw [hN, if_pos h]
  congr 1
  rw [Bool.eq_iff_iff]; simp
 ·rw [h] at hN
  simp only [Bool.false_eq_true, if_false] at hN
  refine callF (zf9 a.name) (by simp -implicitDefEqProofs only [go_sem]) ?_
  simp -implicitDefEqProofs only [go_sem]
  by_cases hy : zbz a.name = true
  ·by_cases h4 : a.args.length <= 4
   ·rw [hy, show decide (a.args.length <= 4) = true by simpa using h4, Bool.true_and, Bool.true_and] at hN
    refine ⟨fun _ => ⟨fun h => by simp at h; omega, fun _ => ?_⟩, fun h => by simp [hy] at h⟩
    refine zaj (fun k : Nat => hd [(1, .one (.bx 1 0)), (3, vI k)] [(1, [.t (.str a.name), .t (tmS a.args)])] []) (fun k => k <= a.args.length /\ a.names = (a.args.drop k).all Tm.names) (fun k => a.args.length - k) 0 (zab ?_) ?_ ?_
    ·simp -implicitDefEqProofs only [go_sem]
    ·exact ⟨by simp, hN⟩
    ·intro k ⟨hk, hr⟩
     by_cases hlt : k < a.args.length
     ·rw [List.drop_eq_getElem_cons hlt, List.all_cons] at hr
      simp -implicitDefEqProofs only [go_sem, zaf, hlt, zaa]
      refine callF (H a.args[k] (List.getElem_mem hlt)) (by simp -implicitDefEqProofs only [go_sem, zaa]) ?_
      simp -implicitDefEqProofs only [go_sem, zaa]
      refine ⟨fun h => ?_, fun h => ⟨k + 1, ⟨hlt, ?_⟩, by omega, zab (by simp -implicitDefEqProofs only [go_sem]; rw [zaq (by omega)])⟩⟩
      ·rw [hr, show a.args[k].names = false by simpa using h]; rfl
      ·rw [hr, show a.args[k].names = true by simpa using h]; rfl
     ·simp -implicitDefEqProofs only [go_sem, hlt]
      rw [hr, List.drop_of_length_le (by omega)]; rfl
   ·refine ⟨fun _ => ⟨fun _ => ?_, fun h => by simp at h; omega⟩, fun h => by simp [hy] at h⟩
    rw [hN, show decide (a.args.length <= 4) = false by simpa using h4, Bool.and_false]; rfl
  ·have hy' : zbz a.name = false := by simpa using hy
   refine ⟨fun h => by simp [hy'] at h, fun _ => ?_⟩
   rw [hN, hy']; rfl
theorem ziq : ∀ a : Tm, FC Tryz.prog 88 [tmD a] [bD a.names] := zbm fun n xs ih => zsu (.mk n xs) ih
theorem zq7 (a : Tm) (hs : a.wt <= 1099511627776) : FC Tryz.prog 75 [tmD a] [bD a.good] := by
 simp only [tmD, zaa]
 refine zan Tryz.call75 Tryz.func75 rfl (by kernel_rfl) (za2 (by kernel_rfl)) ?_
 simp -implicitDefEqProofs only [go_sem, Tryz.results75]
 refine callF (zr6 a hs) (by simp -implicitDefEqProofs only [go_sem, zaa]) ?_
 simp -implicitDefEqProofs only [go_sem, zaa]
 refine ⟨fun h => ?_, fun h => ?_⟩
 ·refine callF (ziq a) (by simp -implicitDefEqProofs only [go_sem, zaa]) ?_
  simp -implicitDefEqProofs only [go_sem, zaa]
  rw [Tm.good, h, Bool.true_and]
 ·rw [Tm.good, h, Bool.false_and]
theorem qct (a : Tm) (hs : a.wt <= 1099511627776) : FC Tryz.prog 63 [tmD a] [bD a.atomOk] := by
 have hN : a.atomOk = if (a.name == [61]) = true then decide (a.args.length = 2) && zdb a && a.args.all Tm.names else zbz a.name && a.good := rfl
 simp only [tmD, zaa]
 refine zan Tryz.call63 Tryz.func63 rfl (by kernel_rfl) (za2 (by kernel_rfl)) ?_
 simp -implicitDefEqProofs only [go_sem, Tryz.results63]
 refine ⟨fun h => ?_, fun h => ?_⟩
 ·rw [if_pos h] at hN
  by_cases h2 : a.args.length = 2
  ·have k0 : 0 < a.args.length := by omega
   have k1 : 1 < a.args.length := by omega
   have e2 : ((a.args.length : Int) == 2) = true := by simp [h2]
   have l0 : (0 : Int) < a.args.length := by omega
   have l1 : (1 : Int) < a.args.length := by omega
   rw [zo3 h2, show decide (a.args.length = 2) = true by simp [h2]] at hN
   simp only [Bool.true_and] at hN
   simp only [e2, zug, zee, qe6, zdh, and_true]
   refine callF (zr6 a hs) (by simp -implicitDefEqProofs only [go_sem, zaa, l0, zaf, k0]) ?_
   simp -implicitDefEqProofs only [go_sem, zaa, l0, zaf, k0]
   refine ⟨fun h3 => ?_, fun h3 => ?_⟩
   ·refine callF (ziq a.args[0]) (by simp -implicitDefEqProofs only [go_sem, zaa, l1, zaf, k1]) ?_
    simp -implicitDefEqProofs only [go_sem, zaa, l1, zaf, k1]
    refine ⟨fun h4 => ?_, fun h4 => ?_⟩
    ·refine callF (ziq a.args[1]) (by simp -implicitDefEqProofs only [go_sem, zaa]) ?_
     simp -implicitDefEqProofs only [go_sem, zaa]
     rw [hN, h3, h4]; rfl
    ·rw [hN, h3, h4]; rfl
   ·rw [hN, h3]; rfl
  ·have e2 : ((a.args.length : Int) == 2) = false := by simp; omega
   simp only [e2, zug, qgc, zee, zdh, and_true, true_and, qgv]
   rw [hN, show decide (a.args.length = 2) = false by simpa using h2]; rfl
 ·rw [h] at hN
  simp only [Bool.false_eq_true, if_false] at hN
  refine callF (zf9 a.name) (by simp -implicitDefEqProofs only [go_sem]) ?_
  simp -implicitDefEqProofs only [go_sem]
  refine ⟨fun h3 => ?_, fun h3 => ?_⟩
  ·refine callF (zq7 a hs) (by simp -implicitDefEqProofs only [go_sem, zaa]) ?_
   simp -implicitDefEqProofs only [go_sem, zaa]
   rw [hN, h3, Bool.true_and]
  ·rw [hN, h3, Bool.false_and]
theorem qfm (n m : Nat) : ((n : Int) == (m : Int)) = decide (n = m) := by
 rw [Bool.eq_iff_iff]; simp only [beq_iff_eq, decide_eq_true_eq]; omega
theorem zkn (n m : Nat) : ((n : Int) != (m : Int)) = !decide (n = m) := by
 rw [bne, qfm]
end Go.Proofs.YtaaniggpnljckaaGreat
namespace Go.Proofs.YtaaniggpnljckaaGreat
set_option linter.unusedSimpArgs false
set_option linter.unusedVariables false
set_option linter.unusedSectionVars false
set_option maxRecDepth 4000
open Go.RowKit
def Drw {α : Type} (code : List UInt8) (f : FuncId) (l : List AF) (c : Nat) (d : α -> Bool × D) (ok : α -> Prop) : Prop :=
 ∀ q : Cu, q.code = code -> q.pos + c <= 1099511627776 -> ∃ (q' : Cu) (x : α), q'.code = code /\ q'.pos <= q.pos + c /\ ok x /\ PC Tryz.prog f (zbb code q) l (zbb code q') [d x]
theorem zfk (code : List UInt8) (n : Int) (h1 : 1 <= n) (hn : n <= 200) : Drw code 16 [.p 0, .d false (iD n)] 1 (fun x : Int => (true, iD x)) (fun x => 0 <= x /\ x < n) := fun q hq hp =>
 ⟨(q.pick n).1, (q.pick n).2, (q.pick_code n).trans hq, (q.pick_pos n).2, q.pick_bd h1, zmt hq (by omega) n hn⟩
theorem zzn (code : List UInt8) (n : Int) (hn : n <= 200) : Drw code 14 [.p 0, .d false (iD n)] 1 (fun b : Bool => (true, bD b)) (fun _ => True) := fun q hq hp =>
 ⟨(q.pick n).1, _, (q.pick_code n).trans hq, (q.pick_pos n).2, trivial, one_k hq (by omega) n hn⟩
theorem amongD (code : List UInt8) (l : List Int) (hl : 1 <= l.length) (hn : l.length <= 200) : Drw code 27 [.p 0, .d true (.one (ze4 l))] 1 (fun x : Int => (true, iD x)) (fun x => x ∈ l) := fun q hq hp => by
 have hb := q.pick_bd (n := l.length) (by omega)
 refine ⟨(ammQ q l).1, (ammQ q l).2, (q.pick_code _).trans hq, (q.pick_pos _).2, ?_, qhm hq (by omega) l hl hn⟩
 have hj : (q.pick l.length).2.toNat < l.length := by omega
 show l.getD (q.pick l.length).2.toNat 0 ∈ l
 rw [List.getD_eq_getElem?_getD, List.getElem?_eq_getElem hj]
 exact List.getElem_mem hj
theorem ofD (code : List UInt8) (l : List Str) (hl : 1 <= l.length) (hn : l.length <= 200) : Drw code 28 [.p 0, .d true (.one (zb6 l))] 1 (fun x : Str => (true, .one (.str x))) (fun x => x ∈ l) := fun q hq hp => by
 have HN := zmt hq (by omega) l.length (by omega)
 have hb := q.pick_bd (n := l.length) (by omega)
 obtain ⟨j, hj⟩ : ∃ j : Nat, (q.pick l.length).2 = j := ⟨(q.pick l.length).2.toNat, by omega⟩
 have hjl : j < l.length := by omega
 refine ⟨(q.pick l.length).1, l[j], (q.pick_code _).trans hq, (q.pick_pos _).2, List.getElem_mem hjl, ?_⟩
 rw [hj] at HN
 refine zbl Tryz.call28 Tryz.func28 rfl (by kernel_rfl) (by simp only [List.length_cons, List.length_nil, Tryz.ntmps28]; omega) (by simp only [Tryz.ntmps28]; omega) rfl rfl (by simp [zar, T.isPin, AF.ds, bxA]) (by simp [gFS, T.fs, T.flat, AF.ds, bxA]) rfl ?_
 simp -implicitDefEqProofs only [go_sem, Tryz.results28]
 refine zaw [5, 1000000] [6, 8] [1000000] [] (HN) (by decide) rfl (by simp -implicitDefEqProofs only [go_sem, hjl, zaf]) (by simp -implicitDefEqProofs only [go_sem, hjl, zaf]) (by simp -implicitDefEqProofs only [go_sem, hjl, zaf]) (by simp -implicitDefEqProofs only [go_sem, hjl, zaf]) ?_
 simp -implicitDefEqProofs only [go_sem, hjl, zaf]
abbrev grL : List Str := [[88], [89], [90], [97], [98], [88], [97]]
structure TmG (t : Tm) (N D : Nat) : Prop where
 nm : t.names = true
 nd : t.nodes <= N
 dp : t.depth <= D
theorem TmG.mono {t : Tm} {N D N' D' : Nat} (h : TmG t N D) (hn : N <= N') (hd : D <= D') : TmG t N' D' := ⟨h.nm, Nat.le_trans h.nd hn, Nat.le_trans h.dp hd⟩
theorem TmG.leaf {s : Str} (h : (Tm.mk s []).names = true) : TmG (.mk s []) 1 1 := ⟨h, by rw [Tm.nodes_eq]; exact Nat.le_refl _, by rw [Tm.depth_eq]; exact Nat.le_refl _⟩
theorem TmG.one {f : Str} {a : Tm} {N D : Nat} (ha : TmG a N D) (hf : za6 f = false /\ zbz f = true) : TmG (.mk f [a]) (N + 1) (D + 1) := by
 refine ⟨?_, ?_, ?_⟩
 ·rw [Tm.names_eq]
  show (if za6 f = true then _ else zbz f && decide ([a].length <= 4) && [a].all Tm.names) = true
  rw [hf.1, if_neg (by simp), hf.2]
  simp [ha.nm]
 ·rw [Tm.nodes_eq]
  show 1 + ([a].map Tm.nodes).sum <= _
  have := ha.nd
  simp only [List.map_cons, List.map_nil, List.sum_cons, List.sum_nil]; omega
 ·rw [Tm.depth_eq]
  show ([a].map Tm.depth).foldl max 0 + 1 <= _
  have := ha.dp
  simp only [List.map_cons, List.map_nil, List.foldl_cons, List.foldl_nil]; omega
theorem TmG.two {f : Str} {a b : Tm} {N D : Nat} (ha : TmG a N D) (hb : TmG b N D) (hf : za6 f = false /\ zbz f = true) : TmG (.mk f [a, b]) (2 * N + 1) (D + 1) := by
 refine ⟨?_, ?_, ?_⟩
 ·rw [Tm.names_eq]
  show (if za6 f = true then _ else zbz f && decide ([a, b].length <= 4) && [a, b].all Tm.names) = true
  rw [hf.1, if_neg (by simp), hf.2]
  simp [ha.nm, hb.nm]
 ·rw [Tm.nodes_eq]
  show 1 + ([a, b].map Tm.nodes).sum <= _
  have := ha.nd
  have := hb.nd
  simp only [List.map_cons, List.map_nil, List.sum_cons, List.sum_nil]; omega
 ·rw [Tm.depth_eq]
  show ([a, b].map Tm.depth).foldl max 0 + 1 <= _
  have := ha.dp
  have := hb.dp
  simp only [List.map_cons, List.map_nil, List.foldl_cons, List.foldl_nil]; omega
theorem zq3 {s : Str} (h : s ∈ grL) : (Tm.mk s []).names = true := (show ∀ s ∈ grL, (Tm.mk s []).names = true by decide) s h
theorem zo7 {l : List Str} (hl : ∀ s ∈ l, s.length <= 8) {s : Str} (h : s ∈ l) : (Tm.mk s []).wt <= 8 := by
 rw [Tm.wt_eq]
 have := hl s h
 simp only [Tm.name, Tm.args, List.length_nil, List.map_nil, List.sum_nil]
 omega
theorem zi8 (code : List UInt8) (d : Int) (hd : d <= 1) (q : Cu) (hq : q.code = code) (hp : q.pos + 1 <= 1099511627776) : ∃ (q' : Cu) (t : Tm), q'.code = code /\ q'.pos <= q.pos + 1 /\ (t.wt <= 8 /\ TmG t 1 1) /\ PC Tryz.prog 65 (zbb code q) [.p 0, .d false (iD d)] (zbb code q') [(true, tmD t)] := by
 obtain ⟨q1, s, c1, p1, o1, H1⟩ := ofD code grL (by simp) (by simp) q hq hp
 refine ⟨q1, .mk s [], c1, p1, ⟨zo7 (by decide) o1, TmG.leaf (zq3 o1)⟩, ?_⟩
 have hd1 : (d <= 1) = True := by simp [hd]
 refine zbl Tryz.call65 Tryz.func65 rfl (by kernel_rfl) (by simp only [List.length_cons, List.length_nil, Tryz.ntmps65]; omega) (by simp only [Tryz.ntmps65]; omega) rfl rfl (by simp [zar, T.isPin, AF.ds, bxA]) (by simp [gFS, T.fs, T.flat, AF.ds, bxA]) rfl ?_
 simp -implicitDefEqProofs only [go_sem, Tryz.results65, hd1]
 refine zay (by simp -implicitDefEqProofs only [go_sem]) ?_
 simp -implicitDefEqProofs only [go_sem]
 refine zaw [4, 1000000] [11, 12] [1000000] [] (H1) (by decide) rfl (by simp -implicitDefEqProofs only [go_sem]) (by simp -implicitDefEqProofs only [go_sem]) (by simp -implicitDefEqProofs only [go_sem]) (by simp -implicitDefEqProofs only [go_sem]) ?_
 simp -implicitDefEqProofs only [go_sem]
 rw [zaa]
 left
 simp -implicitDefEqProofs only [go_sem, Tm.name, Tm.args, List.map_nil]
theorem zjp (code : List UInt8) (k : Nat) (hk : k <= 8) (c W N D : Nat) (hN : 1 <= N) (H : Drw code 65 [.p 0, .d false (iD ((k : Int) + 1))] c (fun t : Tm => (true, tmD t)) (fun t => t.wt <= W /\ TmG t N D)) :
  Drw code 65 [.p 0, .d false (iD ((k : Int) + 2))] (2 * c + 3) (fun t : Tm => (true, tmD t)) (fun t => t.wt <= 2 * W + 8 /\ TmG t (2 * N + 1) (D + 1)) := fun q hq hp => by
 have hd1 : ((k : Int) + 2 <= 1) = False := by simp; omega
 have hw : IntKind.i64.wrap ((k : Int) + 2 - 1) = (k : Int) + 1 := by rw [zbd (by omega) (by omega)]; omega
 obtain ⟨q1, b, c1, p1, _, H1⟩ := zzn code 3 (by omega) q hq (by omega)
 cases b
 ·obtain ⟨q2, b2, c2, p2, _, H2⟩ := zzn code 2 (by omega) q1 c1 (by omega)
  obtain ⟨q3, t3, c3, p3, o3, H3⟩ := H q2 c2 (by omega)
  simp only [tmD, zaa t3] at H3
  cases b2
  ·obtain ⟨q4, t4, c4, p4, o4, H4⟩ := H q3 c3 (by omega)
   simp only [tmD, zaa t4] at H4
   refine ⟨q4, .mk [103] [t3, t4], c4, by omega, ?_, ?_⟩
   ·refine ⟨?_, TmG.two o3.2 o4.2 (by decide)⟩
    show (Tm.mk [103] [t3, t4]).wt <= 2 * W + 8
    rw [Tm.wt_eq]
    simp only [Tm.name, Tm.args, List.length_cons, List.length_nil, List.map_cons, List.map_nil, List.sum_cons, List.sum_nil]
    omega
   ·refine zbl Tryz.call65 Tryz.func65 rfl (by kernel_rfl) (by simp only [List.length_cons, List.length_nil, Tryz.ntmps65]; omega) (by simp only [Tryz.ntmps65]; omega) rfl rfl (by simp [zar, T.isPin, AF.ds, bxA]) (by simp [gFS, T.fs, T.flat, AF.ds, bxA]) rfl ?_
    simp -implicitDefEqProofs only [go_sem, Tryz.results65, hd1]
    refine zaw [0, 1, 4, 7, 1000000] [8] [1000000] [] (H1) (by decide) rfl (by simp -implicitDefEqProofs only [go_sem]) (by simp -implicitDefEqProofs only [go_sem]) (by simp -implicitDefEqProofs only [go_sem]) (by simp -implicitDefEqProofs only [go_sem]) ?_
    simp -implicitDefEqProofs only [go_sem]
    refine zaw [0, 1, 4, 1000000] [15] [1000000] [] (H2) (by decide) rfl (by simp -implicitDefEqProofs only [go_sem]) (by simp -implicitDefEqProofs only [go_sem]) (by simp -implicitDefEqProofs only [go_sem]) (by simp -implicitDefEqProofs only [go_sem]) ?_
    simp -implicitDefEqProofs only [go_sem]
    rw [hw]
    refine zaw [0, 1, 4, 1000000] [23, 25] [1000000] [] (H3) (by decide) rfl (by simp -implicitDefEqProofs only [go_sem]) (by simp -implicitDefEqProofs only [go_sem]) (by simp -implicitDefEqProofs only [go_sem]) (by simp -implicitDefEqProofs only [go_sem]) ?_
    simp -implicitDefEqProofs only [go_sem]
    rw [hw]
    refine zaw [4, 26, 1000000] [27, 29] [1000000] [] (H4) (by decide) rfl (by simp -implicitDefEqProofs only [go_sem]) (by simp -implicitDefEqProofs only [go_sem]) (by simp -implicitDefEqProofs only [go_sem]) (by simp -implicitDefEqProofs only [go_sem]) ?_
    simp -implicitDefEqProofs only [go_sem]
    refine zay (by simp -implicitDefEqProofs only [go_sem]) ?_
    simp -implicitDefEqProofs only [go_sem]
    rw [zaa (.mk [103] [t3, t4])]
    left
    simp -implicitDefEqProofs only [go_sem, Tm.name, Tm.args, List.map_cons, List.map_nil, zaa t3, zaa t4]
  ·refine ⟨q3, .mk [102] [t3], c3, by omega, ?_, ?_⟩
   ·refine ⟨?_, (TmG.one o3.2 (by decide)).mono (by omega) (Nat.le_refl _)⟩
    show (Tm.mk [102] [t3]).wt <= 2 * W + 8
    rw [Tm.wt_eq]
    simp only [Tm.name, Tm.args, List.length_cons, List.length_nil, List.map_cons, List.map_nil, List.sum_cons, List.sum_nil]
    omega
   ·refine zbl Tryz.call65 Tryz.func65 rfl (by kernel_rfl) (by simp only [List.length_cons, List.length_nil, Tryz.ntmps65]; omega) (by simp only [Tryz.ntmps65]; omega) rfl rfl (by simp [zar, T.isPin, AF.ds, bxA]) (by simp [gFS, T.fs, T.flat, AF.ds, bxA]) rfl ?_
    simp -implicitDefEqProofs only [go_sem, Tryz.results65, hd1]
    refine zaw [0, 1, 4, 7, 1000000] [8] [1000000] [] (H1) (by decide) rfl (by simp -implicitDefEqProofs only [go_sem]) (by simp -implicitDefEqProofs only [go_sem]) (by simp -implicitDefEqProofs only [go_sem]) (by simp -implicitDefEqProofs only [go_sem]) ?_
    simp -implicitDefEqProofs only [go_sem]
    refine zaw [0, 1, 4, 1000000] [15] [1000000] [] (H2) (by decide) rfl (by simp -implicitDefEqProofs only [go_sem]) (by simp -implicitDefEqProofs only [go_sem]) (by simp -implicitDefEqProofs only [go_sem]) (by simp -implicitDefEqProofs only [go_sem]) ?_
    simp -implicitDefEqProofs only [go_sem]
    rw [hw]
    refine zaw [4, 1000000] [17, 19] [1000000] [] (H3) (by decide) rfl (by simp -implicitDefEqProofs only [go_sem]) (by simp -implicitDefEqProofs only [go_sem]) (by simp -implicitDefEqProofs only [go_sem]) (by simp -implicitDefEqProofs only [go_sem]) ?_
    simp -implicitDefEqProofs only [go_sem]
    refine zay (by simp -implicitDefEqProofs only [go_sem]) ?_
    simp -implicitDefEqProofs only [go_sem]
    rw [zaa (.mk [102] [t3])]
    left
    simp -implicitDefEqProofs only [go_sem, Tm.name, Tm.args, List.map_cons, List.map_nil, zaa t3]
 ·obtain ⟨q2, s, c2, p2, o2, H2⟩ := ofD code grL (by simp) (by simp) q1 c1 (by omega)
  refine ⟨q2, .mk s [], c2, by omega, ⟨Nat.le_trans (zo7 (by decide) o2) (by omega), (TmG.leaf (zq3 o2)).mono (by omega) (by omega)⟩, ?_⟩
  refine zbl Tryz.call65 Tryz.func65 rfl (by kernel_rfl) (by simp only [List.length_cons, List.length_nil, Tryz.ntmps65]; omega) (by simp only [Tryz.ntmps65]; omega) rfl rfl (by simp [zar, T.isPin, AF.ds, bxA]) (by simp [gFS, T.fs, T.flat, AF.ds, bxA]) rfl ?_
  simp -implicitDefEqProofs only [go_sem, Tryz.results65, hd1]
  refine zaw [0, 1, 4, 7, 1000000] [8] [1000000] [] (H1) (by decide) rfl (by simp -implicitDefEqProofs only [go_sem]) (by simp -implicitDefEqProofs only [go_sem]) (by simp -implicitDefEqProofs only [go_sem]) (by simp -implicitDefEqProofs only [go_sem]) ?_
  simp -implicitDefEqProofs only [go_sem]
  refine zay (by simp -implicitDefEqProofs only [go_sem]) ?_
  simp -implicitDefEqProofs only [go_sem]
  refine zaw [4, 1000000] [11, 12] [1000000] [] (H2) (by decide) rfl (by simp -implicitDefEqProofs only [go_sem]) (by simp -implicitDefEqProofs only [go_sem]) (by simp -implicitDefEqProofs only [go_sem]) (by simp -implicitDefEqProofs only [go_sem]) ?_
  simp -implicitDefEqProofs only [go_sem]
  rw [zaa]
  left
  simp -implicitDefEqProofs only [go_sem, Tm.name, Tm.args, List.map_nil]
theorem Drw.mono {α : Type} {code : List UInt8} {f : FuncId} {l : List AF} {c c' : Nat} {d : α -> Bool × D} {ok ok' : α -> Prop} (h : Drw code f l c d ok) (hc : c <= c') (ho : ∀ x, ok x -> ok' x) : Drw code f l c' d ok' := fun q hq hp => by
 obtain ⟨q', x, c1, p1, o1, H⟩ := h q hq (by omega)
 exact ⟨q', x, c1, by omega, ho x o1, H⟩
theorem zqm (code : List UInt8) (d : Int) (hd : d <= 3) : Drw code 65 [.p 0, .d false (iD d)] 13 (fun t : Tm => (true, tmD t)) (fun t => t.wt <= 56 /\ TmG t 7 3) := by
 have g1 : Drw code 65 [.p 0, .d false (iD (((0 : Nat) : Int) + 1))] 1 (fun t : Tm => (true, tmD t)) (fun t => t.wt <= 8 /\ TmG t 1 1) := fun q hq hp => zi8 code _ (by omega) q hq hp
 have g2 := zjp code 0 (by omega) 1 8 1 1 (by omega) g1
 have g3 := zjp code 1 (by omega) 5 24 3 2 (by omega) g2
 by_cases h1 : d <= 1
 ·exact Drw.mono (fun q hq hp => zi8 code d h1 q hq hp) (c := 1) (ok := fun t => t.wt <= 8 /\ TmG t 1 1) (by omega) fun x h => ⟨by omega, h.2.mono (by omega) (by omega)⟩
 ·by_cases h2 : d = 2
  ·subst h2
   exact g2.mono (by omega) fun x h => ⟨by omega, h.2.mono (by omega) (by omega)⟩
  ·have h3 : d = 3 := by omega
   subst h3
   exact g3.mono (by omega) fun x h => ⟨by omega, h.2⟩
theorem zf8 (code : List UInt8) : Drw code 29 [.p 0] 14 (fun t : Tm => (true, tmD t)) (fun t => t.wt <= 56 /\ TmG t 7 3) := fun q hq hp => by
 obtain ⟨q1, x, c1, p1, o1, H1⟩ := zfk code 3 (by omega) (by omega) q hq (by omega)
 obtain ⟨q2, t, c2, p2, o2, H2⟩ := zqm code (1 + x) (by omega) q1 c1 (by omega)
 have hw : IntKind.i64.wrap (1 + x) = 1 + x := zbd (by omega) (by omega)
 simp only [tmD, zaa t] at H2
 refine ⟨q2, t, c2, by omega, o2, ?_⟩
 simp only [tmD, zaa t]
 refine zbl Tryz.call29 Tryz.func29 rfl (by kernel_rfl) (by simp only [List.length_cons, List.length_nil, Tryz.ntmps29]; omega) (by simp only [Tryz.ntmps29]; omega) rfl rfl (by simp [zar, T.isPin, AF.ds, bxA]) (by simp [gFS, T.fs, T.flat, AF.ds, bxA]) rfl ?_
 simp -implicitDefEqProofs only [go_sem, Tryz.results29]
 refine zaw [2, 3, 1000000] [4] [1000000] [] (H1) (by decide) rfl (by simp -implicitDefEqProofs only [go_sem]) (by simp -implicitDefEqProofs only [go_sem]) (by simp -implicitDefEqProofs only [go_sem]) (by simp -implicitDefEqProofs only [go_sem]) ?_
 simp -implicitDefEqProofs only [go_sem]
 rw [hw]
 refine zaw [2, 1000000] [3, 6] [1000000] [] (H2) (by decide) rfl (by simp -implicitDefEqProofs only [go_sem]) (by simp -implicitDefEqProofs only [go_sem]) (by simp -implicitDefEqProofs only [go_sem]) (by simp -implicitDefEqProofs only [go_sem]) ?_
 simp -implicitDefEqProofs only [go_sem]
end Go.Proofs.YtaaniggpnljckaaGreat
namespace Go.Proofs.YtaaniggpnljckaaGreat
set_option linter.unusedSimpArgs false
set_option linter.unusedVariables false
set_option linter.unusedSectionVars false
set_option maxRecDepth 4000
open Go.RowKit
theorem zce (n : Str) (xs : List Tm) : (Tm.mk n xs).wt = n.length + xs.length + (xs.map Tm.wt).sum := Tm.wt_eq _
theorem atEq {a b : Tm} (ha : TmG a 7 3) (hb : TmG b 7 3) : (Tm.mk [61] [a, b]).atomOk = true := by
 have hs : zdb (.mk [61] [a, b]) = true := by
  unfold zdb
  rw [Bool.and_eq_true, decide_eq_true_eq, decide_eq_true_eq, Tm.nodes_eq, Tm.depth_eq]
  show 1 + ([a, b].map Tm.nodes).sum <= 30 /\ ([a, b].map Tm.depth).foldl max 0 + 1 <= 8
  have := ha.nd
  have := hb.nd
  have := ha.dp
  have := hb.dp
  simp only [List.map_cons, List.map_nil, List.sum_cons, List.sum_nil, List.foldl_cons, List.foldl_nil]; omega
 show (if ([61] == ([61] : Str)) = true then decide ([a, b].length = 2) && zdb (.mk [61] [a, b]) && [a, b].all Tm.names else _) = true
 rw [if_pos (show ([61] == ([61] : Str)) = true from rfl), hs]
 simp [ha.nm, hb.nm]
theorem TmG.good {t : Tm} {N D : Nat} (h : TmG t N D) (hN : N <= 30) (hD : D <= 8) : t.good = true := by
 unfold Tm.good zdb
 rw [h.nm, decide_eq_true (Nat.le_trans h.nd hN), decide_eq_true (Nat.le_trans h.dp hD)]; rfl
theorem atSym {t : Tm} {N D : Nat} (h : TmG t N D) (hs : (t.name == [61]) = false /\ zbz t.name = true) (hN : N <= 30) (hD : D <= 8) : t.atomOk = true := by
 unfold Tm.atomOk
 rw [hs.1, if_neg (by simp), hs.2, h.good hN hD]; rfl
theorem atomD (code : List UInt8) : Drw code 53 [.p 0] 30 (fun t : Tm => (true, tmD t)) (fun t => t.wt <= 200 /\ t.atomOk = true) := fun q hq hp => by
 obtain ⟨q1, x, c1, p1, o1, H1⟩ := zfk code 8 (by omega) (by omega) q hq (by omega)
 by_cases hx : x = 0 \/ x = 1
 ·obtain ⟨q2, a, c2, p2, o2, H2⟩ := zf8 code q1 c1 (by omega)
  obtain ⟨q3, b, c3, p3, o3, H3⟩ := zf8 code q2 c2 (by omega)
  simp only [tmD, zaa a] at H2
  simp only [tmD, zaa b] at H3
  refine ⟨q3, .mk [61] [a, b], c3, by omega, ?_, ?_⟩
  ·refine ⟨?_, atEq o2.2 o3.2⟩
   show (Tm.mk [61] [a, b]).wt <= 200
   rw [zce]
   simp only [List.length_cons, List.length_nil, List.map_cons, List.map_nil, List.sum_cons, List.sum_nil]
   omega
  rcases hx with rfl | rfl
  all_goals
   refine zbl Tryz.call53 Tryz.func53 rfl (by kernel_rfl) (by simp only [List.length_cons, List.length_nil, Tryz.ntmps53]; omega) (by simp only [Tryz.ntmps53]; omega) rfl rfl (by simp [zar, T.isPin, AF.ds, bxA]) (by simp [gFS, T.fs, T.flat, AF.ds, bxA]) rfl ?_
   simp -implicitDefEqProofs only [go_sem, Tryz.results53]
   refine zaw [0, 2, 1000000] [3] [1000000] [] (H1) (by decide) rfl (by simp -implicitDefEqProofs only [go_sem]) (by simp -implicitDefEqProofs only [go_sem]) (by simp -implicitDefEqProofs only [go_sem]) (by simp -implicitDefEqProofs only [go_sem]) ?_
   simp -implicitDefEqProofs only [go_sem]
   refine zaw [0, 2, 1000000] [8] [1000000] [] (H2) (by decide) rfl (by simp -implicitDefEqProofs only [go_sem]) (by simp -implicitDefEqProofs only [go_sem]) (by simp -implicitDefEqProofs only [go_sem]) (by simp -implicitDefEqProofs only [go_sem]) ?_
   simp -implicitDefEqProofs only [go_sem]
   refine zaw [2, 9, 1000000] [10] [1000000] [] (H3) (by decide) rfl (by simp -implicitDefEqProofs only [go_sem]) (by simp -implicitDefEqProofs only [go_sem]) (by simp -implicitDefEqProofs only [go_sem]) (by simp -implicitDefEqProofs only [go_sem]) ?_
   simp -implicitDefEqProofs only [go_sem]
   refine zay (by simp -implicitDefEqProofs only [go_sem]) ?_
   simp -implicitDefEqProofs only [go_sem]
   rw [zaa (.mk [61] [a, b])]
   left
   simp -implicitDefEqProofs only [go_sem, Tm.name, Tm.args, List.map_cons, List.map_nil, zaa a, zaa b]
 ·by_cases hx2 : x = 2
  ·subst hx2
   refine ⟨q1, .mk [114] [], c1, by omega, ?_, ?_⟩
   ·refine ⟨?_, by decide⟩
    show (Tm.mk [114] []).wt <= 200
    rw [zce]; simp
   refine zbl Tryz.call53 Tryz.func53 rfl (by kernel_rfl) (by simp only [List.length_cons, List.length_nil, Tryz.ntmps53]; omega) (by simp only [Tryz.ntmps53]; omega) rfl rfl (by simp [zar, T.isPin, AF.ds, bxA]) (by simp [gFS, T.fs, T.flat, AF.ds, bxA]) rfl ?_
   simp -implicitDefEqProofs only [go_sem, Tryz.results53]
   refine zaw [0, 2, 1000000] [3] [1000000] [] (H1) (by decide) rfl (by simp -implicitDefEqProofs only [go_sem]) (by simp -implicitDefEqProofs only [go_sem]) (by simp -implicitDefEqProofs only [go_sem]) (by simp -implicitDefEqProofs only [go_sem]) ?_
   simp -implicitDefEqProofs only [go_sem]
   rw [zaa (.mk [114] [])]
   left
   simp -implicitDefEqProofs only [go_sem, Tm.name, Tm.args, List.map_cons, List.map_nil]
  ·by_cases hx3 : x = 3 \/ x = 4
   ·obtain ⟨q2, a, c2, p2, o2, H2⟩ := zqm code 2 (by omega) q1 c1 (by omega)
    obtain ⟨q3, b, c3, p3, o3, H3⟩ := zqm code 2 (by omega) q2 c2 (by omega)
    simp only [tmD, zaa a] at H2
    simp only [tmD, zaa b] at H3
    refine ⟨q3, .mk [113] [a, b], c3, by omega, ?_, ?_⟩
    ·refine ⟨?_, atSym (TmG.two o2.2 o3.2 (by decide)) ⟨rfl, (by decide : zbz [113] = true)⟩ (by omega) (by omega)⟩
     show (Tm.mk [113] [a, b]).wt <= 200
     rw [zce]
     simp only [List.length_cons, List.length_nil, List.map_cons, List.map_nil, List.sum_cons, List.sum_nil]
     omega
    rcases hx3 with rfl | rfl
    all_goals
     refine zbl Tryz.call53 Tryz.func53 rfl (by kernel_rfl) (by simp only [List.length_cons, List.length_nil, Tryz.ntmps53]; omega) (by simp only [Tryz.ntmps53]; omega) rfl rfl (by simp [zar, T.isPin, AF.ds, bxA]) (by simp [gFS, T.fs, T.flat, AF.ds, bxA]) rfl ?_
     simp -implicitDefEqProofs only [go_sem, Tryz.results53]
     refine zaw [0, 2, 1000000] [3] [1000000] [] (H1) (by decide) rfl (by simp -implicitDefEqProofs only [go_sem]) (by simp -implicitDefEqProofs only [go_sem]) (by simp -implicitDefEqProofs only [go_sem]) (by simp -implicitDefEqProofs only [go_sem]) ?_
     simp -implicitDefEqProofs only [go_sem]
     refine zaw [0, 2, 1000000] [20] [1000000] [] (H2) (by decide) rfl (by simp -implicitDefEqProofs only [go_sem]) (by simp -implicitDefEqProofs only [go_sem]) (by simp -implicitDefEqProofs only [go_sem]) (by simp -implicitDefEqProofs only [go_sem]) ?_
     simp -implicitDefEqProofs only [go_sem]
     refine zaw [2, 21, 1000000] [22] [1000000] [] (H3) (by decide) rfl (by simp -implicitDefEqProofs only [go_sem]) (by simp -implicitDefEqProofs only [go_sem]) (by simp -implicitDefEqProofs only [go_sem]) (by simp -implicitDefEqProofs only [go_sem]) ?_
     simp -implicitDefEqProofs only [go_sem]
     refine zay (by simp -implicitDefEqProofs only [go_sem]) ?_
     simp -implicitDefEqProofs only [go_sem]
     rw [zaa (.mk [113] [a, b])]
     left
     simp -implicitDefEqProofs only [go_sem, Tm.name, Tm.args, List.map_cons, List.map_nil, zaa a, zaa b]
   ·obtain ⟨q2, a, c2, p2, o2, H2⟩ := zqm code 2 (by omega) q1 c1 (by omega)
    simp only [tmD, zaa a] at H2
    refine ⟨q2, .mk [112] [a], c2, by omega, ?_, ?_⟩
    ·refine ⟨?_, atSym (TmG.one o2.2 (by decide)) ⟨rfl, (by decide : zbz [112] = true)⟩ (by omega) (by omega)⟩
     show (Tm.mk [112] [a]).wt <= 200
     rw [zce]
     simp only [List.length_cons, List.length_nil, List.map_cons, List.map_nil, List.sum_cons, List.sum_nil]
     omega
    have e0 : (x == 0) = false := by rw [beq_eq_false_iff_ne]; omega
    have e1 : (x == 1) = false := by rw [beq_eq_false_iff_ne]; omega
    have e2 : (x == 2) = false := by rw [beq_eq_false_iff_ne]; omega
    have e3 : (x == 3) = false := by rw [beq_eq_false_iff_ne]; omega
    have e4 : (x == 4) = false := by rw [beq_eq_false_iff_ne]; omega
    refine zbl Tryz.call53 Tryz.func53 rfl (by kernel_rfl) (by simp only [List.length_cons, List.length_nil, Tryz.ntmps53]; omega) (by simp only [Tryz.ntmps53]; omega) rfl rfl (by simp [zar, T.isPin, AF.ds, bxA]) (by simp [gFS, T.fs, T.flat, AF.ds, bxA]) rfl ?_
    simp -implicitDefEqProofs only [go_sem, Tryz.results53]
    refine zaw [0, 2, 1000000] [3] [1000000] [] (H1) (by decide) rfl (by simp -implicitDefEqProofs only [go_sem, e0, e1, e2, e3, e4]) (by simp -implicitDefEqProofs only [go_sem, e0, e1, e2, e3, e4]) (by simp -implicitDefEqProofs only [go_sem, e0, e1, e2, e3, e4]) (by simp -implicitDefEqProofs only [go_sem, e0, e1, e2, e3, e4]) ?_
    simp -implicitDefEqProofs only [go_sem, e0, e1, e2, e3, e4]
    refine zaw [2, 1000000] [26] [1000000] [] (H2) (by decide) rfl (by simp -implicitDefEqProofs only [go_sem]) (by simp -implicitDefEqProofs only [go_sem]) (by simp -implicitDefEqProofs only [go_sem]) (by simp -implicitDefEqProofs only [go_sem]) ?_
    simp -implicitDefEqProofs only [go_sem]
    refine zay (by simp -implicitDefEqProofs only [go_sem]) ?_
    simp -implicitDefEqProofs only [go_sem]
    rw [zaa (.mk [112] [a])]
    left
    simp -implicitDefEqProofs only [go_sem, Tm.name, Tm.args, List.map_cons, List.map_nil, zaa a]
def twT (t : Tm) : Nat -> Tm
 | 0 => t
 | k + 1 => .mk [102] [twT t k]
theorem qel (t : Tm) : ∀ k : Nat, (twT t k).wt = t.wt + 2 * k
 | 0 => rfl
 | k + 1 => by
  show (Tm.mk [102] [twT t k]).wt = _
  rw [zce, List.map_cons, List.map_nil, List.sum_cons, List.sum_nil, qel t k]
  simp only [List.length_cons, List.length_nil]; omega
abbrev twL : List Str := [[88], [97]]
def twS (code : List UInt8) (q : Cu) (s : Str) (n : Nat) : Nat -> St
 | 0 => hd [(1, vI n), (4, .one (.bx 4 0)), (5, .one (.bx 5 0)), (1000000, .one (.bx 1000000 0))] [(4, [.t (.str []), .nl 2]), (5, [.t (.str s), .nl 2]), (1000000, [.rn (zi7 code), .t (.int .i64 q.pos), .t (.int .u64 q.seed)])] []
 | k + 1 => hd [(1, .one (.t (.int .i64 ((n : Int) - (k + 1))))), (4, .one (.bx 4 0)), (5, .one (.bx 5 0)), (1000000, .one (.bx 1000000 0))] [(4, [.t (.str []), .nl 2]), (5, [.t (.str [102]), .ow 5000 0]), (1000000, [.rn (zi7 code), .t (.int .i64 q.pos), .t (.int .u64 q.seed)])] [(5000, ⟨true, 2, [tmC (twT (.mk s []) k)], 0, true⟩)]
theorem towerD (code : List UInt8) (n : Nat) (hn : n <= 20) : Drw code 102 [.p 0, .d false (iD (n : Int))] 1 (fun t : Tm => (true, tmD t)) (fun t => t.wt <= 60) := fun q hq hp => by
 obtain ⟨q1, s, c1, p1, o1, H1⟩ := ofD code twL (by simp) (by simp) q hq hp
 refine ⟨q1, twT (.mk s []) (n - 1), c1, p1, ?_, ?_⟩
 ·show (twT (.mk s []) (n - 1)).wt <= 60
  rw [qel]
  have := zo7 (l := twL) (by decide) o1
  omega
 refine zbl Tryz.call102 Tryz.func102 rfl (by kernel_rfl) (by simp only [List.length_cons, List.length_nil, Tryz.ntmps102]; omega) (by simp only [Tryz.ntmps102]; omega) rfl rfl (by simp [zar, T.isPin, AF.ds, bxA]) (by simp [gFS, T.fs, T.flat, AF.ds, bxA]) rfl ?_
 simp -implicitDefEqProofs only [go_sem, Tryz.results102]
 refine zay (by simp -implicitDefEqProofs only [go_sem]) ?_
 simp -implicitDefEqProofs only [go_sem]
 refine zaw [1, 4, 1000000] [6, 7] [1000000] [] (H1) (by decide) rfl (by simp -implicitDefEqProofs only [go_sem]) (by simp -implicitDefEqProofs only [go_sem]) (by simp -implicitDefEqProofs only [go_sem]) (by simp -implicitDefEqProofs only [go_sem]) ?_
 simp -implicitDefEqProofs only [go_sem]
 refine zaj (twS code q1 s n) (fun k => k <= n - 1) (fun k => n - k) 0 (zab ?_) (Nat.zero_le _) ?_
 ·simp -implicitDefEqProofs only [go_sem]
 ·intro k hk
  by_cases hlt : k + 1 < n
  ·cases k with
   | zero =>
    have h0 : (1 < (n : Int)) = True := by simp; omega
    have hwk : IntKind.i64.wrap ((n : Int) - 1) = (n : Int) - 1 := zbd (by omega) (by omega)
    show ex _ _ _ _ (hd _ _ _)
    simp -implicitDefEqProofs only [go_sem, h0]
    refine zay (by simp -implicitDefEqProofs only [go_sem]) ?_
    simp -implicitDefEqProofs only [go_sem]
    rw [hwk]
    refine ⟨1, by omega, by omega, zc7 480 5000 ?_⟩
    simp -implicitDefEqProofs only [go_sem]
    rw [show twT (.mk s []) 0 = .mk s [] from rfl, zaa (.mk s [])]; rfl
   | succ k =>
    have h0 : (1 < (n : Int) - ((k : Int) + 1)) = True := by simp; omega
    have hwk : IntKind.i64.wrap ((n : Int) - ((k : Int) + 1) - 1) = (n : Int) - ((k : Int) + 1 + 1) := by rw [zbd (by omega) (by omega)]; omega
    show ex _ _ _ _ (hd _ _ _)
    simp -implicitDefEqProofs only [go_sem, h0]
    refine zay (by simp -implicitDefEqProofs only [go_sem]) ?_
    simp -implicitDefEqProofs only [go_sem]
    rw [hwk]
    refine ⟨k + 2, by omega, by omega, zc7 480 5000 ?_⟩
    simp -implicitDefEqProofs only [go_sem]
    rw [show twT (.mk s []) (k + 1) = .mk [102] [twT (.mk s []) k] from rfl, zaa (.mk [102] [twT (.mk s []) k]), show ((k + 1 : Nat) : Int) = (k : Int) + 1 by omega]
    exact ⟨rfl, rfl⟩
  ·cases k with
   | zero =>
    have h0 : (1 < (n : Int)) = False := by simp; omega
    have e : n - 1 = 0 := by omega
    rw [e]
    show ex _ _ _ _ (hd _ _ _)
    simp -implicitDefEqProofs only [go_sem, h0]
    rw [show twT (.mk s []) 0 = .mk s [] from rfl, zaa (.mk s [])]
    left
    simp -implicitDefEqProofs only [go_sem, Tm.name, Tm.args, List.map_nil]
   | succ k =>
    have h0 : (1 < (n : Int) - ((k : Int) + 1)) = False := by simp; omega
    have e : n - 1 = k + 1 := by omega
    rw [e]
    show ex _ _ _ _ (hd _ _ _)
    simp -implicitDefEqProofs only [go_sem, h0]
    rw [show twT (.mk s []) (k + 1) = .mk [102] [twT (.mk s []) k] from rfl, zaa (.mk [102] [twT (.mk s []) k])]
    left
    simp -implicitDefEqProofs only [go_sem, Tm.name, Tm.args, List.map_cons, List.map_nil]
end Go.Proofs.YtaaniggpnljckaaGreat
namespace Go.Proofs.YtaaniggpnljckaaGreat
set_option linter.unusedSimpArgs false
set_option linter.unusedVariables false
set_option linter.unusedSectionVars false
set_option maxRecDepth 4000
open Go.RowKit
variable {P : Program}
theorem zjn {sz : Nat} : ∀ {rows : List (List T)} (k : Nat), lens sz rows -> (rows.take k).flatten = rows.flatten.take (k * sz)
 | [], k, _ => by simp
 | r :: rs, 0, _ => by simp
 | r :: rs, k + 1, h => by
  have h1 := h r (by simp)
  rw [List.take_succ_cons, List.flatten_cons, List.flatten_cons, zjn k fun y hy => h y (by simp [hy]), show (k + 1) * sz = r.length + k * sz by rw [h1, Nat.add_mul]; omega, List.take_length_add_append]
theorem zzr {σ : St} {K : St -> Prop} {d : Nat} {t el : TypeId} {x hi : Operand} {ty : TypeId} {ps : String} {af : Array Edge} {e gn sz k : Nat} {rows : List (List T)} {kk : IntKind} (s1 : σ.get P t x = .one (.ow e gn)) (s2 : σ.get P 0 hi = .one (.t (.int kk k))) (he : σ.ev e = some ⟨true, sz, rows, gn, true⟩)
  (hkl : k <= rows.length) (hk0 : 0 < rows.length) (hel : elT P t = some el) (hsz : zbc P el = some sz) (hK : K ((σ.apd e [] ⟨true, sz, rows.take k, gn + 1, true⟩).put (some d) (.one (.ow e (gn + 1))))) : za9 P ⟨some d, .slice t x none (some hi) none, ty, ps, af, none⟩ σ K := by
 intro n0 N g a w hR hn hdN
 have v1 := hR.get P t x
 rw [s1] at v1
 obtain ⟨v1, -⟩ := v1
 obtain ⟨vs0, fps, top, hT⟩ := hR.tgt he rfl
 have hlens := hT.lens
 simp only at hlens
 rcases hT.val with ⟨_, hh, _⟩ | ⟨b, cap, cells, cty, w1, w2, w3, w4, w5, w6, w7⟩
 ·simp only at hh; rw [hh] at hk0; simp at hk0
 simp only at w1 w2 w5 w6
 have hown := hT.own rfl
 simp only at hown
 have hl2 : lens sz (rows.take k) := fun r hr => hlens r (List.mem_of_mem_take hr)
 rw [<- List.take_append_drop (k * sz) rows.flatten, <- zjn k hlens] at hown
 obtain ⟨u1, u2, f1, f2, hu, hf, k1, k2⟩ := hown.split
 have hnd : (b :: f1).Nodup := List.nodup_cons.2 ⟨fun hb => hT.topfp b w7.symm (by rw [hf]; exact List.mem_append_left _ hb), (List.nodup_append.1 (hf ▸ hT.nodup)).1⟩
 have hbn := zcg (P := P) (low := none) (high := some hi) (len := rows.length) (cap := cap) hR true (l := 0) (u := (k : Int)) rfl (by simp only [ziv, s2]) (by omega) (by omega) (by omega) w2
 have hun : P.underlying t = some (.slice el) := zdn hel
 have e0 : (execOp a.eval ⟨some d, .slice t x none (some hi) none, ty, ps, af, none⟩).run P w = .ok (.value (.slice (some ⟨b, 0, none⟩) k cap)) w := by
  unfold execOp
  have hcp : ¬ cap = 0 := by omega
  rw [Int.toNat_natCast, show ((0 : Int).toNat) = 0 from rfl, Option.map_some, Option.map_none] at hbn
  simp only [Instr.sliceAt, Instr.slice, Sem.run_bind, run_underlying hun, Result.andThen, v1, w1, Option.map_some, Option.map_none, hbn, zbo hsz, Sem.run_pure]
  rw [if_neg hcp]
  simp only [Addr.add]
  congr 2
  simp
 unfold Oper.wp
 rw [e0]
 have hTl : (rows.take k).length = k := by rw [List.length_take]; omega
 have hR' := hR.apd_fin (w' := w) (y := ⟨true, sz, rows.take k, gn + 1, true⟩) (v' := .slice (some ⟨b, 0, none⟩) k cap) (fp' := b :: f1) (fps2 := []) hT rfl (fun m hm => by
   obtain ⟨q, hq, hmq⟩ := hm
   rw [he, Option.some.injEq] at hq
   subst hq
   simp only at hmq ⊢
   exact ⟨by omega, fun em => by omega⟩) (cons := []) (fun p hp => by simp at hp) (fun b hb => by simp at hb) b (Or.inl w7.symm) (fun k _ _ => rfl) (Nat.le_refl _) hn hnd (fun c hc => by
   rcases List.mem_cons.1 hc with h | h
   ·exact Or.inl h
   ·exact Or.inr (Or.inl (by rw [hf]; exact List.mem_append_left _ h))) (fun c hc => by simpa using hc.symm) fun A' hA' => by
  refine ⟨some ⟨b, 0, none⟩, cap, by simp only [hTl], by simp only [hTl]; omega, w3, Or.inr ⟨b, cells, cty, f1, rfl, rfl, w4, w5, ?_⟩⟩
  simp only [if_true]
  refine zag.of_vals hl2 k1 fun j u hj => ?_
  have hju : vs0[j]? = some u := by rw [hu, List.getElem?_append_left (List.getElem?_eq_some_iff.1 hj).1]; exact hj
  have hc : cells.toList[j]? = some u := by
   rw [<- w6, List.getElem?_take] at hju
   split at hju
   ·exact hju
   ·cases hju
  rw [Nat.zero_add]
  simpa using hc
 have hE : (σ.apd e [] ⟨true, sz, rows.take k, gn + 1, true⟩).ev e = some ⟨true, sz, rows.take k, gn + 1, true⟩ := by simp [St.apd, zac]
 exact ⟨_, _, hK, hR'.put (some d) (x := .one (.ow e (gn + 1))) (v := .slice (some ⟨b, 0, none⟩) k cap) ⟨by simp only [zac], _, hE, Nat.le_refl _⟩ (fun j hj => hdN j hj), Bk.refl _ _, rfl, rfl⟩
def ctM (P : Program) (t : TypeId) (x hi : Operand) (d : Nat) (K : St -> Prop) (σ : St) : Prop := match σ.get P t x, σ.get P 0 hi with
 | .one (.ow e gn), .one (.t (.int _ k)) => zam (σ.ev e) fun y => y.gen = gn /\ y.deep = true /\ y.on = true /\ (0 <= k /\ k <= y.rows.length /\ 0 < y.rows.length) /\ (elT P t).bind (zbc P) = some y.sz /\ K ((σ.apd e [] ⟨true, y.sz, y.rows.take k.toNat, gn + 1, true⟩).put (some d) (.one (.ow e (gn + 1))))
 | _, _ => False
theorem cutF {ks : List Fr} {Q : Exit -> St -> Prop} {σ : St} {ops : Array Oper} {os : List Oper} {d : Nat} {t : TypeId} {x hi : Operand} {ty : TypeId} {ps : String} {af : Array Edge} (k : ctM P t x hi d (exo P ops os ks Q) σ) : ztq P ops ⟨some d, .slice t x none (some hi) none, ty, ps, af, none⟩ os ks Q σ := by
 unfold ctM at k
 split at k
 ·rename_i e gn kk k' s1 s2
  obtain ⟨y, he, h3⟩ := zal k
  obtain ⟨dp, sz, rows, g', on⟩ := y
  obtain ⟨rfl, rfl, rfl, ⟨h0, hl, hl0⟩, hsz, hK⟩ := h3
  simp only at hl hl0 hsz hK
  obtain ⟨kn, rfl⟩ : ∃ kn : Nat, k' = kn := ⟨k'.toNat, by omega⟩
  obtain ⟨el, hel, hse⟩ := Option.bind_eq_some_iff.1 hsz
  rw [Int.toNat_natCast] at hK
  exact zzr s1 s2 he (by omega) hl0 hel hse hK
 ·exact k.elim
attribute [go_sem] ctM
end Go.Proofs.YtaaniggpnljckaaGreat
namespace Go.Proofs.YtaaniggpnljckaaGreat
set_option linter.unusedSimpArgs false
set_option linter.unusedVariables false
set_option linter.unusedSectionVars false
set_option maxRecDepth 4000
open Go.RowKit
def fa : Tm := .mk [102] [.mk [97] []]
def fb : Tm := .mk [102] [.mk [98] []]
def hpt (k : Nat) : Tm := .mk [104] (List.replicate k fa)
def wdR (b1 b2 : Bool) : Tm := .mk [103] (if b1 = true then (if b2 = true then [hpt 4, hpt 4, hpt 4, fb] else [hpt 4, hpt 4, hpt 4]) else [hpt 4, hpt 4, hpt 4, hpt 4])
theorem fa_c : tmC fa = [.str [102], .sl 2 [[.str [97], .sl 2 []]]] := rfl
theorem rep_c (x : Tm) (k : Nat) : (List.replicate (k + 1) x).map tmC = (List.replicate k x).map tmC ++ [tmC x] := by
 rw [List.replicate_succ', List.map_append]; rfl
theorem wideD (code : List UInt8) : Drw code 103 [.p 0] 2 (fun t : Tm => (true, tmD t)) (fun t => t.wt <= 200) := fun q hq hp => by
 obtain ⟨q1, b1, c1, p1, _, H1⟩ := zzn code 2 (by omega) q hq (by omega)
 obtain ⟨q2, b2, c2, p2, _, H2⟩ := zzn code 2 (by omega) q1 c1 (by omega)
 refine ⟨q2, wdR b1 b2, c2, by omega, ?_, ?_⟩
 ·show (wdR b1 b2).wt <= 200
  cases b1 <;> cases b2 <;> decide
 refine zbl Tryz.call103 Tryz.func103 rfl (by kernel_rfl) (by simp only [List.length_cons, List.length_nil, Tryz.ntmps103]; omega) (by simp only [Tryz.ntmps103]; omega) rfl rfl (by simp [zar, T.isPin, AF.ds, bxA]) (by simp [gFS, T.fs, T.flat, AF.ds, bxA]) rfl ?_
 simp -implicitDefEqProofs only [go_sem, Tryz.results103]
 refine zaj (fun i : Nat => hd [(0, .one (.bx 1000000 0)), (2, .one (.bx 2 0)), (3, .one (.bx 3 0)), (4, vI i), (1000000, .one (.bx 1000000 0))] [(2, [.t (.str []), .nl 2]), (3, [.t (.str [103]), .ow 6000 i]), (1000000, [.rn (zi7 code), .t (.int .i64 q.pos), .t (.int .u64 q.seed)])] [(6000, ⟨true, 2, (List.replicate i (hpt 4)).map tmC, i, true⟩)]) (fun i => i <= 4) (fun i => 4 - i) 0 (zab ?_) (Nat.zero_le _) ?_
 ·simp -implicitDefEqProofs only [go_sem]
 ·intro i hi
  by_cases hlt : i < 4
  ·have h0 : ((i : Int) < 4) = True := by simp; omega
   simp -implicitDefEqProofs only [go_sem, h0]
   refine zaj (fun k : Nat => hd [(0, .one (.bx 1000000 0)), (2, .one (.bx 2 0)), (3, .one (.bx 3 0)), (4, vI i), (5, .one (.bx 5 0)), (6, vI k), (1000000, .one (.bx 1000000 0))] [(2, [.t (.str []), .nl 2]), (3, [.t (.str [103]), .ow 6000 i]), (5, [.t (.str [104]), .ow 7000 k]), (1000000, [.rn (zi7 code), .t (.int .i64 q.pos), .t (.int .u64 q.seed)])] [(7000, ⟨true, 2, (List.replicate k fa).map tmC, k, true⟩), (6000, ⟨true, 2, (List.replicate i (hpt 4)).map tmC, i, true⟩)]) (fun k => k <= 4) (fun k => 4 - k) 0 (zab ?_) (Nat.zero_le _) ?_
   ·simp -implicitDefEqProofs only [go_sem]
   ·intro k hk
    by_cases hlk : k < 4
    ·have h1 : ((k : Int) < 4) = True := by simp; omega
     simp -implicitDefEqProofs only [go_sem, h1]
     refine zay (by simp -implicitDefEqProofs only [go_sem]) ?_
     simp -implicitDefEqProofs only [go_sem]
     refine zay (by simp -implicitDefEqProofs only [go_sem]) ?_
     simp -implicitDefEqProofs only [go_sem]
     have hk4 : k <= 4294967295 := by omega
     refine apD true (by simp -implicitDefEqProofs only [go_sem, ne_eq, List.length_map, List.length_replicate, hk4]) ?_
     simp -implicitDefEqProofs only [go_sem, ne_eq, List.length_map, List.length_replicate, hk4]
     have hwk : IntKind.i64.wrap ((k : Int) + 1) = ((k + 1 : Nat) : Int) := zaq (by omega)
     refine ⟨k + 1, by omega, by omega, zab ?_⟩
     rw [rep_c, fa_c]
     simp -implicitDefEqProofs only [go_sem]
     rw [hwk]
    ·have h1 : ((k : Int) < 4) = False := by simp; omega
     have e4 : k = 4 := by omega
     simp -implicitDefEqProofs only [go_sem, h1]
     refine zay (by simp -implicitDefEqProofs only [go_sem]) ?_
     simp -implicitDefEqProofs only [go_sem]
     have hi4 : i <= 4294967295 := by omega
     refine apD true (by simp -implicitDefEqProofs only [go_sem, ne_eq, List.length_map, List.length_replicate, hi4]) ?_
     simp -implicitDefEqProofs only [go_sem, ne_eq, List.length_map, List.length_replicate, hi4]
     have hwk : IntKind.i64.wrap ((i : Int) + 1) = ((i + 1 : Nat) : Int) := zaq (by omega)
     refine ⟨i + 1, by omega, by omega, zab ?_⟩
     rw [rep_c]
     simp -implicitDefEqProofs only [go_sem]
     rw [hwk, e4]
     exact ⟨rfl, rfl⟩
  ·have h0 : ((i : Int) < 4) = False := by simp; omega
   have e4 : i = 4 := by omega
   simp -implicitDefEqProofs only [go_sem, h0]
   subst e4
   refine zaw [0, 2, 3, 1000000] [31] [1000000] [] (H1) (by decide) rfl (by simp -implicitDefEqProofs only [go_sem]) (by simp -implicitDefEqProofs only [go_sem]) (by simp -implicitDefEqProofs only [go_sem]) (by simp -implicitDefEqProofs only [go_sem]) ?_
   simp -implicitDefEqProofs only [go_sem]
   refine ⟨fun hb => ?_, fun hb => ?_⟩
   ·subst hb
    refine cutF ?_
    simp -implicitDefEqProofs only [go_sem, ctM, List.length_map, List.length_replicate]
    cases b2
    ·refine zaw [2, 3, 1000000] [37] [1000000] [] (H2) (by decide) rfl (by simp -implicitDefEqProofs only [go_sem]) (by simp -implicitDefEqProofs only [go_sem]) (by simp -implicitDefEqProofs only [go_sem]) (by simp -implicitDefEqProofs only [go_sem]) ?_
     simp -implicitDefEqProofs only [go_sem]
     rw [show tmC (wdR true false) = [.str [103], .sl 2 [tmC (hpt 4), tmC (hpt 4), tmC (hpt 4)]] from rfl]
     left
     simp -implicitDefEqProofs only [go_sem]
    ·refine zaw [2, 3, 1000000] [37] [1000000] [] (H2) (by decide) rfl (by simp -implicitDefEqProofs only [go_sem]) (by simp -implicitDefEqProofs only [go_sem]) (by simp -implicitDefEqProofs only [go_sem]) (by simp -implicitDefEqProofs only [go_sem]) ?_
     simp -implicitDefEqProofs only [go_sem]
     refine zay (by simp -implicitDefEqProofs only [go_sem]) ?_
     simp -implicitDefEqProofs only [go_sem]
     refine zay (by simp -implicitDefEqProofs only [go_sem]) ?_
     simp -implicitDefEqProofs only [go_sem]
     refine apD true (by simp -implicitDefEqProofs only [go_sem, ne_eq, List.length_cons, List.length_nil]) ?_
     simp -implicitDefEqProofs only [go_sem, ne_eq, List.length_cons, List.length_nil]
     rw [show tmC (wdR true true) = [.str [103], .sl 2 [tmC (hpt 4), tmC (hpt 4), tmC (hpt 4), tmC fb]] from rfl]
     left
     simp -implicitDefEqProofs only [go_sem]
     exact Or.inl rfl
   ·subst hb
    cases b2
    ·refine zaw [2, 3, 1000000] [37] [1000000] [] (H2) (by decide) rfl (by simp -implicitDefEqProofs only [go_sem]) (by simp -implicitDefEqProofs only [go_sem]) (by simp -implicitDefEqProofs only [go_sem]) (by simp -implicitDefEqProofs only [go_sem]) ?_
     simp -implicitDefEqProofs only [go_sem]
     rw [show tmC (wdR false false) = [.str [103], .sl 2 [tmC (hpt 4), tmC (hpt 4), tmC (hpt 4), tmC (hpt 4)]] from rfl]
     left
     simp -implicitDefEqProofs only [go_sem]
    ·refine zaw [2, 3, 1000000] [37] [1000000] [] (H2) (by decide) rfl (by simp -implicitDefEqProofs only [go_sem]) (by simp -implicitDefEqProofs only [go_sem]) (by simp -implicitDefEqProofs only [go_sem]) (by simp -implicitDefEqProofs only [go_sem]) ?_
     simp -implicitDefEqProofs only [go_sem]
     rw [show tmC (wdR false true) = [.str [103], .sl 2 [tmC (hpt 4), tmC (hpt 4), tmC (hpt 4), tmC (hpt 4)]] from rfl]
     left
     simp -implicitDefEqProofs only [go_sem]
end Go.Proofs.YtaaniggpnljckaaGreat
namespace Go.Proofs.YtaaniggpnljckaaGreat
set_option linter.unusedSimpArgs false
set_option linter.unusedVariables false
set_option linter.unusedSectionVars false
set_option maxRecDepth 4000
open Go.RowKit
theorem zpu (code : List UInt8) (q q1 q2 : Cu) (t : Tm) (x : Int) (hx : 5 <= x \/ x = 4 /\ t.args = []) (H1 : PC Tryz.prog 29 (zbb code q) [.p 0] (zbb code q1) [(true, tmD t)]) (H2 : PC Tryz.prog 16 (zbb code q1) [.p 0, .d false (iD 24)] (zbb code q2) [(true, iD x)]) :
  PC Tryz.prog 78 (zbb code q) [.p 0] (zbb code q2) [(true, tmD t)] := by
 have e0 : (x == 0) = false := by rw [beq_eq_false_iff_ne]; omega
 have e1 : (x == 1) = false := by rw [beq_eq_false_iff_ne]; omega
 have e2 : (x == 2) = false := by rw [beq_eq_false_iff_ne]; omega
 have e3 : (x == 3) = false := by rw [beq_eq_false_iff_ne]; omega
 simp only [tmD, zaa t] at H1 ⊢
 rcases hx with hx | ⟨hx, ha⟩
 ·have e4 : (x == 4) = false := by rw [beq_eq_false_iff_ne]; omega
  refine zbl Tryz.call78 Tryz.func78 rfl (by kernel_rfl) (by simp only [List.length_cons, List.length_nil, Tryz.ntmps78]; omega) (by simp only [Tryz.ntmps78]; omega) rfl rfl (by simp [zar, T.isPin, AF.ds, bxA]) (by simp [gFS, T.fs, T.flat, AF.ds, bxA]) rfl ?_
  simp -implicitDefEqProofs only [go_sem, Tryz.results78]
  refine zaw [0, 2, 1000000] [4] [1000000] [] (H1) (by decide) rfl (by simp -implicitDefEqProofs only [go_sem]) (by simp -implicitDefEqProofs only [go_sem]) (by simp -implicitDefEqProofs only [go_sem]) (by simp -implicitDefEqProofs only [go_sem]) ?_
  simp -implicitDefEqProofs only [go_sem]
  refine zaw [0, 2, 3, 1000000] [6] [1000000] [] (H2) (by decide) rfl (by simp -implicitDefEqProofs only [go_sem, e0, e1, e2, e3, e4]) (by simp -implicitDefEqProofs only [go_sem, e0, e1, e2, e3, e4]) (by simp -implicitDefEqProofs only [go_sem, e0, e1, e2, e3, e4]) (by simp -implicitDefEqProofs only [go_sem, e0, e1, e2, e3, e4]) ?_
  simp -implicitDefEqProofs only [go_sem, e0, e1, e2, e3, e4]
 ·subst hx
  rw [ha] at H1 ⊢
  refine zbl Tryz.call78 Tryz.func78 rfl (by kernel_rfl) (by simp only [List.length_cons, List.length_nil, Tryz.ntmps78]; omega) (by simp only [Tryz.ntmps78]; omega) rfl rfl (by simp [zar, T.isPin, AF.ds, bxA]) (by simp [gFS, T.fs, T.flat, AF.ds, bxA]) rfl ?_
  simp -implicitDefEqProofs only [go_sem, Tryz.results78]
  refine zaw [0, 2, 1000000] [4] [1000000] [] (H1) (by decide) rfl (by simp -implicitDefEqProofs only [go_sem]) (by simp -implicitDefEqProofs only [go_sem]) (by simp -implicitDefEqProofs only [go_sem]) (by simp -implicitDefEqProofs only [go_sem]) ?_
  simp -implicitDefEqProofs only [go_sem]
  refine zaw [0, 2, 3, 1000000] [6] [1000000] [] (H2) (by decide) rfl (by simp -implicitDefEqProofs only [go_sem, List.length_nil, List.map_nil]) (by simp -implicitDefEqProofs only [go_sem, List.length_nil, List.map_nil]) (by simp -implicitDefEqProofs only [go_sem, List.length_nil, List.map_nil]) (by simp -implicitDefEqProofs only [go_sem, List.length_nil, List.map_nil]) ?_
  simp -implicitDefEqProofs only [go_sem, List.length_nil, List.map_nil]
abbrev nmL : List Str := [[], [116, 114, 117, 101], [116, 114, 117, 116, 104], [105, 102], [88, 121, 122, 57], [88, 121, 122, 57, 57], [120, 65], [97, 95, 98], [97, 98, 99, 100, 101, 102], [97, 98, 99, 100, 101, 102, 103], [95, 97], [57], [88, 95], [61]]
theorem qaa (code : List UInt8) (q q1 q2 q3 : Cu) (t : Tm) (s : Str) (H1 : PC Tryz.prog 29 (zbb code q) [.p 0] (zbb code q1) [(true, tmD t)]) (H2 : PC Tryz.prog 16 (zbb code q1) [.p 0, .d false (iD 24)] (zbb code q2) [(true, iD 0)])
  (H3 : PC Tryz.prog 28 (zbb code q2) [.p 0, .d true (.one (zb6 nmL))] (zbb code q3) [(true, .one (.str s))]) :
  PC Tryz.prog 78 (zbb code q) [.p 0] (zbb code q3) [(true, tmD (.mk s t.args))] := by
 simp only [tmD, zaa t] at H1
 unfold tmD
 rw [show tmC (.mk s t.args) = [.str s, .sl 2 (t.args.map tmC)] from zaa _]
 refine zbl Tryz.call78 Tryz.func78 rfl (by kernel_rfl) (by simp only [List.length_cons, List.length_nil, Tryz.ntmps78]; omega) (by simp only [Tryz.ntmps78]; omega) rfl rfl (by simp [zar, T.isPin, AF.ds, bxA]) (by simp [gFS, T.fs, T.flat, AF.ds, bxA]) rfl ?_
 simp -implicitDefEqProofs only [go_sem, Tryz.results78]
 refine zaw [0, 2, 1000000] [4] [1000000] [] (H1) (by decide) rfl (by simp -implicitDefEqProofs only [go_sem]) (by simp -implicitDefEqProofs only [go_sem]) (by simp -implicitDefEqProofs only [go_sem]) (by simp -implicitDefEqProofs only [go_sem]) ?_
 simp -implicitDefEqProofs only [go_sem]
 refine zaw [0, 2, 3, 1000000] [6] [1000000] [] (H2) (by decide) rfl (by simp -implicitDefEqProofs only [go_sem]) (by simp -implicitDefEqProofs only [go_sem]) (by simp -implicitDefEqProofs only [go_sem]) (by simp -implicitDefEqProofs only [go_sem]) ?_
 simp -implicitDefEqProofs only [go_sem]
 refine zay (by simp -implicitDefEqProofs only [go_sem]) ?_
 simp -implicitDefEqProofs only [go_sem]
 refine zaw [2, 3, 1000000] [10, 11] [1000000] [] (H3) (by decide) rfl (by simp -implicitDefEqProofs only [go_sem]) (by simp -implicitDefEqProofs only [go_sem]) (by simp -implicitDefEqProofs only [go_sem]) (by simp -implicitDefEqProofs only [go_sem]) ?_
 simp -implicitDefEqProofs only [go_sem]
theorem zwh (code : List UInt8) (q q1 q2 q3 q4 : Cu) (t t2 : Tm) (x : Int) (hx : 0 <= x /\ x < 3) (H1 : PC Tryz.prog 29 (zbb code q) [.p 0] (zbb code q1) [(true, tmD t)]) (H2 : PC Tryz.prog 16 (zbb code q1) [.p 0, .d false (iD 24)] (zbb code q2) [(true, iD 1)])
  (H3 : PC Tryz.prog 16 (zbb code q2) [.p 0, .d false (iD 3)] (zbb code q3) [(true, iD x)]) (H4 : PC Tryz.prog 102 (zbb code q3) [.p 0, .d false (iD (7 + x))] (zbb code q4) [(true, tmD t2)]) :
  PC Tryz.prog 78 (zbb code q) [.p 0] (zbb code q4) [(true, tmD t2)] := by
 have hw : IntKind.i64.wrap (7 + x) = 7 + x := zbd (by omega) (by omega)
 simp only [tmD, zaa t] at H1
 simp only [tmD, zaa t2] at H4 ⊢
 refine zbl Tryz.call78 Tryz.func78 rfl (by kernel_rfl) (by simp only [List.length_cons, List.length_nil, Tryz.ntmps78]; omega) (by simp only [Tryz.ntmps78]; omega) rfl rfl (by simp [zar, T.isPin, AF.ds, bxA]) (by simp [gFS, T.fs, T.flat, AF.ds, bxA]) rfl ?_
 simp -implicitDefEqProofs only [go_sem, Tryz.results78]
 refine zaw [0, 2, 1000000] [4] [1000000] [] (H1) (by decide) rfl (by simp -implicitDefEqProofs only [go_sem]) (by simp -implicitDefEqProofs only [go_sem]) (by simp -implicitDefEqProofs only [go_sem]) (by simp -implicitDefEqProofs only [go_sem]) ?_
 simp -implicitDefEqProofs only [go_sem]
 refine zaw [0, 2, 3, 1000000] [6] [1000000] [] (H2) (by decide) rfl (by simp -implicitDefEqProofs only [go_sem]) (by simp -implicitDefEqProofs only [go_sem]) (by simp -implicitDefEqProofs only [go_sem]) (by simp -implicitDefEqProofs only [go_sem]) ?_
 simp -implicitDefEqProofs only [go_sem]
 refine zaw [2, 16, 1000000] [17] [1000000] [] (H3) (by decide) rfl (by simp -implicitDefEqProofs only [go_sem]) (by simp -implicitDefEqProofs only [go_sem]) (by simp -implicitDefEqProofs only [go_sem]) (by simp -implicitDefEqProofs only [go_sem]) ?_
 simp -implicitDefEqProofs only [go_sem]
 rw [hw]
 refine zaw [2, 1000000] [16, 19] [1000000] [] (H4) (by decide) rfl (by simp -implicitDefEqProofs only [go_sem]) (by simp -implicitDefEqProofs only [go_sem]) (by simp -implicitDefEqProofs only [go_sem]) (by simp -implicitDefEqProofs only [go_sem]) ?_
 simp -implicitDefEqProofs only [go_sem]
theorem qb4 (code : List UInt8) (q q1 q2 q3 : Cu) (t t2 : Tm) (H1 : PC Tryz.prog 29 (zbb code q) [.p 0] (zbb code q1) [(true, tmD t)]) (H2 : PC Tryz.prog 16 (zbb code q1) [.p 0, .d false (iD 24)] (zbb code q2) [(true, iD 2)])
  (H3 : PC Tryz.prog 103 (zbb code q2) [.p 0] (zbb code q3) [(true, tmD t2)]) :
  PC Tryz.prog 78 (zbb code q) [.p 0] (zbb code q3) [(true, tmD t2)] := by
 simp only [tmD, zaa t] at H1
 simp only [tmD, zaa t2] at H3 ⊢
 refine zbl Tryz.call78 Tryz.func78 rfl (by kernel_rfl) (by simp only [List.length_cons, List.length_nil, Tryz.ntmps78]; omega) (by simp only [Tryz.ntmps78]; omega) rfl rfl (by simp [zar, T.isPin, AF.ds, bxA]) (by simp [gFS, T.fs, T.flat, AF.ds, bxA]) rfl ?_
 simp -implicitDefEqProofs only [go_sem, Tryz.results78]
 refine zaw [0, 2, 1000000] [4] [1000000] [] (H1) (by decide) rfl (by simp -implicitDefEqProofs only [go_sem]) (by simp -implicitDefEqProofs only [go_sem]) (by simp -implicitDefEqProofs only [go_sem]) (by simp -implicitDefEqProofs only [go_sem]) ?_
 simp -implicitDefEqProofs only [go_sem]
 refine zaw [0, 2, 3, 1000000] [6] [1000000] [] (H2) (by decide) rfl (by simp -implicitDefEqProofs only [go_sem]) (by simp -implicitDefEqProofs only [go_sem]) (by simp -implicitDefEqProofs only [go_sem]) (by simp -implicitDefEqProofs only [go_sem]) ?_
 simp -implicitDefEqProofs only [go_sem]
 refine zaw [2, 1000000] [23] [1000000] [] (H3) (by decide) rfl (by simp -implicitDefEqProofs only [go_sem]) (by simp -implicitDefEqProofs only [go_sem]) (by simp -implicitDefEqProofs only [go_sem]) (by simp -implicitDefEqProofs only [go_sem]) ?_
 simp -implicitDefEqProofs only [go_sem]
theorem qa9 (code : List UInt8) (q q1 q2 q3 q4 q5 : Cu) (t a b c : Tm) (hl : t.args.length <= 100) (H1 : PC Tryz.prog 29 (zbb code q) [.p 0] (zbb code q1) [(true, tmD t)]) (H2 : PC Tryz.prog 16 (zbb code q1) [.p 0, .d false (iD 24)] (zbb code q2) [(true, iD 3)])
  (H3 : PC Tryz.prog 29 (zbb code q2) [.p 0] (zbb code q3) [(true, tmD a)]) (H4 : PC Tryz.prog 29 (zbb code q3) [.p 0] (zbb code q4) [(true, tmD b)]) (H5 : PC Tryz.prog 29 (zbb code q4) [.p 0] (zbb code q5) [(true, tmD c)]) :
  PC Tryz.prog 78 (zbb code q) [.p 0] (zbb code q5) [(true, tmD (.mk t.name (t.args ++ [a, b, c])))] := by
 simp only [tmD, zaa t] at H1
 simp only [tmD, zaa a] at H3
 simp only [tmD, zaa b] at H4
 simp only [tmD, zaa c] at H5
 unfold tmD
 rw [show tmC (.mk t.name (t.args ++ [a, b, c])) = [.str t.name, .sl 2 ((t.args ++ [a, b, c]).map tmC)] from zaa _]
 refine zbl Tryz.call78 Tryz.func78 rfl (by kernel_rfl) (by simp only [List.length_cons, List.length_nil, Tryz.ntmps78]; omega) (by simp only [Tryz.ntmps78]; omega) rfl rfl (by simp [zar, T.isPin, AF.ds, bxA]) (by simp [gFS, T.fs, T.flat, AF.ds, bxA]) rfl ?_
 simp -implicitDefEqProofs only [go_sem, Tryz.results78]
 refine zaw [0, 2, 1000000] [4] [1000000] [] (H1) (by decide) rfl (by simp -implicitDefEqProofs only [go_sem]) (by simp -implicitDefEqProofs only [go_sem]) (by simp -implicitDefEqProofs only [go_sem]) (by simp -implicitDefEqProofs only [go_sem]) ?_
 simp -implicitDefEqProofs only [go_sem]
 refine zaw [0, 2, 3, 1000000] [6] [1000000] [] (H2) (by decide) rfl (by simp -implicitDefEqProofs only [go_sem]) (by simp -implicitDefEqProofs only [go_sem]) (by simp -implicitDefEqProofs only [go_sem]) (by simp -implicitDefEqProofs only [go_sem]) ?_
 simp -implicitDefEqProofs only [go_sem]
 refine drawn (by kernel_rfl) ?_
 simp -implicitDefEqProofs only [go_sem]
 refine zd3 [1000000] (H3) (by decide) (by simp -implicitDefEqProofs only [go_sem]) (by simp -implicitDefEqProofs only [go_sem]) ?_
 simp -implicitDefEqProofs only [go_sem]
 refine zd3 [1000000] (H4) (by decide) (by simp -implicitDefEqProofs only [go_sem]) (by simp -implicitDefEqProofs only [go_sem]) ?_
 simp -implicitDefEqProofs only [go_sem]
 refine zd3 [1000000] (H5) (by decide) (by simp -implicitDefEqProofs only [go_sem]) (by simp -implicitDefEqProofs only [go_sem]) ?_
 simp -implicitDefEqProofs only [go_sem]
 have hl2 : t.args.length <= 4294967293 := by omega
 refine zb7 (by simp -implicitDefEqProofs only [go_sem]) ?_
 simp -implicitDefEqProofs only [go_sem]
 refine zlk true (by simp -implicitDefEqProofs only [go_sem, ne_eq, List.length_map, List.length_cons, List.length_nil, hl2]) ?_
 simp -implicitDefEqProofs only [go_sem, ne_eq, List.length_map, List.length_cons, List.length_nil, hl2]
 refine ⟨by kernel_rfl, ?_⟩
 left
 rw [List.map_append, List.map_cons, List.map_cons, List.map_cons, List.map_nil, zaa a, zaa b, zaa c]
 simp -implicitDefEqProofs only [go_sem]
end Go.Proofs.YtaaniggpnljckaaGreat
namespace Go.Proofs.YtaaniggpnljckaaGreat
set_option linter.unusedSimpArgs false
set_option linter.unusedVariables false
set_option linter.unusedSectionVars false
set_option maxRecDepth 4000
open Go.RowKit
variable {P : Program} {N : Nat}
theorem Wk.fzO {σ σ' : St} (e : Nat) (k : zam (σ.ev e) fun x => x.deep = true /\ x.on = true /\ Wk (σ.fz e x) σ') : Wk σ σ' := by
 obtain ⟨x, hx, h1, h2, h3⟩ := zal k
 exact (zyo hx h1 h2).trans h3
end Go.Proofs.YtaaniggpnljckaaGreat
namespace Go.Proofs.YtaaniggpnljckaaGreat
set_option linter.unusedSimpArgs false
set_option linter.unusedVariables false
set_option linter.unusedSectionVars false
set_option maxRecDepth 4000
open Go.RowKit
variable {P : Program} {N : Nat}
inductive Ob
 | mp (ag : Bool) (rows : List (List T))
 | it (src : Nat) (ag : Bool) (left : List (List T)) (last : Option (List T))
abbrev Hid := List (Nat × Ob)
end Go.Proofs.YtaaniggpnljckaaGreat
namespace Go.Proofs.YtaaniggpnljckaaGreat
set_option linter.unusedSimpArgs false
set_option linter.unusedVariables false
set_option linter.unusedSectionVars false
set_option maxRecDepth 4000
open Go.RowKit
variable {P : Program} {N : Nat}
theorem zbn.len {w : World} {A : Nat -> Prop} {ag : Bool} : ∀ {rows : List (List T)} {es : List MapEntry}, zbn w A ag rows es -> es.length = rows.length
 | [], es, h => by unfold zbn at h; subst h; rfl
 | r :: rows, es, h => by
  unfold zbn at h
  obtain ⟨e, es', us, rfl, h1, h2, h3⟩ := h
  simp [zbn.len h3]
end Go.Proofs.YtaaniggpnljckaaGreat
namespace Go.Proofs.YtaaniggpnljckaaGreat
set_option linter.unusedSimpArgs false
set_option linter.unusedVariables false
set_option linter.unusedSectionVars false
set_option maxRecDepth 4000
open Go.RowKit
variable {P : Program}
def VDn (σ : St) : List V -> List D -> Prop
 | [], ds => ds = []
 | v :: vs, ds => ∃ d ds', ds = d :: ds' /\ (VD σ v d \/ ∃ s sz, v = .one (.nl s) /\ d = .one (.pin (.slice none 0 0) (.sl sz []))) /\ VDn σ vs ds'
theorem VD.rep1 {n0 : Nat -> Prop} {N : Nat} {σ : St} {g : Gh} {a : Act} {w : World} (hR : Rel n0 N σ g a w) {x : V} {d : D} (h : VD σ x d) {v : Value} (hv : VR σ g w x v) : zto w (· < w.heap.size) d v := by
 have : VDs σ [x] [d] := ⟨d, [], rfl, h, rfl⟩
 obtain ⟨_, _, e, h1, _⟩ := VDs.rep hR this (vs := [v]) ⟨v, [], rfl, hv, rfl⟩
 cases e
 exact h1
theorem VDn.rep {n0 : Nat -> Prop} {N : Nat} {σ : St} {g : Gh} {a : Act} {w : World} (hR : Rel n0 N σ g a w) : ∀ {xs : List V} {ds : List D}, VDn σ xs ds -> ∀ {vs : List Value}, VRl σ g w xs vs -> zba w (· < w.heap.size) ds vs
 | [], ds, h, vs, hv => by rw [show ds = [] from h]; exact hv
 | x :: xs, ds, h, vs, hv => by
  obtain ⟨d, ds', rfl, h1, h2⟩ := h
  obtain ⟨v, vs', rfl, k1, k2⟩ := hv
  refine ⟨v, vs', rfl, ?_, VDn.rep hR h2 k2⟩
  rcases h1 with h1 | ⟨s, sz, rfl, rfl⟩
  ·exact VD.rep1 hR h1 k1
  ·have k1 : v = .slice none 0 0 := k1
   subst k1
   show zai _ _ (.pin _ _) _
   unfold zai
   refine ⟨rfl, ?_⟩
   unfold zai
   exact ⟨none, 0, rfl, Nat.le_refl _, by simp, Or.inl rfl⟩
theorem zsf {o : Oper} {σ : St} {x : Operand} {asx : Array Operand} {ts : Array TypeId} {f : FuncId} {cvs : List V} {d : Nat} {ds res : List D} (ho : o.op = .call ⟨.value x, asx, ts⟩) (hd : o.dst = some d)
  (h : FC P f ds res) (hc : zat (σ.get P 0 x) = some (f, cvs)) (hv : VDn σ (σ.gets P asx ts ++ cvs) ds) (hf : zfc d 0 (za1 res) σ.ev) : zae P o σ (σ.callF d res) := by
 intro n0 N g a w hR hn hdN
 obtain ⟨vs, h1, h2⟩ := zcj hR ho hc h.1
 unfold Oper.wp
 rw [h1]
 refine (h.use (VDn.rep hR hv h2)).mono ?_
 rintro e w' ⟨us, fp, rfl, o1, o2, o3, hb⟩
 obtain ⟨g', k1, k2, k3⟩ := New.cells (σ := σ) (g := g) (NB := (w.heap.size <= ·)) (w' := w') d (za1 res) _ fp 0 σ.ev g [] (New.refl _ _ _ _ hR.slc) (fun e h1 h2 => absurd h1 h2) hf o1.cells o2 (fun b hb' => ⟨o3 b hb', by simp⟩)
 have hR' := hR.after hn hb k1
 refine ⟨g', ?_, Bk.of_below hb hn, k1.A0, k1.R0⟩
 have hp := hR'.put (some d) (x := zk6 (zth d 0 res)) (v := zbk us) (zd1 (zio d 0 o1 (k3 _ _ rfl)) (zfi d res 0)) (fun i hi => by cases hi; exact hdN d hd)
 rw [hd]
 exact hp
section
variable {ks : List Fr} {Q : Exit -> St -> Prop} {σ : St} {ops : Array Oper} {os : List Oper} {ty : TypeId} {ps : String} {af : Array Edge}
theorem callFn {d : Nat} {x : Operand} {asx : Array Operand} {ts : Array TypeId} {f : FuncId} {ds res : List D} (h : FC P f ds res) (hp : zam (zat (σ.get P 0 x)) fun p => p.1 = f /\ VDn σ (σ.gets P asx ts ++ p.2) ds /\ zfc d 0 (za1 res) σ.ev)
  (k : exo P ops os ks Q (σ.callF d res)) : exo P ops (⟨some d, .call ⟨.value x, asx, ts⟩, ty, ps, af, none⟩ :: os) ks Q σ := by
 obtain ⟨⟨f', cvs⟩, h1, rfl, h2, h3⟩ := zal hp
 exact zca rfl rfl (zsf rfl rfl h h1 h2 h3) k
end
theorem vdn_nl (σ : St) (s sz : Nat) (vs : List V) (ds : List D) : VDn σ (.one (.nl s) :: vs) (.one (.pin (.slice none 0 0) (.sl sz [])) :: ds) = VDn σ vs ds := propext ⟨fun h => by
 obtain ⟨d, ds', e, _, h⟩ := h
 obtain ⟨rfl, rfl⟩ := List.cons.inj e
 exact h, fun h => ⟨_, _, rfl, Or.inr ⟨_, _, rfl, rfl⟩, h⟩⟩
theorem vdn_t (σ : St) (t : T) (vs : List V) (ds : List D) : VDn σ (.one (.t t) :: vs) (.one t :: ds) = VDn σ vs ds := propext ⟨fun h => by
 obtain ⟨d, ds', e, _, h⟩ := h
 obtain ⟨rfl, rfl⟩ := List.cons.inj e
 exact h, fun h => ⟨_, _, rfl, Or.inl rfl, h⟩⟩
theorem qf8 (σ : St) : VDn σ [] [] = True := by unfold VDn; simp
end Go.Proofs.YtaaniggpnljckaaGreat
namespace Go.Proofs.YtaaniggpnljckaaGreat
set_option linter.unusedSimpArgs false
set_option linter.unusedVariables false
set_option linter.unusedSectionVars false
set_option maxRecDepth 4000
open Go.RowKit
section
variable {P : Program}
theorem ct0_A {n0 : Nat -> Prop} {N : Nat} {σ : St} {g : Gh} {a : Act} {w : World} (hR : Rel n0 N σ g a w) {c : C} {t : T} (h : CT0 σ c t) {v : Value} (hv : CR σ g w c v) : zai w (fun b => b < w.heap.size /\ g.A0 b) t v := by
 have hF : ∀ b, Fix σ g w b -> b < w.heap.size /\ g.A0 b := fun b hb => ⟨hb.2.2.1, hb.2.2.2⟩
 have hFr : ∀ b, zbr σ g w b -> b < w.heap.size /\ g.A0 b := fun b hb => hF b hb.1
 cases c with
 | t x =>
  have h : x = t := h
  subst h
  exact zai.keep (fun _ _ => rfl) hF x v hv
 | rn x =>
  have h : x = t := h
  subst h
  exact zai.keep (fun _ _ => rfl) hFr x v hv
 | nl s =>
  cases t with
  | sl sz rows =>
   have h : rows = [] := h
   subst h
   have hv : v = .slice none 0 0 := hv
   subst hv
   unfold zai
   exact ⟨none, 0, rfl, Nat.le_refl _, by simp, Or.inl rfl⟩
  | _ => exact h.elim
 | ow e n =>
  cases t with
  | sl sz rows =>
   obtain ⟨d, o, he⟩ := h
   obtain ⟨rfl, -⟩ := hv
   cases o
   ·exact zai.keep (fun _ _ => rfl) hF _ _ (hR.offs e _ he rfl).1
   ·have hOn : σ.On e := ⟨_, he, rfl⟩
    have hlt : ∀ b ∈ g.φ e, b < w.heap.size := (hR.evs e _ he rfl).lt
    obtain ⟨ao, cap, e1, e2, e3, e4⟩ := hR.evs e _ he rfl
    unfold zai
    refine ⟨ao, cap, e1, e2, e3, ?_⟩
    rcases e4 with ⟨_, _, e4, _⟩ | ⟨b, cells, ty, fps, k1, k2, k3, k4, k5⟩
    ·exact Or.inl e4
    ·have hA : ∀ b' ∈ g.φ e, b' < w.heap.size /\ g.A0 b' := fun b' hb' => ⟨hlt b' hb', (hR.ebase e hOn b' hb').1⟩
     refine Or.inr ⟨b, 0, k1, hA b (by rw [k2]; simp), ?_⟩
     split at k5
     ·exact zag.rep b cells ty k3 0 sz rows fps k5 fun b' hb' => hA b' (by rw [k2]; simp [hb'])
     ·exact zak.keep (fun _ _ => rfl) hF b rfl 0 sz rows k5.2
  | _ => exact h.elim
 | el cs o =>
  cases t with
  | ptr cs' =>
   obtain ⟨rfl, rfl⟩ := h
   obtain ⟨b, q, h1, h2, h3⟩ := hv
   unfold zai
   exact ⟨b, q, h1, hF b h2, zaz.keep (fun _ _ => rfl) hF b rfl q cs h3⟩
  | _ => exact h.elim
 | er cs o =>
  cases t with
  | ptr cs' =>
   obtain ⟨rfl, rfl⟩ := h
   obtain ⟨b, q, h1, h2, h3⟩ := hv
   unfold zai
   exact ⟨b, q, h1, hFr b h2, zaz.keep (fun _ _ => rfl) hFr b rfl q cs h3⟩
  | _ => exact h.elim
 | _ => cases t <;> exact h.elim
theorem qec {n0 : Nat -> Prop} {N : Nat} {σ : St} {g : Gh} {a : Act} {w : World} (hR : Rel n0 N σ g a w) : ∀ {cs : List C} {ts : List T}, zlt σ cs ts -> ∀ {vs : List Value}, CRs σ g w cs vs -> zad w (fun b => b < w.heap.size /\ g.A0 b) ts vs
 | [], ts, h, vs, hv => by rw [show ts = [] from h]; unfold zad; exact hv
 | c :: cs, ts, h, vs, hv => by
  obtain ⟨t, ts', rfl, h1, h2⟩ := h
  obtain ⟨v, vs', rfl, k1, k2⟩ := hv
  unfold zad
  exact ⟨v, vs', rfl, ct0_A hR h1 k1, qec hR h2 k2⟩
def RVe (σ : St) : List V -> List D -> Prop
 | [], [] => True
 | .one c :: vs, .one t :: ds => CT0 σ c t /\ RVe σ vs ds
 | .agg cs :: vs, .agg ts :: ds => zlt σ cs ts /\ RVe σ vs ds
 | _, _ => False
theorem RVe.rep {n0 : Nat -> Prop} {N : Nat} {σ : St} {g : Gh} {a : Act} {w : World} (hR : Rel n0 N σ g a w) : ∀ {vs : List V} {ds : List D}, RVe σ vs ds -> ∀ {us : List Value}, VRl σ g w vs us -> zba w (fun b => b < w.heap.size /\ g.A0 b) ds us
 | [], [], _, us, hv => hv
 | .one c :: vs, .one t :: ds, h, us, hv => by
  obtain ⟨u, us', rfl, k1, k2⟩ := hv
  exact ⟨u, us', rfl, ct0_A hR h.1 k1, RVe.rep hR h.2 k2⟩
 | .agg cs :: vs, .agg ts :: ds, h, us, hv => by
  obtain ⟨u, us', rfl, ⟨q, rfl, k1⟩, k2⟩ := hv
  exact ⟨_, us', rfl, ⟨q, rfl, qec hR h.1 k1⟩, RVe.rep hR h.2 k2⟩
 | [], _ :: _, h, _, _ => h.elim
 | .one _ :: _, [], h, _, _ => h.elim
 | .one _ :: _, .agg _ :: _, h, _, _ => h.elim
 | .agg _ :: _, [], h, _, _ => h.elim
 | .agg _ :: _, .one _ :: _, h, _, _ => h.elim
 | .tup _ :: _, [], h, _, _ => h.elim
 | .tup _ :: _, _ :: _, h, _, _ => h.elim
def PRe (P : Program) (rs : List ResultVar) (res : List D) (e : Exit) (σ : St) : Prop := match e with
 | .normal => zam (zbh P σ rs) fun vs => RVe σ vs res
 | .ret => zam (zbh P σ rs) fun vs => RVe σ vs res
 | _ => False
theorem zfj {f : FuncId} {fn : Func} {c : Code} {args res : List D} (hc : za8 P f) (hf : P.funcs[f]? = some fn) (hb : fn.body = some c) (hd : zcp fn.ntmps c = true) (hN : (rd args).length <= fn.ntmps)
  (h : ex P c [] (PRe P fn.results.toList res) (zci (rd args))) : RC P f args res := by
 refine ⟨hc, fun w vs A hv => ?_⟩
 refine calls_of_wp hf hb ?_
 have hg : ∀ (ds : List D) (vs : List Value), zba w (fun b => b < w.heap.size /\ A b) ds vs -> zas w (fun b => b < w.heap.size /\ A b /\ b ∉ ([] : List Nat)) (rd ds) vs [] [] := by
  intro ds
  induction ds with
  | nil => intro vs h; exact ⟨h, rfl, rfl⟩
  | cons d ds ih =>
   rintro vs ⟨v, vs', rfl, h1, h2⟩
   refine ⟨v, vs', rfl, ?_, ih _ h2⟩
   cases d with
   | one t => exact zai.keep (fun _ _ => rfl) (fun b hb => ⟨hb.1, hb.2, by simp⟩) t _ h1
   | agg ts => obtain ⟨a, h0, h1⟩ := h1; exact ⟨a, h0, zad.keep (fun _ _ => rfl) (fun b hb => ⟨hb.1, hb.2, by simp⟩) ts a h1⟩
 obtain ⟨g, hg, hR⟩ := Rel.start (A := A) (A0 := fun b => A b \/ w.heap.size <= b) (R0 := RP.of fun _ => True) (N := fn.ntmps) (hg _ _ hv) List.nodup_nil (zc4 args) hN (fun _ hb => Or.inl hb) (fun b hb => by simp at hb) (fun b hb => ⟨Or.inr (by
  refine Nat.le_of_not_lt fun hlt => hb ⟨hlt, by simp⟩), trivial⟩)
 refine wp_mono (zbi (w0 := w) c (zci (rd args)) _ hd h g _ w hR (fun k hk => hk.1) (Bk.refl _ _) hg) fun e a' w' hq => ?_
 obtain ⟨σ', g', h1, h2, h3, h4, h5⟩ := hq
 have key : zam (zbh P σ' fn.results.toList) (fun vs => RVe σ' vs res) -> ∃ v, (results fn a'.tmps).run P w' = .ok v w' /\ ∃ us, Ending.returned v = .returned (zbk us) /\ zba w' (fun b => b < w'.heap.size /\ (A b \/ w.heap.size <= b)) res us /\ Below w.heap.size w w' := fun hk => by
  unfold zam at hk
  split at hk
  ·rename_i vs hvs
   obtain ⟨us, r1, r2⟩ := zbs h2 fn hvs
   refine ⟨_, r1, us, rfl, (RVe.rep h2 hk r2).keep (fun _ _ => rfl) fun b hb => ⟨hb.1, ?_⟩, h4.os, h4.tape, h4.output, h4.size, fun k hk => h4.block k ⟨hk, by simp⟩⟩
   have := hb.2
   simp only [Prod.mk.injEq] at h5
   rw [h5.1] at this
   exact this
  ·exact hk.elim
 cases e with
 | normal => exact ⟨h2.defers, key h1⟩
 | ret => exact ⟨h2.defers, key h1⟩
 | exit _ => exact h1.elim
 | goto _ => exact h1.elim
 | panic _ => exact h1.elim
 | outgrown => exact h1.elim
attribute [go_sem] PRe RVe
end
end Go.Proofs.YtaaniggpnljckaaGreat
namespace Go.Proofs.YtaaniggpnljckaaGreat
set_option linter.unusedSimpArgs false
set_option linter.unusedVariables false
set_option linter.unusedSectionVars false
set_option maxRecDepth 4000
open Go.RowKit
variable {P : Program}
theorem zvx {σ : St} {g : Gh} {w : World} {v : Value} {c : C} : ∀ {cs : List C} {vs : List Value} {m : Nat}, CRs σ g w cs vs -> cs[m]? = some (.cv v) -> CR σ g w c v -> CRs σ g w (cs.set m c) vs
 | [], _, _, h, _, _ => h
 | x :: cs, vs, 0, h, hm, hc => by
  obtain ⟨u, us, rfl, h1, h2⟩ := h
  rw [List.getElem?_cons_zero, Option.some.injEq] at hm
  subst hm
  have h1 : u = v := h1
  subst h1
  exact ⟨u, us, rfl, hc, h2⟩
 | x :: cs, vs, m + 1, h, hm, hc => by
  obtain ⟨u, us, rfl, h1, h2⟩ := h
  rw [List.getElem?_cons_succ] at hm
  exact ⟨u, us, rfl, h1, zvx h2 hm hc⟩
theorem Rel.takeA {n0 : Nat -> Prop} {N : Nat} {σ : St} {g : Gh} {a : Act} {w : World} (hR : Rel n0 N σ g a w) {e e' s m i j sz gn sz1 : Nat} {cz : List C} {rows rows1 : List (List T)} {r : List T} {v : Value} (hD : Deep ⟨upd σ.sl s (.one .any), σ.bx, σ.ev⟩)
  (hsl : σ.sl s = .agg cz) (hcs : cz.all C.mOk = true) (hm : cz[m]? = some (.cv v)) (he : σ.ev e = some ⟨true, sz, rows, gn, true⟩) (hr : rows[i]? = some r) (hc : r[j]? = some (.pin v (.sl sz1 rows1))) (hne : σ.ev e' = none) :
  ∃ ao ln c, ∃ g', Rel n0 N ⟨upd σ.sl s (.agg (cz.set m (.ow e' 0))), σ.bx, upd (upd σ.ev e (some ⟨true, sz, rows.set i (r.set j (.vs ao ln c)), gn, true⟩)) e' (some ⟨true, sz1, rows1, 0, true⟩)⟩ g' a w /\ g'.A0 = g.A0 /\ g'.R0 = g.R0 := by
 have hOn : σ.On e := ⟨_, he, rfl⟩
 have hee : e ≠ e' := fun h => by rw [h, hne] at he; cases he
 have hO := zdl hR he
 have hnd := hR.nodup e hOn
 unfold zao at hO
 obtain ⟨ao0, cap, e1, e2, e3, e4⟩ := hO
 rcases e4 with ⟨_, _, rfl, _⟩ | ⟨b0, cells, ty, fps, k1, k2, k3, k4, k5⟩
 ·simp at hr
 obtain ⟨f1, ff, f2, u, rfl, c1, c2, c3⟩ := zag.cell k5 hr hc
 unfold zao at c2
 obtain ⟨rfl, c2⟩ := c2
 have c2' := c2
 unfold zao at c2'
 obtain ⟨ao, cp, hv, hv2, hv3, hv4⟩ := c2'
 rw [k2] at hnd
 obtain ⟨nb, nd⟩ := List.nodup_cons.1 hnd
 obtain ⟨nd1, nd2, nd3⟩ := List.nodup_append.1 nd
 obtain ⟨nd4, nd5, nd6⟩ := List.nodup_append.1 nd2
 have hsubf : ∀ b, b ∈ ff -> b ∈ g.φ e := fun b hb => by rw [k2]; simp [hb]
 have hsubr : ∀ b, b ∈ b0 :: (f1 ++ f2) -> b ∈ g.φ e := fun b hb => by
  rw [k2]
  simp only [List.mem_cons, List.mem_append] at hb ⊢
  rcases hb with h | h | h
  ·exact Or.inl h
  ·exact Or.inr (Or.inl h)
  ·exact Or.inr (Or.inr (Or.inr h))
 have hdis : ∀ b, b ∈ b0 :: (f1 ++ f2) -> b ∉ ff := fun b h hm => by
  simp only [List.mem_cons, List.mem_append] at h
  rcases h with rfl | h | h
  ·exact nb (by simp [hm])
  ·exact nd3 b h b (by simp [hm]) rfl
  ·exact nd6 b hm b h rfl
 have hndr : (b0 :: (f1 ++ f2)).Nodup := by
  refine List.nodup_cons.2 ⟨fun hm => nb ?_, List.nodup_append.2 ⟨nd1, nd5, fun x hx y hy hxy => nd3 x hx y (by simp [hy]) hxy⟩⟩
  simp only [List.mem_append] at hm ⊢
  rcases hm with h | h
  ·exact Or.inl h
  ·exact Or.inr (Or.inr h)
 have hrows := c3 w (.vs ao rows1.length cp) [] (fun _ _ => rfl) (by unfold zao; exact ⟨hv, rfl⟩)
 rw [List.nil_append] at hrows
 obtain ⟨d1, d2, d3⟩ := hD
 refine ⟨ao, rows1.length, cp, { g with ψ := fun q n => if q = e' then u else g.ψ q n, φ := upd (upd g.φ e (b0 :: (f1 ++ f2))) e' ff }, ?_, rfl, rfl⟩
 have φe : (upd (upd g.φ e (b0 :: (f1 ++ f2))) e' ff) e = b0 :: (f1 ++ f2) := by rw [zah _ _ hee, zac]
 have φe' : (upd (upd g.φ e (b0 :: (f1 ++ f2))) e' ff) e' = ff := zac _ _ _
 have φo : ∀ q, q ≠ e -> q ≠ e' -> (upd (upd g.φ e (b0 :: (f1 ++ f2))) e' ff) q = g.φ q := fun q h1 h2 => by rw [zah _ _ h2, zah _ _ h1]
 have hev : ∀ q, q ≠ e -> q ≠ e' -> (upd (upd σ.ev e (some ⟨true, sz, rows.set i (r.set j (.vs ao rows1.length cp)), gn, true⟩)) e' (some ⟨true, sz1, rows1, 0, true⟩)) q = σ.ev q := fun q h1 h2 => by rw [zah _ _ h2, zah _ _ h1]
 have heve : (upd (upd σ.ev e (some ⟨true, sz, rows.set i (r.set j (.vs ao rows1.length cp)), gn, true⟩)) e' (some ⟨true, sz1, rows1, 0, true⟩)) e = some ⟨true, sz, rows.set i (r.set j (.vs ao rows1.length cp)), gn, true⟩ := by rw [zah _ _ hee, zac]
 have heve' : (upd (upd σ.ev e (some ⟨true, sz, rows.set i (r.set j (.vs ao rows1.length cp)), gn, true⟩)) e' (some ⟨true, sz1, rows1, 0, true⟩)) e' = some ⟨true, sz1, rows1, 0, true⟩ := zac _ _ _
 generalize hE : (upd (upd σ.ev e (some ⟨true, sz, rows.set i (r.set j (.vs ao rows1.length cp)), gn, true⟩)) e' (some ⟨true, sz1, rows1, 0, true⟩)) = ev2 at hev heve heve'
 generalize hF : (upd (upd g.φ e (b0 :: (f1 ++ f2))) e' ff) = φ2 at φe φe' φo
 have hψe : ∀ q n, q ≠ e' -> (if q = e' then u else g.ψ q n) = g.ψ q n := fun q n h => if_neg h
 have hold : ∀ q, St.On ⟨upd σ.sl s (.agg (cz.set m (.ow e' 0))), σ.bx, ev2⟩ q -> ∃ p, σ.On p /\ (∀ b ∈ φ2 q, b ∈ g.φ p) /\ (q ≠ e' -> p = q) /\ (q = e' -> p = e) := fun q hq => by
  by_cases h1 : q = e'
  ·subst h1
   exact ⟨e, hOn, fun b hb => hsubf b (by rw [φe'] at hb; exact hb), fun h => absurd rfl h, fun _ => rfl⟩
  ·by_cases h2 : q = e
   ·subst h2
    exact ⟨q, hOn, fun b hb => hsubr b (by rw [φe] at hb; exact hb), fun _ => rfl, fun h => absurd h h1⟩
   ·obtain ⟨x, hx, ho⟩ := hq
    have hx : ev2 q = some x := hx
    rw [hev q h2 h1] at hx
    exact ⟨q, ⟨x, hx, ho⟩, fun b hb => by rw [φo q h2 h1] at hb; exact hb, fun _ => rfl, fun h => absurd h h1⟩
 have hhas : ∀ q n, σ.has q n -> St.has ⟨upd σ.sl s (.agg (cz.set m (.ow e' 0))), σ.bx, ev2⟩ q n /\ (if q = e' then u else g.ψ q n) = g.ψ q n := fun q n ⟨x, hx, hg⟩ => by
  have h1 : q ≠ e' := fun h => by rw [h, hne] at hx; cases hx
  refine ⟨?_, hψe q n h1⟩
  by_cases h2 : q = e
  ·subst h2
   rw [he] at hx
   cases hx
   exact ⟨_, heve, hg⟩
  ·exact ⟨x, (hev q h2 h1).trans hx, hg⟩
 have hrn : ∀ b, zbr σ g w b -> zbr ⟨upd σ.sl s (.agg (cz.set m (.ow e' 0))), σ.bx, ev2⟩ { g with ψ := fun q n => if q = e' then u else g.ψ q n, φ := φ2 } w b := fun b hb => by
  have hno : ∀ q, St.On ⟨upd σ.sl s (.agg (cz.set m (.ow e' 0))), σ.bx, ev2⟩ q -> b ∉ φ2 q := fun q hq hm => by
   obtain ⟨p, p1, p2, _⟩ := hold q hq
   exact hb.2 p p1 (p2 b hm)
  exact ⟨⟨hb.1.1, fun q x hx ho hh => hno q ⟨x, hx, ho⟩ (List.mem_of_mem_head? hh), hb.1.2.2⟩, hno⟩
 have hdeep : ∀ q x, q ≠ e -> q ≠ e' -> ev2 q = some x -> σ.ev q = some x /\ x.on = true /\ x.deep = true := fun q x h1 h2 hx => by
  rw [hev q h1 h2] at hx
  exact ⟨hx, d3 q x hx⟩
 refine ⟨hR.defers, hR.size, hR.anew, fun q => ?_, fun b cs hb => ?_, hR.base, hR.inj, fun q x hx ho => ?_, fun q x hx ho => ?_, fun q n => ?_, fun q hq b hb => ?_, fun q hq b hb => ?_, fun q hq => ?_, fun q q' hq hq' hne' b hb hb' => ?_, fun q k hq hk hb => ?_⟩
 ·show VR _ _ _ (upd σ.sl s (.agg (cz.set m (.ow e' 0))) q) _
  have hv0 := hR.slots q
  by_cases hqs : q = s
  ·subst hqs
   rw [zac]
   rw [hsl] at hv0
   obtain ⟨a1, k1, k2⟩ := hv0
   have k3 := zma (σ := σ) (g := g) (σ' := ⟨upd σ.sl q (.agg (cz.set m (.ow e' 0))), σ.bx, ev2⟩) (g' := { g with ψ := fun q n => if q = e' then u else g.ψ q n, φ := φ2 }) rfl rfl hhas hrn hcs k2
   exact ⟨a1, k1, zvx k3 hm ⟨(if_pos rfl).symm, ⟨_, heve', Nat.le_refl _⟩⟩⟩
  ·rw [zah _ _ hqs]
   have hm := d1 q
   have hm : (upd σ.sl s (.one .any) q).mOk = true := hm
   rw [zah _ _ hqs] at hm
   exact mv_vr (σ := σ) (g := g) (σ' := ⟨upd σ.sl s (.agg (cz.set m (.ow e' 0))), σ.bx, ev2⟩) (g' := { g with ψ := fun q n => if q = e' then u else g.ψ q n, φ := φ2 }) rfl rfl hhas hrn hm hv0
 ·obtain ⟨vs, ty, q1, q2⟩ := hR.boxes b cs hb
  exact ⟨vs, ty, q1, zma (σ := σ) (g := g) (σ' := ⟨upd σ.sl s (.agg (cz.set m (.ow e' 0))), σ.bx, ev2⟩) (g' := { g with ψ := fun q n => if q = e' then u else g.ψ q n, φ := φ2 }) rfl rfl hhas hrn (d2 b cs hb) q2⟩
 ·have hx2 : ev2 q = some x := hx
  clear hx
  show EvR w _ x (if q = e' then u else g.ψ q x.gen) (φ2 q)
  by_cases h1 : q = e'
  ·subst h1
   rw [heve'] at hx2
   cases hx2
   rw [if_pos rfl, φe']
   refine ⟨ao, cp, hv, hv2, hv3, ?_⟩
   rcases hv4 with h | ⟨b, cells, ty, fps, q1, q2, q3, q4, q5⟩
   ·exact Or.inl h
   ·exact Or.inr ⟨b, cells, ty, fps, q1, q2, q3, q4, by rw [if_pos rfl]; exact q5⟩
  ·rw [if_neg h1]
   by_cases h2 : q = e
   ·subst h2
    rw [heve] at hx2
    cases hx2
    rw [φe]
    exact ⟨ao0, cap, by simpa using e1, by simpa using e2, e3, Or.inr ⟨b0, cells, ty, _, k1, rfl, k3, k4, by rw [if_pos rfl]; exact hrows⟩⟩
   ·obtain ⟨g1, g2, g3⟩ := hdeep q x h2 h1 hx2
    rw [φo q h2 h1]
    obtain ⟨ao, cap, r1, r2, r3, r4⟩ := hR.evs q x g1 g2
    refine ⟨ao, cap, r1, r2, r3, ?_⟩
    rcases r4 with r4 | ⟨b, cells, ty, fps, r4, r5, r6, r7, r8⟩
    ·exact Or.inl r4
    ·rw [if_pos g3] at r8
     exact Or.inr ⟨b, cells, ty, fps, r4, r5, r6, r7, by rw [if_pos g3]; exact r8⟩
 ·have hx2 : ev2 q = some x := hx
  clear hx
  by_cases h1 : q = e'
  ·subst h1
   rw [heve'] at hx2
   cases hx2
   cases ho
  ·by_cases h2 : q = e
   ·subst h2
    rw [heve] at hx2
    cases hx2
    cases ho
   ·have := (hdeep q x h2 h1 hx2).2.1
    rw [this] at ho; cases ho
 ·show ∃ ao l c, (if q = e' then u else g.ψ q n) = .slice ao l c
  by_cases h1 : q = e'
  ·rw [if_pos h1]; exact ⟨_, _, _, hv⟩
  ·rw [if_neg h1]; exact hR.slc q n
 ·obtain ⟨p, p1, p2, _⟩ := hold q hq
  exact hR.ebase p p1 b (p2 b hb)
 ·obtain ⟨p, p1, p2, _⟩ := hold q hq
  exact hR.etop p p1 b (p2 b hb)
 ·show (φ2 q).Nodup
  by_cases h1 : q = e'
  ·subst h1; rw [φe']; exact nd4
  ·by_cases h2 : q = e
   ·subst h2; rw [φe]; exact hndr
   ·obtain ⟨p, p1, p2, p3, _⟩ := hold q hq
    rw [φo q h2 h1]
    have := p3 h1
    subst this
    exact hR.nodup p p1
 ·have hb2 : b ∈ φ2 q := hb
  clear hb
  have hb2' : b ∈ φ2 q' := hb'
  clear hb'
  by_cases h1 : q = e'
  ·subst h1
   by_cases h2 : q' = e
   ·subst h2
    rw [φe'] at hb2
    rw [φe] at hb2'
    exact hdis b hb2' hb2
   ·obtain ⟨p, p1, p2, p3, _⟩ := hold q' hq'
    have := p3 (Ne.symm hne')
    subst this
    rw [φe'] at hb2
    exact hR.apart e p hOn p1 (Ne.symm h2) b (hsubf b hb2) (p2 b hb2')
  ·by_cases h3 : q' = e'
   ·subst h3
    by_cases h2 : q = e
    ·subst h2
     rw [φe'] at hb2'
     rw [φe] at hb2
     exact hdis b hb2 hb2'
    ·obtain ⟨p, p1, p2, p3, _⟩ := hold q hq
     have := p3 h1
     subst this
     rw [φe'] at hb2'
     exact hR.apart e p hOn p1 (Ne.symm h2) b (hsubf b hb2') (p2 b hb2)
   ·obtain ⟨p, p1, p2, p3, _⟩ := hold q hq
    obtain ⟨p', p1', p2', p3', _⟩ := hold q' hq'
    have := p3 h1
    subst this
    have := p3' h3
    subst this
    exact hR.apart p p' p1 p1' hne' b (p2 b hb2) (p2' b hb2')
 ·obtain ⟨p, p1, p2, _⟩ := hold q hq
  exact hR.ebx p k p1 hk (p2 _ hb)
end Go.Proofs.YtaaniggpnljckaaGreat
namespace Go.Proofs.YtaaniggpnljckaaGreat
set_option linter.unusedSimpArgs false
set_option linter.unusedVariables false
set_option linter.unusedSectionVars false
set_option maxRecDepth 4000
open Go.RowKit
variable {P : Program}
theorem zaz.flat {w : World} {A A' : Nat -> Prop} {b : Nat} : ∀ {r : List T} {o : Nat}, r.all T.flat = true -> zaz w A b o r -> zaz w A' b o r
 | [], _, _, _ => by unfold zaz; trivial
 | c :: cs, o, hf, h => by
  rw [List.all_cons, Bool.and_eq_true] at hf
  unfold zaz at h ⊢
  obtain ⟨⟨v, h1, h2⟩, h3⟩ := h
  exact ⟨⟨v, h1, zc8 hf.1 h2⟩, zaz.flat hf.2 h3⟩
theorem zak.flat {w : World} {A A' : Nat -> Prop} {b sz : Nat} : ∀ {rows : List (List T)} {o : Nat}, flR rows = true -> zak w A b o sz rows -> zak w A' b o sz rows
 | [], _, _, _ => by unfold zak; trivial
 | r :: rs, o, hf, h => by
  unfold flR at hf
  rw [Bool.and_eq_true] at hf
  unfold zak at h ⊢
  exact ⟨h.1, zaz.flat hf.1 h.2.1, zak.flat hf.2 h.2.2⟩
theorem V.mapid (x : V) : V.map id x = x := by
 cases x with
 | one c => rfl
 | agg cs => exact congrArg V.agg (List.map_id cs)
 | tup xs => exact congrArg V.tup ((List.map_congr_left fun y _ => by simp).trans (List.map_id xs))
section
variable {ks : List Fr} {Q : Exit -> St -> Prop} {σ : St} {ops : Array Oper} {os : List Oper} {L : List (List Ky × List Ky)} {d : Nat} {t : TypeId} {ty : TypeId} {ps : String} {af : Array Edge} {len : Nat} {parts : Array (Nat × Operand)} {n : Nat} {rs : List (List C)} {rows : List (List T)}
theorem qal (h : zhv P (σ.get P) t len parts = some (n, rs) /\ zn5 σ rs = some rows /\ σ.ev (d * 32) = none) (hf : flR rows = true) : zae P ⟨some d, .buildSlice t len parts, ty, ps, af, none⟩ σ (σ.put (some d) (.one (.rn (.sl n rows)))) := fun n0 N g a w hR hn hdN => by
 refine Oper.wp_mono ?_ (zhg (P := P) (ty := ty) (ps := ps) (af := af) h n0 N g a w hR hn hdN)
 rintro a' w' ⟨g', r1, r2, r3, r4⟩
 have he := h.2.2
 obtain ⟨s1, hg⟩ := qdt (σ := (σ.apd (d * 32) [] ⟨false, n, rows, 0, true⟩).put (some d) (.one (.ow (d * 32) 0))) (e := d * 32) (x := ⟨false, n, rows, 0, true⟩) (zac _ _ _) rfl rfl r1
 have e1 : ((σ.apd (d * 32) [] ⟨false, n, rows, 0, true⟩).put (some d) (.one (.ow (d * 32) 0))).fs (d * 32) ⟨false, n, rows, 0, true⟩ = σ.put (some d) (.one (.t (.sl n rows))) := by
  have q1 : fsS (upd σ.sl d (.one (.ow (d * 32) 0))) (d * 32) ⟨false, n, rows, 0, true⟩ = upd σ.sl d (.one (.t (.sl n rows))) := funext fun i => by
   show V.map _ (upd σ.sl d _ i) = _
   by_cases hi : i = d
   ·subst hi
    rw [zac, zac]
    show V.one (C.fs _ _ (.ow _ 0)) = _
    simp [C.fs]
   ·rw [zah _ _ hi, zah _ _ hi]
    exact nor_v he (hR.slots i)
  have q2 : fsB σ.bx (d * 32) ⟨false, n, rows, 0, true⟩ = σ.bx := funext fun b => by
   show (σ.bx b).map _ = _
   cases hb : σ.bx b with
   | none => rfl
   | some cs =>
    obtain ⟨vs, ty', k1, k2⟩ := hR.boxes b cs hb
    exact congrArg some (zmx he k2)
  have q3 : fsE (upd σ.ev (d * 32) (some ⟨false, n, rows, 0, true⟩)) (d * 32) = σ.ev := funext fun k => by
   show (if k = d * 32 then none else upd σ.ev (d * 32) _ k) = _
   by_cases hk : k = d * 32
   ·rw [if_pos hk, hk, he]
   ·rw [if_neg hk, zah _ _ hk]
  show St.mk (fsS (upd σ.sl d (.one (.ow (d * 32) 0))) (d * 32) ⟨false, n, rows, 0, true⟩) (fsB σ.bx (d * 32) ⟨false, n, rows, 0, true⟩) (fsE (upd σ.ev (d * 32) (some ⟨false, n, rows, 0, true⟩)) (d * 32)) = _
  rw [q1, q2, q3]
  rfl
 rw [e1] at s1 hg
 have hsl := r1.slots d
 rw [show ((σ.apd (d * 32) [] ⟨false, n, rows, 0, true⟩).put (some d) (.one (.ow (d * 32) 0))).sl d = .one (.ow (d * 32) 0) from zac _ _ _] at hsl
 obtain ⟨ao, cap, f1, f2, f3, f4⟩ := r1.evs (d * 32) ⟨false, n, rows, 0, true⟩ (zac _ _ _) rfl
 have cr : ∀ c v, CR (σ.put (some d) (.one (.t (.sl n rows)))) g' w' c v -> CR (σ.put (some d) (.one (.rn (.sl n rows)))) g' w' c v := fun c v h => by cases c <;> exact h
 have hb : ∀ (b : Nat) (cs : List C), (σ.put (some d) (.one (.rn (.sl n rows)))).bx b = some cs -> ∃ vs ty, w'.heap[g'.β b]? = some (Obj.cells vs ty) /\ CRs (σ.put (some d) (.one (.rn (.sl n rows)))) g' w' cs vs.toList := fun b cs hb => by
  obtain ⟨vs, ty, k1, k2⟩ := s1.boxes b cs hb
  have := CRs.map (f := id) cr k2
  rw [List.map_id] at this
  exact ⟨vs, ty, k1, this⟩
 refine ⟨g', { s1 with slots := fun i => ?_, boxes := hb }, r2, r3, r4⟩
 by_cases hi : i = d
 ·subst hi
  rw [show (σ.put (some i) (.one (.rn (.sl n rows)))).sl i = .one (.rn (.sl n rows)) from zac _ _ _]
  have hv := hsl.1
  rw [f1] at hv
  show zai w' (zbr _ g' w') (.sl n rows) _
  rw [hv]
  unfold zai
  refine ⟨ao, cap, rfl, f2, f3, ?_⟩
  rcases f4 with ⟨_, _, f4, _⟩ | ⟨b, cells, ty, fps, k1, k2, k3, k4, k5⟩
  ·exact Or.inl f4
  ·rw [if_neg (by simp)] at k5
   exact Or.inr ⟨b, 0, k1, hg b (by rw [k2]; simp) (Array.getElem?_eq_some_iff.1 k3).1, zak.flat hf k5.2⟩
 ·have := s1.slots i
  rw [show (σ.put (some d) (.one (.t (.sl n rows)))).sl i = σ.sl i from zah _ _ hi] at this
  rw [show (σ.put (some d) (.one (.rn (.sl n rows)))).sl i = σ.sl i from zah _ _ hi]
  have h2 := VR.map (f := id) cr this
  rw [V.mapid] at h2
  exact h2
theorem zlb (h : zam (blS P σ t len parts) fun _ => σ.ev (d * 32) = none) (hf : (match slOf (blS P σ t len parts) with | .sl _ rows => flR rows | _ => false) = true)
  (k : exd P ops os (L ++ [(zap (parts.toList.map (·.2)) ++ (rK (qb1 (zhv P (σ.get P) t len parts)) ++ [(2, d * 32)]), dK (some d) ++ eK [])]) ks Q (σ.put (some d) (.one (.rn (slOf (blS P σ t len parts)))))) :
  exd P ops (⟨some d, .buildSlice t len parts, ty, ps, af, none⟩ :: os) L ks Q σ := by
 obtain ⟨⟨x, cons⟩, h1, h2⟩ := zal h
 rw [h1] at k hf
 unfold blS at h1
 obtain ⟨p, e1, h1⟩ := Option.bind_eq_some_iff.1 h1
 obtain ⟨q, e2, h1⟩ := Option.map_eq_some_iff.1 h1
 simp only [Prod.mk.injEq] at h1
 obtain ⟨rfl, rfl⟩ := h1
 rw [e1] at k
 have hf : flR q = true := hf
 refine ze5 rfl rfl ?_ k
 have := zfg.of (P := P) (σ := σ) (o := ⟨some d, .buildSlice t len parts, ty, ps, af, none⟩) (l := []) (v := .one (.rn (.sl p.1 q))) (R := zap (parts.toList.map (·.2)) ++ (rK p.2 ++ [(2, d * 32)])) (za5 (zbp _) (za5 (zul _) rfl)) fun σ1 h1 => ?_
 ·exact this
 ·have e3 : zhv P (σ1.get P) t len parts = zhv P (σ.get P) t len parts := zli fun t x hx => zby (fun k hk => h1 k (by simp [hk])) hx t
  have e4 : zn5 σ1 p.2 = zn5 σ p.2 := zkx fun k hk => h1 k (by simp [hk])
  exact qal ⟨e3.trans e1, e4.trans e2, (Eq.symm (h1 (2, d * 32) (by simp))).trans h2⟩ hf
end
theorem zkd {σ : St} {f f' : Nat -> V} {g : Gh} {w : World} (c : C) (v : Value) (h : CR ⟨f, σ.bx, σ.ev⟩ g w c v) : CR ⟨f', σ.bx, σ.ev⟩ g w c v := by cases c <;> exact h
theorem qcy {σ : St} {f : Nat -> V} (h : ∀ (g : Gh) (w : World) (i : Nat) (v : Value), VR σ g w (σ.sl i) v -> VR ⟨f, σ.bx, σ.ev⟩ g w (f i) v) : Wk σ ⟨f, σ.bx, σ.ev⟩ := fun n0 N g a w hR => by
 have hb : ∀ (b : Nat) (cs : List C), (⟨f, σ.bx, σ.ev⟩ : St).bx b = some cs -> ∃ vs ty, w.heap[g.β b]? = some (Obj.cells vs ty) /\ CRs ⟨f, σ.bx, σ.ev⟩ g w cs vs.toList := fun b cs hb => by
  obtain ⟨vs, ty, k1, k2⟩ := hR.boxes b cs hb
  have := CRs.map (f := id) (zkd (σ := σ) (f := σ.sl) (f' := f)) k2
  rw [List.map_id] at this
  exact ⟨vs, ty, k1, this⟩
 exact ⟨g, { hR with slots := fun i => h g w i _ (hR.slots i), boxes := hb }, rfl, rfl⟩
theorem qa6 {σ : St} {f f' : Nat -> V} {g : Gh} {w : World} {x : V} {v : Value} (h : VR ⟨f, σ.bx, σ.ev⟩ g w x v) : VR ⟨f', σ.bx, σ.ev⟩ g w x v := by
 have h2 := VR.map (f := id) (zkd (σ := σ) (f := f) (f' := f')) h
 rw [V.mapid] at h2
 exact h2
theorem takeP {ks : List Fr} {Q : Exit -> St -> Prop} {σ : St} {ops : Array Oper} {o : Oper} {os : List Oper} (e e' s s2 i j sz1 : Nat) (rows1 : List (List T)) {sz gn : Nat} {rows : List (List T)} {r : List T} {c0 : C} {v : Value}
  (hsl : σ.sl s = .agg [c0, .t (.pin v (.sl sz1 rows1))]) (h0 : c0.mOk = true) (hD : Deep ⟨upd (upd σ.sl s2 (.one .any)) s (.one .any), σ.bx, σ.ev⟩) (he : σ.ev e = some ⟨true, sz, rows, gn, true⟩) (hr : rows[i]? = some r) (hc : r[j]? = some (.pin v (.sl sz1 rows1))) (hne : σ.ev e' = none) (hss : s ≠ s2)
  (k : ∀ ao ln c, ztq P ops o os ks Q ⟨upd (upd σ.sl s2 (.one .any)) s (.agg [c0, .ow e' 0]), σ.bx, upd (upd σ.ev e (some ⟨true, sz, rows.set i (r.set j (.vs ao ln c)), gn, true⟩)) e' (some ⟨true, sz1, rows1, 0, true⟩)⟩) : ztq P ops o os ks Q σ := by
 refine za9.pre (σ' := ⟨upd (upd σ.sl s2 (.one .any)) s (.agg [c0, .cv v]), σ.bx, σ.ev⟩) (qcy fun g w q u hv => ?_) (za9.preX fun n0 N g a w hR hn => ?_)
 ·by_cases h1 : q = s
  ·subst h1
   rw [zac]
   rw [hsl] at hv
   obtain ⟨x, rfl, u1, us, rfl, f3, u2, us2, rfl, f5, rfl⟩ := hv
   refine ⟨_, rfl, u1, _, rfl, zkd (σ := σ) _ _ f3, u2, _, rfl, ?_, rfl⟩
   have f5 : zai w _ (.pin v _) u2 := f5
   unfold zai at f5
   exact f5.1
  ·rw [zah _ _ h1]
   by_cases h2 : q = s2
   ·subst h2
    rw [zac]; trivial
   ·rw [zah _ _ h2]
    exact qa6 (σ := σ) hv
 ·have hD' : Deep ⟨upd (upd (upd σ.sl s2 (.one .any)) s (.agg [c0, .cv v])) s (.one .any), σ.bx, σ.ev⟩ := ⟨fun q => by
   show (upd (upd (upd σ.sl s2 (.one .any)) s (.agg [c0, .cv v])) s (.one .any) q).mOk = true
   have := hD.1 q
   change (upd (upd σ.sl s2 (.one .any)) s (.one .any) q).mOk = true at this
   by_cases h1 : q = s
   ·subst h1; rw [zac]; rfl
   ·rw [zah _ _ h1, zah _ _ h1]
    rwa [zah _ _ h1] at this, hD.2.1, hD.2.2⟩
  obtain ⟨ao, ln, c, g', r1, r2, r3⟩ := hR.takeA (e := e) (e' := e') (s := s) (m := 1) (i := i) (j := j) hD' (zac _ _ _) (by show (c0.mOk && ((C.cv v).mOk && true)) = true; rw [h0]; rfl) rfl he hr hc hne
  refine ⟨_, g', ?_, r1, r2, r3⟩
  have e1 : upd (upd (upd σ.sl s2 (.one .any)) s (.agg [c0, .cv v])) s (.agg (([c0, .cv v] : List C).set 1 (.ow e' 0))) = upd (upd σ.sl s2 (.one .any)) s (.agg [c0, .ow e' 0]) := funext fun q => by
   by_cases h1 : q = s
   ·subst h1; rw [zac, zac]; rfl
   ·rw [zah _ _ h1, zah _ _ h1, zah _ _ h1]
  show za9 P o ⟨_, _, _⟩ _
  rw [e1]
  exact k ao ln c
end Go.Proofs.YtaaniggpnljckaaGreat
namespace Go.Proofs.YtaaniggpnljckaaGreat
set_option linter.unusedSimpArgs false
set_option linter.unusedVariables false
set_option linter.unusedSectionVars false
set_option maxRecDepth 4000
open Go.RowKit
theorem ofR (code : List UInt8) (l : List Str) (hl : 1 <= l.length) (hn : l.length <= 200) : Drw code 28 [.p 0, .d false (.one (zb6 l))] 1 (fun x : Str => (true, .one (.str x))) (fun x => x ∈ l) := fun q hq hp => by
 have HN := zmt hq (by omega) l.length (by omega)
 have hb := q.pick_bd (n := l.length) (by omega)
 obtain ⟨j, hj⟩ : ∃ j : Nat, (q.pick l.length).2 = j := ⟨(q.pick l.length).2.toNat, by omega⟩
 have hjl : j < l.length := by omega
 refine ⟨(q.pick l.length).1, l[j], (q.pick_code _).trans hq, (q.pick_pos _).2, List.getElem_mem hjl, ?_⟩
 rw [hj] at HN
 refine zbl Tryz.call28 Tryz.func28 rfl (by kernel_rfl) (by simp only [List.length_cons, List.length_nil, Tryz.ntmps28]; omega) (by simp only [Tryz.ntmps28]; omega) rfl rfl (by simp [zar, T.isPin, AF.ds, bxA]) (by simp [gFS, T.fs, T.flat, AF.ds, bxA]) rfl ?_
 simp -implicitDefEqProofs only [go_sem, Tryz.results28]
 refine zaw [5, 1000000] [6, 8] [1000000] [] (HN) (by decide) rfl (by simp -implicitDefEqProofs only [go_sem, hjl, zaf]) (by simp -implicitDefEqProofs only [go_sem, hjl, zaf]) (by simp -implicitDefEqProofs only [go_sem, hjl, zaf]) (by simp -implicitDefEqProofs only [go_sem, hjl, zaf]) ?_
 simp -implicitDefEqProofs only [go_sem, hjl, zaf]
theorem znd (vs : Nat -> Nat -> Value) : ∀ (us : List Tm) (i : Nat), List.map (fun r => List.map zho r) (zfr vs i (us.map tmC)) = us.map tmC
 | [], _ => rfl
 | u :: us, i => by
  rw [List.map_cons, zfr, List.map_cons, znd vs us, zaa u]
  rfl
theorem qg9 {c : Prop} [Decidable c] {x y : V} (hx : x.mOk = true) (hy : y.mOk = true) : (if c then x else y).mOk = true := by
 split
 ·exact hx
 ·exact hy
abbrev hdL : List Str := [[61], [], [81, 49], [98, 50]]
theorem qay (code : List UInt8) (q q1 q2 q3 : Cu) (t u : Tm) (us : List Tm) (s : Str) (ht : t.args = u :: us) (hl : t.args.length <= 100) (H1 : PC Tryz.prog 29 (zbb code q) [.p 0] (zbb code q1) [(true, tmD t)]) (H2 : PC Tryz.prog 16 (zbb code q1) [.p 0, .d false (iD 24)] (zbb code q2) [(true, iD 4)])
  (H3 : PC Tryz.prog 28 (zbb code q2) [.p 0, .d false (.one (zb6 hdL))] (zbb code q3) [(true, .one (.str s))]) :
  PC Tryz.prog 78 (zbb code q) [.p 0] (zbb code q3) [(true, tmD (.mk t.name (.mk s u.args :: us)))] := by
 have hgt : decide (0 < ((us.length + 1 : Nat) : Int)) = true := by simp
 simp only [tmD, zaa t, ht, List.map_cons, zaa u] at H1
 simp only [zb6, hdL, List.map_cons, List.map_nil] at H3
 unfold tmD
 rw [show tmC (.mk t.name (.mk s u.args :: us)) = [.str t.name, .sl 2 ((.mk s u.args :: us).map tmC)] from zaa _]
 refine zbl Tryz.call78 Tryz.func78 rfl (by kernel_rfl) (by simp only [List.length_cons, List.length_nil, Tryz.ntmps78]; omega) (by simp only [Tryz.ntmps78]; omega) rfl rfl (by simp [zar, T.isPin, AF.ds, bxA]) (by simp [gFS, T.fs, T.flat, AF.ds, bxA]) rfl ?_
 simp -implicitDefEqProofs only [go_sem, Tryz.results78]
 refine zaw [0, 2, 1000000] [4] [1000000] [] (H1) (by decide) rfl (by simp -implicitDefEqProofs only [go_sem]) (by simp -implicitDefEqProofs only [go_sem]) (by simp -implicitDefEqProofs only [go_sem]) (by simp -implicitDefEqProofs only [go_sem]) ?_
 simp -implicitDefEqProofs only [go_sem]
 refine zaw [0, 2, 3, 1000000] [6] [1000000] [] (H2) (by decide) rfl (by simp -implicitDefEqProofs only [go_sem, List.length_cons, hgt]) (by simp -implicitDefEqProofs only [go_sem, List.length_cons, hgt]) (by simp -implicitDefEqProofs only [go_sem, List.length_cons, hgt]) (by simp -implicitDefEqProofs only [go_sem, List.length_cons, hgt]) ?_
 simp -implicitDefEqProofs only [go_sem, List.length_cons, hgt]
 refine qf4 161 12 (by kernel_rfl) (by kernel_rfl) (by simp -implicitDefEqProofs only [go_sem]) fun vs => ?_
 simp -implicitDefEqProofs only [go_sem, List.length_cons, List.length_map]
 refine zlb (by simp -implicitDefEqProofs only [go_sem]) (by simp -implicitDefEqProofs only [go_sem]) ?_
 simp -implicitDefEqProofs only [go_sem]
 refine zd3 [1000000] (H3) (by decide) (by simp -implicitDefEqProofs only [go_sem]) (by simp -implicitDefEqProofs only [go_sem]) ?_
 simp -implicitDefEqProofs only [go_sem]
 refine ⟨by omega, by omega, by kernel_rfl, ?_⟩
 refine takeP 161 5000 54 53 0 1 2 (u.args.map tmC) (sz := 2) (gn := 0) (rows := [.str u.name, .pin (vs 0 1) (.sl 2 (u.args.map tmC))] :: zfr vs 1 (us.map tmC)) (r := [.str u.name, .pin (vs 0 1) (.sl 2 (u.args.map tmC))]) (c0 := .t (.str s)) (v := vs 0 1) rfl rfl ⟨fun i => ?_, fun b cs hb => ?_, fun e x he => ?_⟩ rfl rfl rfl rfl (by decide) fun ao ln c => ?_
 ·by_cases h1 : i = 54
  ·subst h1; rfl
  by_cases h2 : i = 53
  ·subst h2; rfl
  simp only [upd, if_neg h1, if_neg h2]
  repeat refine qg9 rfl ?_
  refine zqg ?_ i
  rfl
 ·simp only [upd] at hb
  split at hb
  ·cases hb; rfl
  ·refine zqk ?_ hb
   rfl
 ·simp only [upd] at he
  split at he
  ·cases he; exact ⟨rfl, rfl⟩
  ·refine zpr ?_ he
   rfl
 refine zv0 (by
  simp -implicitDefEqProofs only [go_sem]
  exact fun _ h => by rw [h]; exact (by decide : (5000 : Nat) ≠ 161)) ?_
 simp -implicitDefEqProofs only [go_sem]
 left; right
 rw [zaa (.mk s u.args)]
 show [T.str s, T.sl 2 (u.args.map tmC)] :: List.map (fun r => List.map zho r) (zfr vs 1 (us.map tmC)) = _
 rw [znd]
 rfl
end Go.Proofs.YtaaniggpnljckaaGreat
namespace Go.Proofs.YtaaniggpnljckaaGreat
set_option linter.unusedSimpArgs false
set_option linter.unusedVariables false
set_option linter.unusedSectionVars false
set_option maxRecDepth 4000
open Go.RowKit
theorem len_wt (t : Tm) {W : Nat} (h : t.wt <= W) : t.args.length <= W := by rw [Tm.wt_eq] at h; omega
theorem qb8 (code : List UInt8) : Drw code 78 [.p 0] 60 (fun t : Tm => (true, tmD t)) (fun t => t.wt <= 400) := fun q hq hp => by
 obtain ⟨q1, t, c1, p1, o1, H1⟩ := zf8 code q hq (by omega)
 obtain ⟨q2, x, c2, p2, o2, H2⟩ := zfk code 24 (by omega) (by omega) q1 c1 (by omega)
 have hl := len_wt t o1.1
 have hw := Tm.wt_eq t
 by_cases h5 : 5 <= x
 ·exact ⟨q2, t, c2, by omega, (show t.wt <= 400 by omega), zpu code q q1 q2 t x (Or.inl h5) H1 H2⟩
 rcases (show x = 0 \/ x = 1 \/ x = 2 \/ x = 3 \/ x = 4 by omega) with rfl | rfl | rfl | rfl | rfl
 ·obtain ⟨q3, s, c3, p3, o3, H3⟩ := ofD code nmL (by simp) (by simp) q2 c2 (by omega)
  have hs : s.length <= 8 := (show ∀ s ∈ nmL, s.length <= 8 by decide) s o3
  refine ⟨q3, .mk s t.args, c3, by omega, ?_, qaa code q q1 q2 q3 t s H1 H2 H3⟩
  show (Tm.mk s t.args).wt <= 400
  rw [zce]; omega
 ·obtain ⟨q3, y, c3, p3, o3, H3⟩ := zfk code 3 (by omega) (by omega) q2 c2 (by omega)
  obtain ⟨m, hm⟩ : ∃ m : Nat, 7 + y = m := ⟨(7 + y).toNat, by omega⟩
  obtain ⟨q4, u, c4, p4, o4, H4⟩ := towerD code m (by omega) q3 c3 (by omega)
  rw [<- hm] at H4
  exact ⟨q4, u, c4, by omega, (show u.wt <= 400 by omega), zwh code q q1 q2 q3 q4 t u y o3 H1 H2 H3 H4⟩
 ·obtain ⟨q3, u, c3, p3, o3, H3⟩ := wideD code q2 c2 (by omega)
  exact ⟨q3, u, c3, by omega, (show u.wt <= 400 by omega), qb4 code q q1 q2 q3 t u H1 H2 H3⟩
 ·obtain ⟨q3, a, c3, p3, o3, H3⟩ := zf8 code q2 c2 (by omega)
  obtain ⟨q4, b, c4, p4, o4, H4⟩ := zf8 code q3 c3 (by omega)
  obtain ⟨q5, c, c5, p5, o5, H5⟩ := zf8 code q4 c4 (by omega)
  refine ⟨q5, .mk t.name (t.args ++ [a, b, c]), c5, by omega, ?_, qa9 code q q1 q2 q3 q4 q5 t a b c (by omega) H1 H2 H3 H4 H5⟩
  show (Tm.mk t.name (t.args ++ [a, b, c])).wt <= 400
  rw [zce]
  simp only [List.length_append, List.length_cons, List.length_nil, List.map_append, List.map_cons, List.map_nil, List.sum_append, List.sum_cons, List.sum_nil]
  omega
 ·cases ha : t.args with
  | nil => exact ⟨q2, t, c2, by omega, (show t.wt <= 400 by omega), zpu code q q1 q2 t 4 (Or.inr ⟨rfl, ha⟩) H1 H2⟩
  | cons u us =>
   obtain ⟨q3, s, c3, p3, o3, H3⟩ := ofR code hdL (by simp) (by simp) q2 c2 (by omega)
   have hs : s.length <= 8 := (show ∀ s ∈ hdL, s.length <= 8 by decide) s o3
   refine ⟨q3, .mk t.name (.mk s u.args :: us), c3, by omega, ?_, qay code q q1 q2 q3 t u us s ha (by omega) H1 H2 H3⟩
   show (Tm.mk t.name (.mk s u.args :: us)).wt <= 400
   have hu := Tm.wt_eq u
   rw [ha] at hw
   simp only [List.length_cons, List.map_cons, List.sum_cons] at hw
   rw [zce]
   simp only [List.length_cons, List.map_cons, List.sum_cons]
   rw [zce]; omega
end Go.Proofs.YtaaniggpnljckaaGreat
namespace Go.Proofs.YtaaniggpnljckaaGreat
set_option linter.unusedSimpArgs false
set_option linter.unusedVariables false
set_option linter.unusedSectionVars false
set_option maxRecDepth 4000
open Go.RowKit
def upX {α : Type} (X : Nat -> α) (k : Nat) : List α := (List.range k).map X
theorem zey {α : Type} (X : Nat -> α) : upX X 0 = [] := rfl
theorem zhb {α : Type} (X : Nat -> α) (k : Nat) : upX X (k + 1) = upX X k ++ [X k] := by
 unfold upX; rw [List.range_succ, List.map_append]; rfl
theorem za7 {α : Type} (X : Nat -> α) (k : Nat) : (upX X k).length = k := by unfold upX; simp
theorem zkg {α : Type} {X : Nat -> α} {k : Nat} {x : α} (h : x ∈ upX X k) : ∃ i < k, x = X i := by
 unfold upX at h
 obtain ⟨i, hi, rfl⟩ := List.mem_map.1 h
 exact ⟨i, List.mem_range.1 hi, rfl⟩
theorem zza {α : Type} {code : List UInt8} {f : FuncId} {l : List AF} {c : Nat} {d : α -> Bool × D} {ok : α -> Prop} (x0 : α) (H : Drw code f l c d ok) : ∀ (n : Nat) (q : Cu), q.code = code -> q.pos + n * c <= 1099511627776 →
  ∃ (Q : Nat -> Cu) (X : Nat -> α), Q 0 = q /\ (∀ k, k <= n -> (Q k).code = code /\ (Q k).pos <= q.pos + n * c) /\ ∀ k, k < n -> ok (X k) /\ PC Tryz.prog f (zbb code (Q k)) l (zbb code (Q (k + 1))) [d (X k)]
 | 0, q, hq, hp => ⟨fun _ => q, fun _ => x0, rfl, fun k hk => ⟨hq, by simp⟩, fun k hk => absurd hk (by omega)⟩
 | n + 1, q, hq, hp => by
  rw [Nat.succ_mul] at hp
  obtain ⟨q1, x, c1, p1, o1, H1⟩ := H q hq (by omega)
  obtain ⟨Q, X, e0, hQ, hX⟩ := zza x0 H n q1 c1 (by omega)
  refine ⟨fun k => Nat.casesOn k q fun j => Q j, fun k => Nat.casesOn k x fun j => X j, rfl, fun k hk => ?_, fun k hk => ?_⟩
  ·rw [Nat.succ_mul]
   cases k with
   | zero => exact ⟨hq, by show q.pos <= _; omega⟩
   | succ k =>
    have := hQ k (by omega)
    exact ⟨this.1, by show (Q k).pos <= _; omega⟩
  ·cases k with
   | zero =>
    refine ⟨o1, ?_⟩
    show PC _ _ (zbb code q) _ (zbb code (Q 0)) _
    rw [e0]; exact H1
   | succ k => exact hX k (by omega)
theorem qfe {α : Type} {code : List UInt8} {f : FuncId} {l : List AF} {c : Nat} {d : α -> Bool × D} {ok : α -> Prop} (x0 : α) (H : Drw code f l c d ok) (T : Nat) : ∀ (r L : Nat) (q : Cu), L + r = T + 1 -> q.code = code -> q.pos + (r * (c + 1) + 1) <= 1099511627776 →
  ∃ (m : Nat) (Q R : Nat -> Cu) (B : Nat -> Int) (X : Nat -> α), m <= r /\ Q 0 = q /\ (∀ k, k <= m -> (Q k).code = code /\ (R k).code = code /\ (R k).pos <= q.pos + (r * (c + 1) + 1) /\ (0 <= B k /\ B k < 2) /\ PC Tryz.prog 16 (zbb code (Q k)) [.p 0, .d false (iD 2)] (zbb code (R k)) [(true, iD (B k))]) ∧
   (∀ k, k < m -> ((L + k : Nat) : Int) < T + B k /\ ok (X k) /\ PC Tryz.prog f (zbb code (R k)) l (zbb code (Q (k + 1))) [d (X k)]) /\ ¬ (((L + m : Nat) : Int) < T + B m)
 | 0, L, q, hL, hq, hp => by
  obtain ⟨q1, b, c1, p1, o1, H1⟩ := zfk code 2 (by omega) (by omega) q hq (by omega)
  exact ⟨0, fun _ => q, fun _ => q1, fun _ => b, fun _ => x0, Nat.le_refl _, rfl, fun k hk => ⟨hq, c1, by show q1.pos <= _; omega, o1, H1⟩, fun k hk => absurd hk (by omega), by simp only [Nat.add_zero]; omega⟩
 | r + 1, L, q, hL, hq, hp => by
  rw [Nat.succ_mul] at hp
  obtain ⟨q1, b, c1, p1, o1, H1⟩ := zfk code 2 (by omega) (by omega) q hq (by omega)
  by_cases hb : (L : Int) < T + b
  ·obtain ⟨q2, x, c2, p2, o2, H2⟩ := H q1 c1 (by omega)
   obtain ⟨m, Q, R, B, X, hm, e0, hQ, hX, hE⟩ := qfe x0 H T r (L + 1) q2 (by omega) c2 (by omega)
   refine ⟨m + 1, fun k => Nat.casesOn k q fun j => Q j, fun k => Nat.casesOn k q1 fun j => R j, fun k => Nat.casesOn k b fun j => B j, fun k => Nat.casesOn k x fun j => X j, by omega, rfl, fun k hk => ?_, fun k hk => ?_, ?_⟩
   ·rw [Nat.succ_mul]
    cases k with
    | zero => exact ⟨hq, c1, by show q1.pos <= _; omega, o1, H1⟩
    | succ k =>
     obtain ⟨a1, a2, a3, a4, a5⟩ := hQ k (by omega)
     exact ⟨a1, a2, by show (R k).pos <= _; omega, a4, a5⟩
   ·cases k with
    | zero =>
     refine ⟨hb, o2, ?_⟩
     show PC _ _ (zbb code q1) _ (zbb code (Q 0)) _
     rw [e0]; exact H2
    | succ k =>
     have := hX k (by omega)
     rw [show L + (k + 1) = L + 1 + k by omega]
     exact this
   ·show ¬ (((L + (m + 1) : Nat) : Int) < T + B m)
    rw [show L + (m + 1) = L + 1 + m by omega]
    exact hE
  ·exact ⟨0, fun _ => q, fun _ => q1, fun _ => b, fun _ => x0, Nat.zero_le _, rfl, fun k hk => ⟨hq, c1, by show q1.pos <= _; rw [Nat.succ_mul]; omega, o1, H1⟩, fun k hk => absurd hk (by omega), hb⟩
end Go.Proofs.YtaaniggpnljckaaGreat
namespace Go.Proofs.YtaaniggpnljckaaGreat
set_option linter.unusedSimpArgs false
set_option linter.unusedVariables false
set_option linter.unusedSectionVars false
set_option maxRecDepth 4000
open Go.RowKit
structure Og where
 syms : List Str
 wts : List Int
 vr : Int
def okG (v : Int) : List Str -> List Str -> List Int -> Bool
 | _, [], _ => true
 | _, _ :: _, [] => false
 | pre, s :: ss, w :: ws => zbz s && !pre.contains s && inB w v 100 && okG v (pre ++ [s]) ss ws
def Og.ok (o : Og) : Bool := inB o.syms.length 1 12 && decide (o.wts.length = o.syms.length) && inB o.vr 1 100 && okG o.vr [] o.syms o.wts
def Og.cov (o : Og) : Tm -> Bool := Tm.fold fun n _ rs => (za6 n || o.syms.contains n) && rs.all id
theorem Og.cov_eq (o : Og) (a : Tm) : o.cov a = ((za6 a.name || o.syms.contains a.name) && a.args.all o.cov) := by
 unfold Og.cov
 rw [Tm.fold_eq]
 congr 1
 rw [List.all_map]; rfl
def Og.leaf (o : Og) (n : Str) : Int := if za6 n = true then o.vr else o.wts.getD (o.syms.idxOf n) 0
def Og.wgt (o : Og) : Tm -> Int := Tm.fold fun n _ rs => o.leaf n + rs.sum
theorem Og.wgt_eq (o : Og) (a : Tm) : o.wgt a = o.leaf a.name + (a.args.map o.wgt).sum := by unfold Og.wgt; rw [Tm.fold_eq]
def Og.rgt (o : Og) (s t : Tm) : Bool := decide (zec o.syms t.name < zec o.syms s.name) || (decide (zec o.syms t.name = zec o.syms s.name) && decide (t.args.length < s.args.length))
def Og.req (o : Og) (s t : Tm) : Bool := decide (zec o.syms s.name = zec o.syms t.name) && decide (s.args.length = t.args.length)
def ogC (o : Og) : List T := [zb6 o.syms, ze4 o.wts, .int .i64 o.vr]
theorem zax (o : Og) : ogC o = [zb6 o.syms, ze4 o.wts, .int .i64 o.vr] := rfl
abbrev ogD (o : Og) : D := .agg (ogC o)
end Go.Proofs.YtaaniggpnljckaaGreat
namespace Go.Proofs.YtaaniggpnljckaaGreat
set_option linter.unusedSimpArgs false
set_option linter.unusedVariables false
set_option linter.unusedSectionVars false
set_option maxRecDepth 4000
open Go.RowKit
theorem qem {v : Int} {S : List Str} {W : List Int} {k : Nat} (hk : k < S.length) (hW : k < W.length) : okG v (S.take k) (S.drop k) (W.drop k) = (zbz S[k] && !(S.take k).contains S[k] && inB W[k] v 100 && okG v (S.take (k + 1)) (S.drop (k + 1)) (W.drop (k + 1))) := by
 rw [List.drop_eq_getElem_cons hk, List.drop_eq_getElem_cons hW, okG, List.take_succ_eq_append_getElem hk]
theorem zuk {v : Int} {S : List Str} {W : List Int} {k : Nat} (hk : S.length <= k) : okG v (S.take k) (S.drop k) (W.drop k) = true := by
 rw [List.drop_of_length_le hk, okG]
theorem zb2 (W : List Int) {k : Nat} (hk : k < W.length) : (W.map fun s => [T.int .i64 s]).getD k [] = [.int .i64 W[k]] := zaf (fun s => [T.int .i64 s]) W k hk
theorem zbq (S : List Str) {k : Nat} (hk : k < S.length) : (S.map fun s => [T.str s]).getD k [] = [.str S[k]] := zaf (fun s => [T.str s]) S k hk
theorem zdq (o : Og) : FC Tryz.prog 23 [ogD o] [bD o.ok] := by
 have hv : o.ok = (inB o.syms.length 1 12 && decide (o.wts.length = o.syms.length) && inB o.vr 1 100 && okG o.vr [] o.syms o.wts) := rfl
 rw [hv]
 simp only [ogD, zax]
 clear hv
 obtain ⟨S, W, v⟩ := o
 simp only
 have HW1 := zfd S.length 1 12
 have HW2 := zfd v 1 100
 have hlb := zkn W.length S.length
 cases h1 : inB S.length 1 12
 ·rw [h1] at HW1
  refine zan Tryz.call23 Tryz.func23 rfl (by kernel_rfl) (za2 (by kernel_rfl)) ?_
  simp -implicitDefEqProofs only [go_sem, Tryz.results23]
  refine callF (HW1) (by simp -implicitDefEqProofs only [go_sem]) ?_
  simp -implicitDefEqProofs only [go_sem]
 rw [h1] at HW1
 by_cases h2 : W.length = S.length
 ·rw [decide_eq_true h2]
  rw [decide_eq_true h2] at hlb
  cases h3 : inB v 1 100
  ·rw [h3] at HW2
   refine zan Tryz.call23 Tryz.func23 rfl (by kernel_rfl) (za2 (by kernel_rfl)) ?_
   simp -implicitDefEqProofs only [go_sem, Tryz.results23]
   refine callF (HW1) (by simp -implicitDefEqProofs only [go_sem, hlb]) ?_
   simp -implicitDefEqProofs only [go_sem, hlb]
   refine callF (HW2) (by simp -implicitDefEqProofs only [go_sem]) ?_
   simp -implicitDefEqProofs only [go_sem]
  rw [h3] at HW2
  have hS12 : S.length <= 12 := by
   unfold inB at h1
   simp at h1; omega
  have e0 : okG v [] S W = okG v (S.take 0) (S.drop 0) (W.drop 0) := rfl
  simp only [Bool.true_and]
  refine zan Tryz.call23 Tryz.func23 rfl (by kernel_rfl) (za2 (by kernel_rfl)) ?_
  simp -implicitDefEqProofs only [go_sem, Tryz.results23]
  refine callF (HW1) (by simp -implicitDefEqProofs only [go_sem, hlb]) ?_
  simp -implicitDefEqProofs only [go_sem, hlb]
  refine callF (HW2) (by simp -implicitDefEqProofs only [go_sem]) ?_
  simp -implicitDefEqProofs only [go_sem]
  refine zaj (fun k : Nat => hd [(1, .one (.bx 1 0)), (26, vT (zb6 S)), (27, vI S.length), (28, vI k)] [(1, [.t (zb6 S), .t (ze4 W), .t (.int .i64 v)])] []) (fun k => k <= S.length /\ okG v [] S W = okG v (S.take k) (S.drop k) (W.drop k)) (fun k => S.length - k) 0 (zab ?_) ⟨Nat.zero_le _, e0⟩ ?_
  ·simp -implicitDefEqProofs only [go_sem]
  ·intro k ⟨hk, hr⟩
   by_cases hlt : k < S.length
   ·have hltW : k < W.length := by omega
    rw [qem hlt hltW] at hr
    have H1 := zgc S[k]
    have H2 := zcz (S.take k) S[k]
    have H3 := zfd W[k] v 100
    rw [zb6, List.map_take] at H2
    have hkS : k <= S.length := hk
    cases g1 : zbz S[k]
    ·rw [g1] at H1 hr
     rw [hr]
     simp -implicitDefEqProofs only [go_sem, hlt, zbq S hlt]
     refine drawn (by kernel_rfl) ?_
     simp -implicitDefEqProofs only [go_sem]
     refine zau (H1) (by simp -implicitDefEqProofs only [go_sem]) ?_
     simp -implicitDefEqProofs only [go_sem]
     kernel_rfl
    rw [g1] at H1 hr
    cases g2 : (S.take k).contains S[k]
    ·rw [g2] at H2 hr
     cases g3 : inB W[k] v 100
     ·rw [g3] at H3 hr
      rw [hr]
      simp -implicitDefEqProofs only [go_sem, hlt, zbq S hlt]
      refine drawn (by kernel_rfl) ?_
      simp -implicitDefEqProofs only [go_sem]
      refine zau (H1) (by simp -implicitDefEqProofs only [go_sem, hkS, hltW, zb2 W hltW]) ?_
      simp -implicitDefEqProofs only [go_sem, hkS, hltW, zb2 W hltW]
      refine zb3 (H2) (by simp -implicitDefEqProofs only [go_sem, hltW, zb2 W hltW]) ?_
      simp -implicitDefEqProofs only [go_sem, hltW, zb2 W hltW]
      refine zb3 (H3) (by simp -implicitDefEqProofs only [go_sem]) ?_
      simp -implicitDefEqProofs only [go_sem]
      kernel_rfl
     ·rw [g3] at H3 hr
      simp -implicitDefEqProofs only [go_sem, hlt, zbq S hlt]
      refine drawn (by kernel_rfl) ?_
      simp -implicitDefEqProofs only [go_sem]
      refine zau (H1) (by simp -implicitDefEqProofs only [go_sem, hkS, hltW, zb2 W hltW]) ?_
      simp -implicitDefEqProofs only [go_sem, hkS, hltW, zb2 W hltW]
      refine zb3 (H2) (by simp -implicitDefEqProofs only [go_sem, hltW, zb2 W hltW]) ?_
      simp -implicitDefEqProofs only [go_sem, hltW, zb2 W hltW]
      refine zb3 (H3) (by simp -implicitDefEqProofs only [go_sem]) ?_
      simp -implicitDefEqProofs only [go_sem]
      refine ⟨by kernel_rfl, k + 1, ⟨hlt, hr⟩, by omega, zab ?_⟩
      simp -implicitDefEqProofs only [go_sem]
      rw [zaq (by omega)]
    ·rw [g2] at H2 hr
     rw [hr]
     simp -implicitDefEqProofs only [go_sem, hlt, zbq S hlt]
     refine drawn (by kernel_rfl) ?_
     simp -implicitDefEqProofs only [go_sem]
     refine zau (H1) (by simp -implicitDefEqProofs only [go_sem, hkS]) ?_
     simp -implicitDefEqProofs only [go_sem, hkS]
     refine zb3 (H2) (by simp -implicitDefEqProofs only [go_sem]) ?_
     simp -implicitDefEqProofs only [go_sem]
     kernel_rfl
   ·rw [zuk (by omega)] at hr
    rw [hr]
    simp -implicitDefEqProofs only [go_sem, hlt]
 ·rw [decide_eq_false h2]
  rw [decide_eq_false h2] at hlb
  refine zan Tryz.call23 Tryz.func23 rfl (by kernel_rfl) (za2 (by kernel_rfl)) ?_
  simp -implicitDefEqProofs only [go_sem, Tryz.results23]
  refine callF (HW1) (by simp -implicitDefEqProofs only [go_sem, hlb]) ?_
  simp -implicitDefEqProofs only [go_sem, hlb]
end Go.Proofs.YtaaniggpnljckaaGreat
namespace Go.Proofs
open Go.Shelf
set_option maxRecDepth 100000
def Tryz.lays190_ren : Go.Shelf.Ren := ⟨fun | 190 => 117 | 125 => 120 | 258 => 119 | 128 => 131 | 129 => 132 | 302 => 122 | 303 => 123 | 304 => 124 | 305 => 125 | 306 => 126 | 307 => 127 | 308 => 128 | 309 => 129 | 310 => 130 | 333 => 133 | 329 => 134 | 330 => 135 | 334 => 136 | 335 => 137 | 336 => 138 | 344 => 139 | n => n, fun | 31 => 24 | 9 => 9 | 3 => 3 | 46 => 91 | 0 => 0 | 51 => 126 | 53 => 44 | 4 => 4 | 183 => 119 | 182 => 118 | 131 => 31 | 5 => 5 | 218 => 128 | 222 => 132 | 228 => 134 | 229 => 135 | n => n, fun | n => n⟩
theorem Tryz.lays190 : Go.Proofs.Lays.n190 Tryz.prog Tryz.lays190_ren := {
 mixed := by kernel_rfl
 f125 := Tryz.func120.trans (congrArg some (by kernel_rfl))
 f128 := Tryz.func131.trans (congrArg some (by kernel_rfl))
 f129 := Tryz.func132.trans (congrArg some (by kernel_rfl))
 f190 := Tryz.func117.trans (congrArg some (by kernel_rfl))
 f258 := Tryz.func119.trans (congrArg some (by kernel_rfl))
 f302 := Tryz.func122.trans (congrArg some (by kernel_rfl))
 f303 := Tryz.func123.trans (congrArg some (by kernel_rfl))
 f304 := Tryz.func124.trans (congrArg some (by kernel_rfl))
 f305 := Tryz.func125.trans (congrArg some (by kernel_rfl))
 f306 := Tryz.func126.trans (congrArg some (by kernel_rfl))
 f307 := Tryz.func127.trans (congrArg some (by kernel_rfl))
 f308 := Tryz.func128.trans (congrArg some (by kernel_rfl))
 f309 := Tryz.func129.trans (congrArg some (by kernel_rfl))
 f310 := Tryz.func130.trans (congrArg some (by kernel_rfl))
 f329 := Tryz.func134.trans (congrArg some (by kernel_rfl))
 f330 := Tryz.func135.trans (congrArg some (by kernel_rfl))
 f333 := Tryz.func133.trans (congrArg some (by kernel_rfl))
 f334 := Tryz.func136.trans (congrArg some (by kernel_rfl))
 f335 := Tryz.func137.trans (congrArg some (by kernel_rfl))
 f336 := Tryz.func138.trans (congrArg some (by kernel_rfl))
 f344 := Tryz.func139.trans (congrArg some (by kernel_rfl))
 t0 := Tryz.underlying0
 a0 := Tryz.isAgg0
 z0 := Tryz.sizeOf0
 v0 := Tryz.zeroValue0
 t3 := Tryz.underlying3
 a3 := Tryz.isAgg3
 z3 := Tryz.sizeOf3
 v3 := Tryz.zeroValue3
 t4 := Tryz.underlying4
 a4 := Tryz.isAgg4
 z4 := Tryz.sizeOf4
 v4 := Tryz.zeroValue4
 t5 := Tryz.underlying5
 a5 := Tryz.isAgg5
 z5 := Tryz.sizeOf5
 v5 := Tryz.zeroValue5
 t9 := Tryz.underlying9
 a9 := Tryz.isAgg9
 z9 := Tryz.sizeOf9
 v9 := Tryz.zeroValue9
 t31 := Tryz.underlying24
 a31 := Tryz.isAgg24
 z31 := Tryz.sizeOf24
 v31 := Tryz.zeroValue24
 t46 := Tryz.underlying91
 a46 := Tryz.isAgg91
 z46 := Tryz.sizeOf91
 v46 := Tryz.zeroValue91
 t51 := Tryz.underlying126
 a51 := Tryz.isAgg126
 z51 := Tryz.sizeOf126
 v51 := Tryz.zeroValue126
 t53 := Tryz.underlying44
 a53 := Tryz.isAgg44
 z53 := Tryz.sizeOf44
 v53 := Tryz.zeroValue44
 t131 := Tryz.underlying31
 a131 := Tryz.isAgg31
 z131 := Tryz.sizeOf31
 v131 := Tryz.zeroValue31
 t182 := Tryz.underlying118
 a182 := Tryz.isAgg118
 z182 := Tryz.sizeOf118
 v182 := Tryz.zeroValue118
 t183 := Tryz.underlying119
 a183 := Tryz.isAgg119
 z183 := Tryz.sizeOf119
 v183 := Tryz.zeroValue119
 t218 := Tryz.underlying128
 a218 := Tryz.isAgg128
 z218 := Tryz.sizeOf128
 v218 := Tryz.zeroValue128
 t222 := Tryz.underlying132
 a222 := Tryz.isAgg132
 z222 := Tryz.sizeOf132
 v222 := Tryz.zeroValue132
 t228 := Tryz.underlying134
 a228 := Tryz.isAgg134
 z228 := Tryz.sizeOf134
 v228 := Tryz.zeroValue134
 t229 := Tryz.underlying135
 a229 := Tryz.isAgg135
 z229 := Tryz.sizeOf135
 v229 := Tryz.zeroValue135 }
end Go.Proofs
namespace Go.Proofs.YtaaniggpnljckaaGreat
set_option linter.unusedSimpArgs false
set_option linter.unusedVariables false
set_option linter.unusedSectionVars false
set_option maxRecDepth 4000
open Go.RowKit
theorem zzg (ss : List Str) (hl : ss.length <= 1099511627776) : IC Tryz.prog 117 [] (.one (zb6 ss)) [] (.one (zb6 (zg4 ss))) [] :=
 qe7 Tryz.call117 (fun blk off cap ss w h1 h2 h3 => Any.slices_Sort_string Tryz.lays190 blk off cap ss w h1 h2 h3) (fun p cap w => Any.slices_Sort_string_none Tryz.lays190 p cap w) ss (by omega)
theorem l2In_c (xs : List Str) (s : Str) : FC Tryz.prog 48 [.one (zb6 xs), sD s] [bD (xs.contains s)] := by
 refine zg6 (fun hw => ?_) Tryz.call48
 have hl : xs.length <= 9223372036854775807 := by simpa [zn6, wfT] using hw.1.1
 refine zan Tryz.call48 Tryz.func48 rfl (by kernel_rfl) (za2 (by kernel_rfl)) ?_
 simp -implicitDefEqProofs only [go_sem, Tryz.results48]
 refine zaj (fun k : Nat => hd [(0, vT (zb6 xs)), (1, vT (.str s)), (5, vI k)] [] []) (fun k => k <= xs.length /\ s ∉ xs.take k) (fun k => xs.length - k) 0 (zab ?_) ?_ ?_
 ·simp -implicitDefEqProofs only [go_sem]
 ·simp
 ·intro k ⟨hk, hr⟩
  by_cases hlt : k < xs.length
  ·simp -implicitDefEqProofs only [go_sem, zaf, hlt]
   refine ⟨fun h => ?_, fun h => ?_⟩
   ·have e : xs[k] = s := by simpa using h
    rw [List.contains_iff_mem.2 (e ▸ List.getElem_mem hlt)]
   ·have e : xs[k] ≠ s := by simpa using h
    exact ⟨k + 1, ⟨hlt, zdx hlt hr e⟩, by omega, zab (by simp -implicitDefEqProofs only [go_sem]; rw [zaq (by omega)])⟩
  ·simp -implicitDefEqProofs only [go_sem, hlt]
   rw [List.take_of_length_le (by omega)] at hr
   simpa using hr
theorem zpy {α : Type} {p : α -> Bool} : ∀ {l : List α} {k : Nat}, k <= l.length -> (∀ x ∈ l.take k, p x = true) -> (∀ h : k < l.length, p l[k] = false) -> l.takeWhile p = l.take k /\ l.dropWhile p = l.drop k
 | [], k, hk, _, _ => by simp
 | a :: l, 0, hk, _, h2 => by have := h2 (by simp); simp only [List.getElem_cons_zero] at this; simp [this]
 | a :: l, k + 1, hk, h1, h2 => by
  have ha := h1 a (by simp)
  obtain ⟨e1, e2⟩ := zpy (l := l) (k := k) (by simpa using hk) (fun x hx => h1 x (by simp [hx])) (fun h => h2 (by simpa using h))
  simp [ha, e1, e2]
theorem zv2 {l : List Str} {s : Str} {k : Nat} (hk : k <= l.length) (h1 : ∀ x ∈ l.take k, Op.bytesLess x s = true) (h2 : ∀ h : k < l.length, Op.bytesLess l[k] s = false) : ztw l s = if (l.drop k).head? = some s then l else l.take k ++ [s] ++ l.drop k := by
 obtain ⟨e1, e2⟩ := zpy (p := fun x => Op.bytesLess x s) hk h1 h2
 unfold ztw
 rw [e1, e2]
theorem flR_of {rows : List (List T)} (h : ∀ r ∈ rows, r.all T.flat = true) : flR rows = true := by
 induction rows with
 | nil => rfl
 | cons r rs ih => unfold flR; rw [h r (by simp), ih fun r hr => h r (by simp [hr])]; rfl
theorem zfw (l : List Str) : flR (l.map fun s => [T.str s]) = true := flR_of fun r hr => by obtain ⟨s, _, rfl⟩ := List.mem_map.1 hr; rfl
theorem zbg (k : Nat) (l : List Str) : flR ((l.map fun s => [T.str s]).take k) = true := by rw [<- List.map_take]; exact zfw _
theorem zbf (k : Nat) (l : List Str) : flR ((l.map fun s => [T.str s]).drop k) = true := by rw [<- List.map_drop]; exact zfw _
theorem zcv {α β : Type} (f : α -> β) (l : List α) : (l.map f).take l.length = l.map f := List.take_of_length_le (by simp)
theorem qge (l : List Str) (s : Str) (hl : l.length <= 2147483648) : GC Tryz.prog 121 [(true, .one (zb6 l)), (false, sD s)] [.one (zb6 (ztw l s))] := by
 refine GC_of Tryz.call121 Tryz.func121 rfl (by kernel_rfl) (by simp only [List.length_cons, List.length_nil, Tryz.ntmps121]; omega) (by simp [zar, T.isPin]) ?_
 simp -implicitDefEqProofs only [go_sem, Tryz.results121]
 refine zaj (fun k : Nat => hd [(0, .one (.ow 0 0)), (1, vT (.str s)), (5, vI k)] [] [(0, ⟨true, 1, l.map fun s => [.str s], 0, true⟩)]) (fun k => k <= l.length /\ ∀ x ∈ l.take k, Op.bytesLess x s = true) (fun k => l.length - k) 0 (zab ?_) ?_ ?_
 ·simp -implicitDefEqProofs only [go_sem]
 ·simp
 ·intro k ⟨hk, hr⟩
  have hm1 : min k l.length <= 4294967296 := by omega
  have hm2 : min k l.length <= 4294967295 := by omega
  have hm3 : min k l.length + 1 + (l.length - k) <= 4294967296 := by omega
  by_cases hlt : k < l.length
  ·have hnx : ∀ {b}, Op.bytesLess l[k] s = b -> b = true -> ∀ x ∈ l.take (k + 1), Op.bytesLess x s = true := fun {b} e hb x hx => by
    rw [List.take_succ_eq_append_getElem hlt] at hx
    rcases List.mem_append.1 hx with hx | hx
    ·exact hr x hx
    ·rw [List.mem_singleton.1 hx, e, hb]
   simp -implicitDefEqProofs only [go_sem, zaf, hlt]
   refine ⟨fun h => ⟨k + 1, ⟨hlt, hnx rfl h⟩, by omega, zab (by simp -implicitDefEqProofs only [go_sem]; rw [zaq (by omega)])⟩, fun h => ?_⟩
   have hp := zv2 hk hr (fun _ => h)
   have hh : (l.drop k).head? = some l[k] := by rw [List.head?_drop, List.getElem?_eq_getElem hlt]
   refine ⟨fun h2 => ?_, fun h2 => ?_⟩
   ·rw [hp, if_pos (by rw [hh]; simpa using h2)]
   ·rw [if_neg (by rw [hh]; simpa using h2)] at hp
    refine frzD 0 ?_
    simp -implicitDefEqProofs only [go_sem]
    refine drawn (by kernel_rfl) ?_
    simp -implicitDefEqProofs only [go_sem, hk]
    refine zb7 (by simp -implicitDefEqProofs only [go_sem, hk]) ?_
    simp -implicitDefEqProofs only [go_sem, hk]
    refine zlk true (by simp -implicitDefEqProofs only [go_sem, hk, ne_eq, Nat.zero_add, hm1, hm2, hm3, zbg, zbf, zcv, List.length_drop, List.length_take, List.length_append, List.length_map]) ?_
    simp -implicitDefEqProofs only [go_sem, hk, ne_eq, Nat.zero_add, hm1, hm2, hm3, zbg, zbf, zcv, List.length_drop, List.length_take, List.length_append, List.length_map]
    refine zb7 (by simp -implicitDefEqProofs only [go_sem, hk]) ?_
    simp -implicitDefEqProofs only [go_sem, hk]
    refine zlk true (by simp -implicitDefEqProofs only [go_sem, hk, ne_eq, Nat.zero_add, hm1, hm2, hm3, zbg, zbf, zcv, List.length_drop, List.length_take, List.length_append, List.length_map]) ?_
    simp -implicitDefEqProofs only [go_sem, hk, ne_eq, Nat.zero_add, hm1, hm2, hm3, zbg, zbf, zcv, List.length_drop, List.length_take, List.length_append, List.length_map]
    refine zlk true (by simp -implicitDefEqProofs only [go_sem, hk, ne_eq, Nat.zero_add, hm1, hm2, hm3, zbg, zbf, zcv, List.length_drop, List.length_take, List.length_append, List.length_map]) ?_
    simp -implicitDefEqProofs only [go_sem, hk, ne_eq, Nat.zero_add, hm1, hm2, hm3, zbg, zbf, zcv, List.length_drop, List.length_take, List.length_append, List.length_map]
    refine ⟨by kernel_rfl, ?_⟩
    rw [hp]; simp
  ·simp -implicitDefEqProofs only [go_sem, hlt]
   have hp := zv2 hk hr (fun h => absurd h hlt)
   rw [if_neg (by rw [List.drop_of_length_le (by omega)]; simp)] at hp
   refine frzD 0 ?_
   simp -implicitDefEqProofs only [go_sem]
   refine drawn (by kernel_rfl) ?_
   simp -implicitDefEqProofs only [go_sem, hk]
   refine zb7 (by simp -implicitDefEqProofs only [go_sem, hk]) ?_
   simp -implicitDefEqProofs only [go_sem, hk]
   refine zlk true (by simp -implicitDefEqProofs only [go_sem, hk, ne_eq, Nat.zero_add, hm1, hm2, hm3, zbg, zbf, zcv, List.length_drop, List.length_take, List.length_append, List.length_map]) ?_
   simp -implicitDefEqProofs only [go_sem, hk, ne_eq, Nat.zero_add, hm1, hm2, hm3, zbg, zbf, zcv, List.length_drop, List.length_take, List.length_append, List.length_map]
   refine zb7 (by simp -implicitDefEqProofs only [go_sem, hk]) ?_
   simp -implicitDefEqProofs only [go_sem, hk]
   refine zlk true (by simp -implicitDefEqProofs only [go_sem, hk, ne_eq, Nat.zero_add, hm1, hm2, hm3, zbg, zbf, zcv, List.length_drop, List.length_take, List.length_append, List.length_map]) ?_
   simp -implicitDefEqProofs only [go_sem, hk, ne_eq, Nat.zero_add, hm1, hm2, hm3, zbg, zbf, zcv, List.length_drop, List.length_take, List.length_append, List.length_map]
   refine zlk true (by simp -implicitDefEqProofs only [go_sem, hk, ne_eq, Nat.zero_add, hm1, hm2, hm3, zbg, zbf, zcv, List.length_drop, List.length_take, List.length_append, List.length_map]) ?_
   simp -implicitDefEqProofs only [go_sem, hk, ne_eq, Nat.zero_add, hm1, hm2, hm3, zbg, zbf, zcv, List.length_drop, List.length_take, List.length_append, List.length_map]
   refine ⟨by kernel_rfl, ?_⟩
   rw [hp]; simp
end Go.Proofs.YtaaniggpnljckaaGreat
