/-
  The walk over plain data, and contracts of functions of the program and of its laws.
  Conditions: those that each theorem names.
-/
import Derived.Test.YtbccfiillleimaaGreatQ6
import Derived.Test.YtbccfiillleimaaGreatQ5
import Derived.RangeFuncNested
import Derived.RangeFuncBound
import Derived.RangeFuncCalls
import Derived.TacticsInMore
import Derived.LoopNIn
import Derived.LoopIn
namespace Go.Proofs.YtbccfiillleimaaGreat
set_option linter.unusedSimpArgs false
set_option linter.unusedVariables false
set_option linter.unusedSectionVars false
set_option maxRecDepth 4000
open Go.RowKit
theorem qdq (s : Str) : FC Tryz.prog 260 [sD s] [bD false] := by
 refine zaj Tryz.call260 Tryz.func260 rfl (by kernel_rfl) (zav (by kernel_rfl)) ?_
 simp -implicitDefEqProofs only [go_sem, Tryz.results260]
 simp
def zph (s t : Str) : Int := if Op.bytesLess s t = true then -1 else if (s == t) = true then 0 else 1
theorem qg1 (s t : Str) : FC Tryz.prog 269 [sD s, sD t] [iD (zph s t)] := by
 have hc : zph s t = if Op.bytesLess s t = true then -1 else if (s == t) = true then 0 else 1 := rfl
 refine zaj Tryz.call269 Tryz.func269 rfl (by kernel_rfl) (zav (by kernel_rfl)) ?_
 simp -implicitDefEqProofs only [go_sem, Tryz.results269]
 refine callF (qdq s) (by simp -implicitDefEqProofs only [go_sem]) ?_
 simp -implicitDefEqProofs only [go_sem]
 refine callF (qdq t) (by simp -implicitDefEqProofs only [go_sem]) ?_
 simp -implicitDefEqProofs only [go_sem]
 refine ⟨fun h => by rw [hc, if_pos h], fun h => ⟨fun h2 => ?_, fun h2 => ?_⟩⟩
 ·rw [h, Bool.false_or, Bool.not_eq_true'] at h2
  rw [hc, h, h2]; rfl
 ·rw [h, Bool.false_or, Bool.not_eq_false'] at h2
  rw [hc, h, h2]; rfl
def bnC (p : Str × Tm) : List T := .str p.1 :: tmC p.2
def sbS (l : List (Str × Tm)) : T := .sl 3 (l.map bnC)
theorem zh8 (n : Str) (t : Tm) : bnC (n, t) = [.str n, .str t.name, .sl 2 (t.args.map tmC)] := by unfold bnC; rw [zaa]
theorem qb7 (n : Str) (t : Tm) (x : Str) : FC Tryz.prog 268 [.agg (bnC (n, t)), sD x] [iD (zph n x)] := by
 rw [zh8]
 refine zaj Tryz.call268 Tryz.func268 rfl (by kernel_rfl) (zav (by kernel_rfl)) ?_
 simp -implicitDefEqProofs only [go_sem, Tryz.results268]
 refine callF (qg1 n x) (by simp -implicitDefEqProofs only [go_sem]) ?_
 simp -implicitDefEqProofs only [go_sem]
theorem zvs (n : Str) (t : Tm) (x : Str) : FC Tryz.prog 267 [.one (sbS [(n, t)]), sD x, .one (.fn 268 [])] [iD (if Op.bytesLess n x = true then 1 else 0), bD (n == x)] := by
 have H := qb7 n t x
 have hS : sbS [(n, t)] = .sl 3 [bnC (n, t)] := rfl
 rw [hS]
 rw [zh8] at H ⊢
 have hc : zph n x = if Op.bytesLess n x = true then -1 else if (n == x) = true then 0 else 1 := rfl
 refine zaj Tryz.call267 Tryz.func267 rfl (by kernel_rfl) (zav (by kernel_rfl)) ?_
 simp -implicitDefEqProofs only [go_sem, Tryz.results267]
 refine zae (fun p : Nat × Nat => hd [(0, vT (.sl 3 [[.str n, .str t.name, .sl 2 (t.args.map tmC)]])), (1, vT (.str x)), (2, vT (.fn 268 [])), (8, vI (1 : Nat)), (9, vI p.1), (10, vI p.2)] [] []) (fun p => p = (0, 1) \/ (p = (1, 1) /\ Op.bytesLess n x = true) \/ (p = (0, 0) /\ Op.bytesLess n x = false)) (fun p => p.2 - p.1) (0, 1) (zac ?_) (Or.inl rfl) ?_
 ·simp -implicitDefEqProofs only [go_sem]
 ·rintro p (rfl | ⟨rfl, hl⟩ | ⟨rfl, hl⟩)
  ·have hz : (IntKind.u64.wrap (IntKind.i64.wrap 1)).fdiv (2 ^ min 1 64) = 0 := by decide
   have hz2 : IntKind.i64.wrap 0 = 0 := by decide
   simp -implicitDefEqProofs only [go_sem, hz, hz2]
   refine callF (H) (by simp -implicitDefEqProofs only [go_sem]) ?_
   simp -implicitDefEqProofs only [go_sem]
   cases hl : Op.bytesLess n x
   ·have hi : decide (zph n x < 0) = false := by rw [hc, hl]; cases n == x <;> rfl
    simp -implicitDefEqProofs only [go_sem, hi]
    refine ⟨(0, 0), Or.inr (Or.inr rfl), by decide, zac ?_⟩
    simp -implicitDefEqProofs only [go_sem]
   ·have hi : decide (zph n x < 0) = true := by rw [hc, hl]; rfl
    have hz3 : IntKind.i64.wrap 1 = 1 := by decide
    simp -implicitDefEqProofs only [go_sem, hi]
    refine ⟨(1, 1), Or.inr (Or.inl rfl), by decide, zac ?_⟩
    simp -implicitDefEqProofs only [go_sem, hz3]
  ·rw [if_pos hl]
   simp -implicitDefEqProofs only [go_sem]
   have : (n == x) = false := by
    rw [beq_eq_false_iff_ne]
    rintro rfl
    rw [zim, decide_eq_true_eq] at hl
    exact zha n hl
   rw [this]
  ·rw [hl, if_neg (by simp)]
   simp -implicitDefEqProofs only [go_sem]
   refine callF (H) (by simp -implicitDefEqProofs only [go_sem]) ?_
   simp -implicitDefEqProofs only [go_sem]
   rw [hc, hl]
   cases n == x <;> rfl
theorem zx1 (n : Str) (t : Tm) : XC Tryz.prog 264 [(false, .agg [sbS [(n, t)]]), (false, sD n)] [(false, tmD t), (true, bD true)] := by
 have H := zvs n t n
 rw [show Op.bytesLess n n = false by rw [zim, decide_eq_false_iff_not]; exact zha n, beq_self_eq_true] at H
 have hS : sbS [(n, t)] = .sl 3 [bnC (n, t)] := rfl
 rw [hS, zh8] at H ⊢
 simp only [tmD, zaa]
 refine XC_of Tryz.call264 Tryz.func264 rfl (by kernel_rfl) (by simp only [List.length_cons, List.length_nil, Tryz.ntmps264]; omega) (by simp [zbm, T.isPin]) ?_
 simp -implicitDefEqProofs only [go_sem, Tryz.results264]
 refine callF (H) (by simp -implicitDefEqProofs only [go_sem]) ?_
 simp -implicitDefEqProofs only [go_sem]
theorem qd6 (n : Str) (t : Tm) (x : Str) (h : (n == x) = false) : XC Tryz.prog 264 [(false, .agg [sbS [(n, t)]]), (false, sD x)] [(false, tmD (.mk [] [])), (true, bD false)] := by
 have H := zvs n t x
 rw [h] at H
 have hS : sbS [(n, t)] = .sl 3 [bnC (n, t)] := rfl
 rw [hS, zh8] at H ⊢
 simp only [tmD, zaa]
 refine XC_of Tryz.call264 Tryz.func264 rfl (by kernel_rfl) (by simp only [List.length_cons, List.length_nil, Tryz.ntmps264]; omega) (by simp [zbm, T.isPin]) ?_
 simp -implicitDefEqProofs only [go_sem, Tryz.results264]
 refine callF (H) (by simp -implicitDefEqProofs only [go_sem]) ?_
 simp -implicitDefEqProofs only [go_sem]
 exact Or.inl ⟨rfl, rfl⟩
def zfp (n : Str) (t : Tm) : Tm -> Tm := Tm.fold fun m _ rs => if rs.length = 0 then (if (n == m) = true then t else .mk m []) else .mk m rs
theorem zo4 (n : Str) (t a : Tm) : zfp n t a = if a.args.length = 0 then (if (n == a.name) = true then t else .mk a.name []) else .mk a.name (a.args.map (zfp n t)) := by
 unfold zfp
 rw [Tm.fold_eq]
 simp only [List.length_map]
theorem qfg (n : Str) (t : Tm) (ht : t.wt <= 1048576) (a : Tm) (ha : a.args.length <= 1048576) (H : ∀ x ∈ a.args, FC Tryz.prog 251 [.agg [sbS [(n, t)]], tmD x] [tmD (zfp n t x)]) : FC Tryz.prog 251 [.agg [sbS [(n, t)]], tmD a] [tmD (zfp n t a)] := by
 have hv := zo4 n t a
 have HY := zx1 n t
 have HN := qd6 n t
 have HK := zew t ht
 have hS : sbS [(n, t)] = .sl 3 [bnC (n, t)] := rfl
 rw [hS, zh8] at HY HN H ⊢
 by_cases h0 : a.args.length = 0
 ·rw [if_pos h0] at hv
  cases hn : n == a.name
  ·have HN := HN a.name hn
   rw [hn, if_neg (by simp)] at hv
   rw [hv]
   have HN : XC Tryz.prog 264 [(false, .agg [.sl 3 [[.str n, .str t.name, .sl 2 (t.args.map tmC)]]]), (false, sD a.name)] [(false, .agg [.str [], .sl 2 []]), (true, bD false)] := HN
   have e1 : tmD (.mk a.name []) = .agg [.str a.name, .sl 2 []] := rfl
   rw [e1]
   simp only [tmD, zaa a]
   refine zcv Tryz.call251 Tryz.func251 rfl (by kernel_rfl) (zav (by kernel_rfl)) ?_
   simp -implicitDefEqProofs only [go_sem, Tryz.results251, h0]
   refine qj8 [3, 4] [15, 17] [] (HN) (by simp -implicitDefEqProofs only [go_sem]) (by simp -implicitDefEqProofs only [go_sem]) (by simp -implicitDefEqProofs only [go_sem]) (by simp -implicitDefEqProofs only [go_sem]) ?_
   simp -implicitDefEqProofs only [go_sem]
  ·have hn' : n = a.name := by simpa using hn
   rw [hn, if_pos rfl] at hv
   rw [hv]
   rw [hn'] at HY ⊢
   simp only [tmD, zaa] at HY HK ⊢
   refine zcv Tryz.call251 Tryz.func251 rfl (by kernel_rfl) (zav (by kernel_rfl)) ?_
   simp -implicitDefEqProofs only [go_sem, Tryz.results251, h0]
   refine qj8 [3, 4] [15, 17] [] (HY) (by simp -implicitDefEqProofs only [go_sem]) (by simp -implicitDefEqProofs only [go_sem]) (by simp -implicitDefEqProofs only [go_sem]) (by simp -implicitDefEqProofs only [go_sem]) ?_
   simp -implicitDefEqProofs only [go_sem]
   refine callF (HK) (by simp -implicitDefEqProofs only [go_sem]) ?_
   simp -implicitDefEqProofs only [go_sem]
 ·have hb : ((a.args.length : Int) == 0) = false := by
   rw [beq_eq_false_iff_ne]; omega
  rw [if_neg h0] at hv
  rw [hv]
  have e1 : tmD (.mk a.name (a.args.map (zfp n t))) = .agg [.str a.name, .sl 2 (a.args.map fun x => tmC (zfp n t x))] := by unfold tmD; rw [zaa]; simp only [Tm.name, Tm.args, List.map_map, Function.comp_def]
  rw [e1]
  simp only [tmD, zaa a] at H ⊢
  refine zaj Tryz.call251 Tryz.func251 rfl (by kernel_rfl) (zav (by kernel_rfl)) ?_
  simp -implicitDefEqProofs only [go_sem, Tryz.results251, hb]
  refine drawn (by kernel_rfl) ?_
  simp -implicitDefEqProofs only [go_sem]
  refine dMakeD (by simp -implicitDefEqProofs only [go_sem]; omega) ?_
  simp -implicitDefEqProofs only [go_sem]
  refine ⟨by kernel_rfl, ?_⟩
  refine zae (fun k : Nat => hd [(2, .one (.bx 2 0)), (4, .one (.bx 4 0)), (7, .one (.bx 7 0)), (35, vT (tmS a.args)), (36, vI a.args.length), (37, vI k)] [(2, [.t (.sl 3 [[.str n, .str t.name, .sl 2 (t.args.map tmC)]])]), (4, [.t (.str []), .nl 2]), (7, [.t (.str a.name), .ow 1024 0])] [(1024, ⟨true, 2, ((a.args.take k).map fun x => tmC (zfp n t x)) ++ List.replicate (a.args.length - k) [.str [], .sl 2 []], 0, true⟩)]) (fun k => k <= a.args.length) (fun k => a.args.length - k) 0 (zac ?_) (Nat.zero_le _) ?_
  ·simp -implicitDefEqProofs only [go_sem]
   simp
  ·intro k hk
   by_cases hlt : k < a.args.length
   ·have hlen : ((a.args.take k).map (fun x => tmC (zfp n t x)) ++ List.replicate (a.args.length - k) [T.str [], T.sl 2 []]).length = a.args.length := by simp; omega
    have HC := H a.args[k] (List.getElem_mem hlt)
    have hlt2 : k < k + (a.args.length - k) := by omega
    simp only [zaa a.args[k], zaa (zfp n t a.args[k])] at HC
    simp -implicitDefEqProofs only [go_sem, List.length_map, zad, hlt, zaa a.args[k]]
    refine drawn (by kernel_rfl) ?_
    simp -implicitDefEqProofs only [go_sem]
    refine zao (HC) (by simp -implicitDefEqProofs only [go_sem, hlen, hlt, List.length_append, List.length_map, List.length_take, List.length_replicate, Nat.min_eq_left hk, hlt2]) ?_
    simp -implicitDefEqProofs only [go_sem, hlen, hlt, List.length_append, List.length_map, List.length_take, List.length_replicate, Nat.min_eq_left hk, hlt2]
    refine qmp (by simp -implicitDefEqProofs only [go_sem]; simp) ?_
    simp -implicitDefEqProofs only [go_sem]
    refine ⟨by kernel_rfl, k + 1, hlt, by omega, zac ?_⟩
    simp -implicitDefEqProofs only [go_sem]
    have hf := zgd ((a.args.take k).map fun x => tmC (zfp n t x)) a.args.length k [T.str [], T.sl 2 []] (tmC (zfp n t a.args[k])) (by simp; omega) hlt (by simp [zaa])
    rw [zap (by omega), <- zaa (zfp n t a.args[k]), hf, List.take_succ_eq_append_getElem hlt, List.map_append, List.map_singleton]
    exact ⟨rfl, rfl⟩
   ·have ht : a.args.take k = a.args := List.take_of_length_le (by omega)
    simp -implicitDefEqProofs only [go_sem, hlt, ht]
    simp [show a.args.length - k = 0 by omega]
theorem ql0 (n : Str) (t : Tm) (ht : t.wt <= 1048576) : ∀ a : Tm, a.wt <= 1048576 -> FC Tryz.prog 251 [.agg [sbS [(n, t)]], tmD a] [tmD (zfp n t a)] :=
 zbp fun m xs ih hs => by
  obtain ⟨h1, h2⟩ := Tm.wt_args hs
  exact qfg n t ht (.mk m xs) h1 fun x hx => ih x hx (h2 x hx)
def zh0 (n : Str) : Tm -> Nat := Tm.fold fun m _ rs => (if (m == n) = true then 1 else 0) + rs.sum
theorem zsa (n : Str) (a : Tm) : zh0 n a = (if (a.name == n) = true then 1 else 0) + (a.args.map (zh0 n)).sum := by unfold zh0; rw [Tm.fold_eq]
theorem zww (n : Str) : ∀ a : Tm, zh0 n a <= a.nodes := zbp fun m xs ih => by
 rw [zsa, Tm.nodes_eq]
 have : (xs.map (zh0 n)).sum <= (xs.map Tm.nodes).sum := by
  revert ih
  induction xs with
  | nil => simp
  | cons x xs ih2 =>
   intro ih
   have h1 := ih x (by simp)
   have h2 := ih2 fun y hy => ih y (by simp [hy])
   simp only [List.map_cons, List.sum_cons]
   omega
 show (if (m == n) = true then 1 else 0) + (xs.map (zh0 n)).sum <= 1 + (xs.map Tm.nodes).sum
 split <;> omega
theorem zqm (n : Str) (a : Tm) (ha : a.wt <= 1099511627776) (H : ∀ x ∈ a.args, FC Tryz.prog 263 [tmD x, sD n] [iD (zh0 n x)]) : FC Tryz.prog 263 [tmD a, sD n] [iD (zh0 n a)] := by
 have hv := zsa n a
 have hN := ze7 a
 have hNe := a.nodes_eq
 have hle := zww n a
 simp only [tmD, zaa a]
 refine zaj Tryz.call263 Tryz.func263 rfl (by kernel_rfl) (zav (by kernel_rfl)) ?_
 simp -implicitDefEqProofs only [go_sem, Tryz.results263]
 obtain ⟨z, hz⟩ : ∃ z : Nat, (if (a.name == n) = true then 1 else 0) = z := ⟨_, rfl⟩
 rw [hz] at hv
 cases hn : a.name == n
 all_goals
  rw [hn] at hz
  simp only [Bool.false_eq_true, if_true, if_false] at hz
  simp -implicitDefEqProofs only [go_sem, hn]
  refine zae (fun k : Nat => hd [(1, vT (.str n)), (5, vI (z + ((a.args.take k).map (zh0 n)).sum : Nat)), (13, vT (tmS a.args)), (14, vI a.args.length), (15, vI k)] [] []) (fun k => k <= a.args.length) (fun k => a.args.length - k) 0 (zac ?_) (Nat.zero_le _) ?_
  ·simp -implicitDefEqProofs only [go_sem]
   subst hz
   rfl
  ·intro k hk
   by_cases hlt : k < a.args.length
   ·have HC := H a.args[k] (List.getElem_mem hlt)
    simp only [tmD, zaa a.args[k]] at HC
    have hsm : ((a.args.take (k + 1)).map (zh0 n)).sum = ((a.args.take k).map (zh0 n)).sum + zh0 n a.args[k] := by rw [List.take_succ_eq_append_getElem hlt, List.map_append, List.sum_append, List.map_singleton, List.sum_singleton]
    have hle2 : ((a.args.take (k + 1)).map (zh0 n)).sum <= (a.args.map (zh0 n)).sum := by
     have := congrArg (fun l => (l.map (zh0 n)).sum) (List.take_append_drop (k + 1) a.args)
     simp only [List.map_append, List.sum_append] at this
     omega
    have hlen : a.args.length <= a.wt := by have := a.wt_eq; omega
    simp -implicitDefEqProofs only [go_sem, zad, hlt, zaa a.args[k]]
    refine callF (HC) (by simp -implicitDefEqProofs only [go_sem]) ?_
    simp -implicitDefEqProofs only [go_sem]
    refine ⟨k + 1, hlt, by omega, zac ?_⟩
    simp -implicitDefEqProofs only [go_sem]
    rw [zap (by omega), zbh (by omega) (by omega), hsm]
    exact ⟨by congr 1; omega, rfl⟩
   ·simp -implicitDefEqProofs only [go_sem, hlt]
    rw [hv, List.take_of_length_le (by omega)]
theorem ztk (n : Str) : ∀ a : Tm, a.wt <= 1099511627776 -> FC Tryz.prog 263 [tmD a, sD n] [iD (zh0 n a)] :=
 zbp fun m xs ih hs => zqm n (.mk m xs) hs fun x hx => ih x hx (Nat.le_trans (znw (a := .mk m xs) hx) hs)
theorem qfo (n : Str) (a : Tm) (hs : a.wt <= 1099511627776) : FC Tryz.prog 249 [sD n, tmD a] [bD (decide (0 < zh0 n a))] := by
 have H := ztk n a hs
 simp only [tmD, zaa] at H ⊢
 have e : decide ((0 : Int) < (zh0 n a : Int)) = decide (0 < zh0 n a) := by rw [Bool.eq_iff_iff, decide_eq_true_eq, decide_eq_true_eq]; omega
 refine zaj Tryz.call249 Tryz.func249 rfl (by kernel_rfl) (zav (by kernel_rfl)) ?_
 simp -implicitDefEqProofs only [go_sem, Tryz.results249]
 refine callF (H) (by simp -implicitDefEqProofs only [go_sem]) ?_
 simp -implicitDefEqProofs only [go_sem]
 rw [e]
end Go.Proofs.YtbccfiillleimaaGreat
namespace Go.Proofs.YtbccfiillleimaaGreat
set_option linter.unusedSimpArgs false
set_option linter.unusedVariables false
set_option linter.unusedSectionVars false
set_option maxRecDepth 4000
open Go.RowKit
set_option maxHeartbeats 400000 in
theorem zkk (xs : List Ex) (H : ∀ x ∈ xs, ∀ l : Int, 0 <= l -> l <= 1048576 -> FC Tryz.prog 31 [exD x, iD l] [iD (szR x.wt l)]) (l : Int) (h0 : 0 <= l) (h1 : l <= 1048576) :
  FC Tryz.prog 82 [.one (exS xs), iD l] [iD (szR (zyt xs) l)] := by
 refine zc1 (fun hw => ?_) Tryz.call82
 have hl : xs.length <= 9223372036854775807 := by simpa [zfq, wfT] using hw.1.1
 refine zaj Tryz.call82 Tryz.func82 rfl (by kernel_rfl) (zav (by kernel_rfl)) ?_
 simp -implicitDefEqProofs only [go_sem, Tryz.results82]
 rw [zbh (by omega) (by omega)]
 have hW : zyt xs = xs.length + (xs.map Ex.wt).sum := rfl
 refine ⟨fun h => ?_, fun h => ?_⟩
 ·rw [zc9 (by simp at h; omega)]
 ·have hlen : (xs.length : Int) <= l := by simp at h; omega
  refine zae (fun k : Nat => hd [(0, vT (exS xs)), (1, vI (l - xs.length - zpf Ex.wt xs k)), (5, vI k)] [] []) (fun k => k <= xs.length /\ 0 <= l - xs.length - zpf Ex.wt xs k) (fun k => xs.length - k) 0 (zac ?_) ?_ ?_
  ·simp -implicitDefEqProofs only [go_sem]
   simp [zev]
  ·simpa [zev] using hlen
  ·intro k ⟨hk, hp⟩
   by_cases hlt : k < xs.length
   ·have hs := zkx Ex.wt xs k hlt
    have hs2 := ztf Ex.wt xs (k + 1)
    simp -implicitDefEqProofs only [go_sem, List.length_map, zad, hlt, zai, zab, zaa]
    refine callF (H xs[k] (List.getElem_mem hlt) (l - xs.length - zpf Ex.wt xs k) hp (by omega)) (by simp -implicitDefEqProofs only [go_sem, zai, zab, zaa]) ?_
    simp -implicitDefEqProofs only [go_sem, zai, zab, zaa]
    refine ⟨fun h => ?_, fun h => ?_⟩
    ·have := ze1 hp (by simpa using h)
     rw [zc9 (by omega)]
    ·obtain ⟨h2, h3⟩ := zei (by simpa using h)
     rw [zap (by omega)]
     exact ⟨k + 1, ⟨hlt, by omega⟩, by omega, zac (by simp -implicitDefEqProofs only [go_sem]; rw [h3]; congr 1; omega)⟩
   ·simp -implicitDefEqProofs only [go_sem, List.length_map, hlt]
    have hall := zo2 Ex.wt xs k (by omega)
    rw [hall, zl5 (by omega)]; congr 1; omega
set_option maxHeartbeats 400000 in
theorem zlm (xs : List Ex) (H : ∀ x ∈ xs, FC Tryz.prog 33 [exD x] [exD x]) (hs : xs.length <= 1048576) :
  FC Tryz.prog 86 [.one (exS xs)] [.one (exS xs)] := by
 refine zc1 (fun hw => ?_) Tryz.call86
 refine zaj Tryz.call86 Tryz.func86 rfl (by kernel_rfl) (zav (by kernel_rfl)) ?_
 simp -implicitDefEqProofs only [go_sem, Tryz.results86]
 refine qfc (by simp -implicitDefEqProofs only [go_sem]; omega) ?_
 simp -implicitDefEqProofs only [go_sem]
 refine zae (fun k : Nat => hd [(0, vT (exS xs)), (3, .one (.ow 224 0)), (4, vI k)] [] [(224, ⟨true, 7, (xs.take k).map exC ++ List.replicate (xs.length - k) [T.int .i64 0, T.str [], T.sl 2 [], T.str [], T.sl 5 [], T.sl 2 [], T.sl 7 []], 0, true⟩)]) (fun k => k <= xs.length) (fun k => xs.length - k) 0 (zac ?_) ?_ ?_
 ·simp -implicitDefEqProofs only [go_sem]
  simp
 ·simp
 ·intro k hk
  by_cases hlt : k < xs.length
  ·have hlen : ((xs.take k).map exC ++ List.replicate (xs.length - k) [T.int .i64 0, T.str [], T.sl 2 [], T.str [], T.sl 5 [], T.sl 2 [], T.sl 7 []]).length = xs.length := by simp; omega
   have hlt2 : k < k + (xs.length - k) := by omega
   simp -implicitDefEqProofs only [go_sem, List.length_map, zad, hlt, zai, zab, zaa]
   refine callF (H xs[k] (List.getElem_mem hlt)) (by simp -implicitDefEqProofs only [go_sem, zai, zab, zaa, hlen, hlt, List.length_append, List.length_map, List.length_take, List.length_replicate, Nat.min_eq_left hk, hlt2]) ?_
   simp -implicitDefEqProofs only [go_sem, zai, zab, zaa, hlen, hlt, List.length_append, List.length_map, List.length_take, List.length_replicate, Nat.min_eq_left hk, hlt2]
   refine zum (by simp -implicitDefEqProofs only [go_sem]; simp) ?_
   simp -implicitDefEqProofs only [go_sem]
   rw [zap (by omega)]
   refine ⟨k + 1, by omega, by omega, zac ?_⟩
   simp -implicitDefEqProofs only [go_sem]
   have hf := zgd ((xs.take k).map exC) xs.length k [T.int .i64 0, T.str [], T.sl 2 [], T.str [], T.sl 5 [], T.sl 2 [], T.sl 7 []] (exC xs[k]) (by simp; omega) hlt (by simp [zai, zab, zaa])
   simp only [zai, zab, zaa] at hf
   rw [hf, List.take_succ_eq_append_getElem hlt, List.map_append, List.map_singleton]
   simp only [zai, zab, zaa]
  ·simp -implicitDefEqProofs only [go_sem, List.length_map, hlt]
   simp [List.take_of_length_le (show xs.length <= k by omega), show xs.length - k = 0 by omega]
set_option maxHeartbeats 400000 in
theorem zk3 (xs ys : List Ex) (H : ∀ x ∈ xs, ∀ y, FC Tryz.prog 35 [exD x, exD y] [bD (same x y)]) :
  FC Tryz.prog 89 [.one (exS xs), .one (exS ys)] [bD (same xs ys)] := by
 refine zc1 (fun hw => ?_) Tryz.call89
 have hl : xs.length <= 9223372036854775807 := by simpa [zfq, wfT] using hw.1.1
 have hl2 : ys.length <= 9223372036854775807 := by simpa [zfq, wfT] using hw.2.1.1
 refine zaj Tryz.call89 Tryz.func89 rfl (by kernel_rfl) (zav (by kernel_rfl)) ?_
 simp -implicitDefEqProofs only [go_sem, Tryz.results89]
 refine ⟨fun h => ?_, fun h => ?_⟩
 ·rw [zco.2 (by rintro rfl; simp at h)]
 ·have hlen : xs.length = ys.length := by simp at h; omega
  refine zae (fun k : Nat => hd [(0, vT (exS xs)), (1, vT (exS ys)), (4, vB false), (5, vI k)] [] []) (fun k => k <= xs.length /\ same xs ys = same (xs.drop k) (ys.drop k)) (fun k => xs.length - k) 0 (zac ?_) ?_ ?_
  ·simp -implicitDefEqProofs only [go_sem]
  ·simp
  ·intro k ⟨hk, hr⟩
   by_cases hlt : k < xs.length
   ·have hk2 : k < ys.length := by omega
    simp -implicitDefEqProofs only [go_sem, List.length_map, hlt]
    refine drawn (by kernel_rfl) ?_
    simp -implicitDefEqProofs only [go_sem, List.length_map, zad, hlt, hk2, zai, zab, zaa]
    refine zao (H xs[k] (List.getElem_mem hlt) ys[k]) (by simp -implicitDefEqProofs only [go_sem, zai, zab, zaa]) ?_
    simp -implicitDefEqProofs only [go_sem, zai, zab, zaa]
    refine ⟨by kernel_rfl, fun h => ?_, fun h => ?_⟩
    ·rw [hr, List.drop_eq_getElem_cons hlt, List.drop_eq_getElem_cons hk2, zdc, show same xs[k] ys[k] = false by simpa using h]; rfl
    ·rw [List.drop_eq_getElem_cons hlt, List.drop_eq_getElem_cons hk2, zdc, show same xs[k] ys[k] = true by simpa using h, Bool.true_and] at hr
     rw [zap (by omega)]
     exact ⟨k + 1, ⟨by omega, hr⟩, by omega, zac (by simp -implicitDefEqProofs only [go_sem])⟩
   ·simp -implicitDefEqProofs only [go_sem, List.length_map, hlt]
    rw [hr, List.drop_of_length_le (by omega), List.drop_of_length_le (by omega), zgu]
set_option maxHeartbeats 400000 in
theorem zlv (a : Ex) (H : ∀ l : Int, 0 <= l -> l <= 1048576 -> FC Tryz.prog 82 [.one (exS a.parts), iD l] [iD (szR (zyt a.parts) l)]) (l : Int) (h0 : 0 <= l) (h1 : l <= 1048576) :
  FC Tryz.prog 31 [exD a, iD l] [iD (szR a.wt l)] := by
 refine zc1 (fun hw => ?_) Tryz.call31
 simp only [exD, zai, zab, zaa] at hw ⊢
 have hW := a.wt_eq
 have hls : True := by simp [zfq, wfT, zpd] at hw; simp [hw]
 refine zaj Tryz.call31 Tryz.func31 rfl (by kernel_rfl) (zav (by kernel_rfl)) ?_
 simp -implicitDefEqProofs only [go_sem, Tryz.results31]
 refine callF (ztm a.form l (by omega) (by omega)) (by simp -implicitDefEqProofs only [go_sem, zai, zab, zaa, zab, zaa]) ?_
 simp -implicitDefEqProofs only [go_sem, zai, zab, zaa, zab, zaa]
 refine ⟨fun h1 => ?_, fun h1 => ?_⟩
 ·have := ze1 (by omega) (show szR a.form.wt l < 0 by simpa using h1)
  rw [zc9 (by have hu0 : zfr a.terms = a.terms.length + (a.terms.map Tm.wt).sum := rfl; have hu1 : zyt a.parts = a.parts.length + (a.parts.map Ex.wt).sum := rfl;  omega)]
 obtain ⟨k1, j1⟩ := zei (show ¬ szR a.form.wt l < 0 by simpa using h1)
 refine callF (qby a.terms (szR a.form.wt l) (by omega) (by omega)) (by simp -implicitDefEqProofs only [go_sem, zai, zab, zaa]) ?_
 simp -implicitDefEqProofs only [go_sem, zai, zab, zaa]
 refine ⟨fun h2 => ?_, fun h2 => ?_⟩
 ·have := ze1 (by omega) (show szR (zfr a.terms) (szR a.form.wt l) < 0 by simpa using h2)
  rw [zc9 (by have hu0 : zfr a.terms = a.terms.length + (a.terms.map Tm.wt).sum := rfl; have hu1 : zyt a.parts = a.parts.length + (a.parts.map Ex.wt).sum := rfl;  omega)]
 obtain ⟨k2, j2⟩ := zei (show ¬ szR (zfr a.terms) (szR a.form.wt l) < 0 by simpa using h2)
 refine callF (H (szR (zfr a.terms) (szR a.form.wt l)) (by omega) (by omega)) (by simp -implicitDefEqProofs only [go_sem, zai, zab, zaa]) ?_
 simp -implicitDefEqProofs only [go_sem, zai, zab, zaa]
 refine ⟨fun h3 => ?_, fun h3 => ?_⟩
 ·have := ze1 (by omega) (show szR (zyt a.parts) (szR (zfr a.terms) (szR a.form.wt l)) < 0 by simpa using h3)
  rw [zc9 (by have hu0 : zfr a.terms = a.terms.length + (a.terms.map Tm.wt).sum := rfl; have hu1 : zyt a.parts = a.parts.length + (a.parts.map Ex.wt).sum := rfl;  omega)]
 obtain ⟨k3, j3⟩ := zei (show ¬ szR (zyt a.parts) (szR (zfr a.terms) (szR a.form.wt l)) < 0 by simpa using h3)
 rw [show szR a.wt l = l - a.wt from zl5 (by have hu0 : zfr a.terms = a.terms.length + (a.terms.map Tm.wt).sum := rfl; have hu1 : zyt a.parts = a.parts.length + (a.parts.map Ex.wt).sum := rfl;  omega)]; exact zwj (by have hu0 : zfr a.terms = a.terms.length + (a.terms.map Tm.wt).sum := rfl; have hu1 : zyt a.parts = a.parts.length + (a.parts.map Ex.wt).sum := rfl;  omega)
set_option maxHeartbeats 400000 in
theorem zlo (a : Ex) (H : FC Tryz.prog 86 [.one (exS a.parts)] [.one (exS a.parts)]) (hs : a.wt <= 1048576) : FC Tryz.prog 33 [exD a] [exD a] := by
 have hW := a.wt_eq
 simp only [exD, zai, zab, zaa]
 refine zaj Tryz.call33 Tryz.func33 rfl (by kernel_rfl) (zav (by kernel_rfl)) ?_
 simp -implicitDefEqProofs only [go_sem, Tryz.results33]
 refine callF (ztq a.form (by have hu0 : zfr a.terms = a.terms.length + (a.terms.map Tm.wt).sum := rfl; have hu1 : zyt a.parts = a.parts.length + (a.parts.map Ex.wt).sum := rfl;  omega)) (by simp -implicitDefEqProofs only [go_sem, zai, zab, zaa, zab, zaa]) ?_
 simp -implicitDefEqProofs only [go_sem, zai, zab, zaa, zab, zaa]
 refine callF (zz4 a.terms (by have hu0 : zfr a.terms = a.terms.length + (a.terms.map Tm.wt).sum := rfl; have hu1 : zyt a.parts = a.parts.length + (a.parts.map Ex.wt).sum := rfl;  omega)) (by simp -implicitDefEqProofs only [go_sem, zai, zab, zaa]) ?_
 simp -implicitDefEqProofs only [go_sem, zai, zab, zaa]
 refine callF (H) (by simp -implicitDefEqProofs only [go_sem, zai, zab, zaa]) ?_
 simp -implicitDefEqProofs only [go_sem, zai, zab, zaa]
set_option maxHeartbeats 400000 in
theorem zlt (a b : Ex) (H : FC Tryz.prog 89 [.one (exS a.parts), .one (exS b.parts)] [bD (same a.parts b.parts)]) : FC Tryz.prog 35 [exD a, exD b] [bD (same a b)] := by
 simp only [exD, zai, zab, zaa]
 refine zaj Tryz.call35 Tryz.func35 rfl (by kernel_rfl) (zav (by kernel_rfl)) ?_
 simp -implicitDefEqProofs only [go_sem, Tryz.results35]
 refine callF (zto a.form b.form) (by simp -implicitDefEqProofs only [go_sem, zai, zab, zaa, zab, zaa]) ?_
 simp -implicitDefEqProofs only [go_sem, zai, zab, zaa, zab, zaa]
 refine ⟨fun h1 => ?_, fun h1 => ?_⟩
 ·rw [zco.2 (by rintro rfl; simp [zb1] at h1)]
 refine callF (zzm a.terms b.terms) (by simp -implicitDefEqProofs only [go_sem, zai, zab, zaa]) ?_
 simp -implicitDefEqProofs only [go_sem, zai, zab, zaa]
 refine ⟨fun h2 => ?_, fun h2 => ?_⟩
 ·rw [zco.2 (by rintro rfl; simp [zb1] at h2)]
 refine callF (H) (by simp -implicitDefEqProofs only [go_sem, zai, zab, zaa]) ?_
 simp -implicitDefEqProofs only [go_sem, zai, zab, zaa]
 refine ⟨fun h3 => ?_, fun h3 => ?_⟩
 ·rw [zco.2 (by rintro rfl; simp [zb1] at h3)]
 rw [zba.2 (by cases a; cases b; simp [zba, Ex.form, Ex.terms, Ex.parts] at h1 h2 h3 ⊢; simp [h1, h2, h3])]
theorem zo6 : ∀ a : Ex, ∀ l : Int, 0 <= l -> l <= 1048576 -> FC Tryz.prog 31 [exD a, iD l] [iD (szR a.wt l)] :=
 zcd fun b0 b1 xs ih l h0 h1 => zlv (.mk b0 b1 xs) (fun l h0 h1 => zkk xs ih l h0 h1) l h0 h1
theorem zop : ∀ a : Ex, a.wt <= 1048576 -> FC Tryz.prog 33 [exD a] [exD a] := by
 refine zcd fun b0 b1 xs ih hs => ?_
 have hW := Ex.wt_eq (.mk b0 b1 xs)
 simp only [Ex.form, Ex.terms, Ex.parts] at hW
 refine zlo _ (zlm xs (fun x hx => ih x hx ?_) (by omega)) hs
 have := za6 Ex.wt xs x hx
 omega
theorem zoj : ∀ a b : Ex, FC Tryz.prog 35 [exD a, exD b] [bD (same a b)] :=
 zcd fun b0 b1 xs ih b => zlt (.mk b0 b1 xs) b (zk3 xs b.parts ih)
end Go.Proofs.YtbccfiillleimaaGreat
namespace Go.Proofs.YtbccfiillleimaaGreat
set_option linter.unusedSimpArgs false
set_option linter.unusedVariables false
set_option linter.unusedSectionVars false
set_option maxRecDepth 4000
open Go.RowKit
def eqL {α : Type} (p : α -> α -> Bool) : List α -> List α -> Bool
 | [], [] => true
 | a :: xs, b :: ys => p a b && eqL p xs ys
 | _, _ => false
theorem ztn {α : Type} {p : α -> α -> Bool} : ∀ {xs ys : List α}, xs.length ≠ ys.length -> eqL p xs ys = false
 | [], [], h => absurd rfl h
 | [], _ :: _, _ => rfl
 | _ :: _, [], _ => rfl
 | a :: xs, b :: ys, h => by simp only [eqL]; rw [ztn (by simpa using h), Bool.and_false]
theorem zou {α : Type} {p : α -> α -> Bool} : ∀ {xs ys : List α}, (∀ x ∈ xs, ∀ y, p x y = same x y) -> eqL p xs ys = same xs ys
 | [], [], _ => zgu.symm
 | [], _ :: _, _ => (zco.2 (by simp)).symm
 | _ :: _, [], _ => (zco.2 (by simp)).symm
 | a :: xs, b :: ys, h => by simp only [eqL]; rw [zdc, h a (by simp) b, zou fun x hx y => h x (by simp [hx]) y]
set_option maxRecDepth 10000 in
set_option maxHeartbeats 400000 in
theorem zko (xs ys : List Tm) (p : Tm -> Tm -> Bool) (g : FuncId) (caps : List T) (H : ∀ x ∈ xs, ∀ y ∈ ys, FC Tryz.prog g (tmD x :: tmD y :: caps.map .one) [bD (p x y)]) : FC Tryz.prog 176 [.one (tmS xs), .one (tmS ys), .one (.fn g caps)] [bD (eqL p xs ys)] := by
 refine zc1 (fun hw => ?_) Tryz.call176
 have hl : xs.length <= 9223372036854775807 := by simpa [zfq, wfT] using hw.1.1
 have hl2 : ys.length <= 9223372036854775807 := by simpa [zfq, wfT] using hw.2.1.1
 refine zaj Tryz.call176 Tryz.func176 rfl (by kernel_rfl) (zav (by kernel_rfl)) ?_
 simp -implicitDefEqProofs only [go_sem, Tryz.results176]
 refine ⟨fun h => ?_, fun h => ?_⟩
 ·rw [ztn (by rintro e; simp [e] at h)]
 ·have hlen : xs.length = ys.length := by simp at h; omega
  refine zae (fun k : Nat => hd [(1, vT (tmS ys)), (2, .one (.t (.fn g caps))), (15, vT (tmS xs)), (16, vI xs.length), (17, vI k)] [] []) (fun k => k <= xs.length /\ eqL p xs ys = eqL p (xs.drop k) (ys.drop k)) (fun k => xs.length - k) 0 (zac ?_) ?_ ?_
  ·simp -implicitDefEqProofs only [go_sem]
  ·simp
  ·intro k ⟨hk, hr⟩
   by_cases hlt : k < xs.length
   ·have hk2 : k < ys.length := by omega
    simp -implicitDefEqProofs only [go_sem, List.length_map, zad, hlt, hk2, zaa]
    refine callF (H xs[k] (List.getElem_mem hlt) ys[k] (List.getElem_mem hk2)) (by simp -implicitDefEqProofs only [go_sem, zaa]) ?_
    simp -implicitDefEqProofs only [go_sem, zaa]
    rw [List.drop_eq_getElem_cons hlt, List.drop_eq_getElem_cons hk2, eqL] at hr
    refine ⟨fun h => ?_, fun h => ?_⟩
    ·rw [hr, show p xs[k] ys[k] = false by simpa using h]; rfl
    ·rw [show p xs[k] ys[k] = true by simpa using h, Bool.true_and] at hr
     rw [zap (by omega)]
     exact ⟨k + 1, ⟨by omega, hr⟩, by omega, zac (by simp -implicitDefEqProofs only [go_sem])⟩
   ·simp -implicitDefEqProofs only [go_sem, List.length_map, hlt]
    rw [hr, List.drop_of_length_le (by omega), List.drop_of_length_le (by omega)]; rfl
set_option maxRecDepth 10000 in
set_option maxHeartbeats 400000 in
theorem zhq (xs ys : List Fm) (p : Fm -> Fm -> Bool) (g : FuncId) (caps : List T) (H : ∀ x ∈ xs, ∀ y ∈ ys, FC Tryz.prog g (fmD x :: fmD y :: caps.map .one) [bD (p x y)]) : FC Tryz.prog 175 [.one (fmS xs), .one (fmS ys), .one (.fn g caps)] [bD (eqL p xs ys)] := by
 refine zc1 (fun hw => ?_) Tryz.call175
 have hl : xs.length <= 9223372036854775807 := by simpa [zfq, wfT] using hw.1.1
 have hl2 : ys.length <= 9223372036854775807 := by simpa [zfq, wfT] using hw.2.1.1
 refine zaj Tryz.call175 Tryz.func175 rfl (by kernel_rfl) (zav (by kernel_rfl)) ?_
 simp -implicitDefEqProofs only [go_sem, Tryz.results175]
 refine ⟨fun h => ?_, fun h => ?_⟩
 ·rw [ztn (by rintro e; simp [e] at h)]
 ·have hlen : xs.length = ys.length := by simp at h; omega
  refine zae (fun k : Nat => hd [(1, vT (fmS ys)), (2, .one (.t (.fn g caps))), (15, vT (fmS xs)), (16, vI xs.length), (17, vI k)] [] []) (fun k => k <= xs.length /\ eqL p xs ys = eqL p (xs.drop k) (ys.drop k)) (fun k => xs.length - k) 0 (zac ?_) ?_ ?_
  ·simp -implicitDefEqProofs only [go_sem]
  ·simp
  ·intro k ⟨hk, hr⟩
   by_cases hlt : k < xs.length
   ·have hk2 : k < ys.length := by omega
    simp -implicitDefEqProofs only [go_sem, List.length_map, zad, hlt, hk2, zab, zaa]
    refine callF (H xs[k] (List.getElem_mem hlt) ys[k] (List.getElem_mem hk2)) (by simp -implicitDefEqProofs only [go_sem, zab, zaa]) ?_
    simp -implicitDefEqProofs only [go_sem, zab, zaa]
    rw [List.drop_eq_getElem_cons hlt, List.drop_eq_getElem_cons hk2, eqL] at hr
    refine ⟨fun h => ?_, fun h => ?_⟩
    ·rw [hr, show p xs[k] ys[k] = false by simpa using h]; rfl
    ·rw [show p xs[k] ys[k] = true by simpa using h, Bool.true_and] at hr
     rw [zap (by omega)]
     exact ⟨k + 1, ⟨by omega, hr⟩, by omega, zac (by simp -implicitDefEqProofs only [go_sem])⟩
   ·simp -implicitDefEqProofs only [go_sem, List.length_map, hlt]
    rw [hr, List.drop_of_length_le (by omega), List.drop_of_length_le (by omega)]; rfl
end Go.Proofs.YtbccfiillleimaaGreat
namespace Go.Proofs.YtbccfiillleimaaGreat
set_option linter.unusedSimpArgs false
set_option linter.unusedVariables false
set_option linter.unusedSectionVars false
set_option maxRecDepth 4000
open Go.RowKit
theorem zkh (a b : Tm) : same a b = (same a.name b.name && same a.args b.args) := by
 cases a; cases b
 rw [Bool.eq_iff_iff]
 simp only [Bool.and_eq_true, zba, Tm.name, Tm.args, Tm.mk.injEq]
theorem zf7 (a b : Fm) : same a b = (same a.op b.op && same a.atom b.atom && same a.var b.var && same a.parts b.parts) := by
 cases a; cases b
 rw [Bool.eq_iff_iff]
 simp only [Bool.and_eq_true, zba, Fm.op, Fm.atom, Fm.var, Fm.parts, Fm.mk.injEq, and_assoc]
theorem zcg {α : Type} [BEq α] [LawfulBEq α] (a b : α) : (a == b) = same a b := by
 rw [Bool.eq_iff_iff, beq_iff_eq, zba]
theorem zyj (a b : Tm) (H : FC Tryz.prog 176 [.one (tmS a.args), .one (tmS b.args), .one (.fn 169 [])] [bD (same a.args b.args)]) :
  FC Tryz.prog 169 [tmD a, tmD b] [bD (same a b)] := by
 simp only [tmD, zaa]
 refine zaj Tryz.call169 Tryz.func169 rfl (by kernel_rfl) (zav (by kernel_rfl)) ?_
 simp -implicitDefEqProofs only [go_sem, Tryz.results169]
 refine ⟨fun h => ?_, fun h => ?_⟩
 ·refine callF (H) (by simp -implicitDefEqProofs only [go_sem]) ?_
  simp -implicitDefEqProofs only [go_sem]
  rw [zkh, <- zcg a.name, h, Bool.true_and]
 ·rw [zkh, <- zcg a.name, h]; rfl
theorem zfy : ∀ a b : Tm, FC Tryz.prog 169 [tmD a, tmD b] [bD (same a b)] :=
 zbp fun n xs ih b => zyj (.mk n xs) b (by
  rw [show same (Tm.mk n xs).args b.args = eqL same (Tm.mk n xs).args b.args from (zou fun _ _ _ => rfl).symm]
  exact zko xs b.args same _ [] fun x hx y _ => ih x hx y)
theorem zlx (a b : Fm) (H : FC Tryz.prog 175 [.one (fmS a.parts), .one (fmS b.parts), .one (.fn 110 [])] [bD (same a.parts b.parts)]) :
  FC Tryz.prog 110 [fmD a, fmD b] [bD (same a b)] := by
 simp only [fmD, zab]
 refine zaj Tryz.call110 Tryz.func110 rfl (by kernel_rfl) (zav (by kernel_rfl)) ?_
 simp -implicitDefEqProofs only [go_sem, Tryz.results110]
 refine ⟨fun h1 => ?_, fun h1 => by rw [zf7, <- zcg a.op, h1]; rfl⟩
 refine callF (zfy a.atom b.atom) (by simp -implicitDefEqProofs only [go_sem, zaa]) ?_
 simp -implicitDefEqProofs only [go_sem, zaa]
 refine ⟨fun h2 => ?_, fun h2 => by rw [zf7, <- zcg a.op, h1, h2]; rfl⟩
 refine ⟨fun h3 => ?_, fun h3 => by rw [zf7, <- zcg a.op, h1, h2, <- zcg a.var, h3]; rfl⟩
 refine callF (H) (by simp -implicitDefEqProofs only [go_sem]) ?_
 simp -implicitDefEqProofs only [go_sem]
 rw [zf7, <- zcg a.op, h1, h2, <- zcg a.var, h3]; rfl
theorem zhf : ∀ a b : Fm, FC Tryz.prog 110 [fmD a, fmD b] [bD (same a b)] :=
 zbr fun o t v ps ih b => zlx (.mk o t v ps) b (by
  rw [show same (Fm.mk o t v ps).parts b.parts = eqL same (Fm.mk o t v ps).parts b.parts from (zou fun _ _ _ => rfl).symm]
  exact zhq ps b.parts same _ [] fun x hx y _ => ih x hx y)
theorem zzr (a b : Tm) (H : ∀ x ∈ a.args, ∀ y, FC Tryz.prog 164 [tmD x, tmD y] [bD (same x y)]) : FC Tryz.prog 164 [tmD a, tmD b] [bD (same a b)] := by
 refine zc1 (fun hw => ?_) Tryz.call164
 simp only [tmD, zaa] at hw ⊢
 have hl : a.args.length <= 9223372036854775807 := by simp [zfq, wfT, zpd] at hw; exact hw.1.2.1
 refine zaj Tryz.call164 Tryz.func164 rfl (by kernel_rfl) (zav (by kernel_rfl)) ?_
 simp -implicitDefEqProofs only [go_sem, Tryz.results164]
 refine ⟨fun h1 => ?_, fun h1 => by rw [zkh, <- zcg a.name, show (a.name == b.name) = false by simpa using h1]; rfl⟩
 have h1' : same a.name b.name = true := by rw [<- zcg]; simpa using h1
 refine ⟨fun h2 => ?_, fun h2 => ?_⟩
 ·rw [zkh, h1', Bool.true_and, zco.2 (by rintro e; simp [e] at h2)]
 have hlen : a.args.length = b.args.length := by simp at h2; omega
 have hs : same a b = same a.args b.args := by rw [zkh, h1', Bool.true_and]
 refine zae (fun k : Nat => hd [(2, .one (.bx 2 0)), (3, .one (.bx 3 0)), (4, vB false), (5, vI k)] [(2, [.t (.str a.name), .t (tmS a.args)]), (3, [.t (.str b.name), .t (tmS b.args)])] []) (fun k => k <= a.args.length /\ same a.args b.args = same (a.args.drop k) (b.args.drop k)) (fun k => a.args.length - k) 0 (zac ?_) ?_ ?_
 ·simp -implicitDefEqProofs only [go_sem]
 ·simp
 ·intro k ⟨hk, hr⟩
  by_cases hlt : k < a.args.length
  ·have hk2 : k < b.args.length := by omega
   simp -implicitDefEqProofs only [go_sem, hlt]
   refine drawn (by kernel_rfl) ?_
   simp -implicitDefEqProofs only [go_sem, zad, hlt, hk2, zaa]
   refine zao (H a.args[k] (List.getElem_mem hlt) b.args[k]) (by simp -implicitDefEqProofs only [go_sem, zaa]) ?_
   simp -implicitDefEqProofs only [go_sem, zaa]
   rw [List.drop_eq_getElem_cons hlt, List.drop_eq_getElem_cons hk2, zdc] at hr
   refine ⟨by kernel_rfl, fun h => ?_, fun h => ?_⟩
   ·rw [hs, hr, show same a.args[k] b.args[k] = false by simpa using h]; rfl
   ·rw [show same a.args[k] b.args[k] = true by simpa using h, Bool.true_and] at hr
    rw [zap (by omega)]
    exact ⟨k + 1, ⟨by omega, hr⟩, by omega, zac (by simp -implicitDefEqProofs only [go_sem])⟩
  ·simp -implicitDefEqProofs only [go_sem, hlt]
   rw [hs, hr, List.drop_of_length_le (by omega), List.drop_of_length_le (by omega), zgu]
theorem znl : ∀ a b : Tm, FC Tryz.prog 164 [tmD a, tmD b] [bD (same a b)] := zbp fun n xs ih b => zzr (.mk n xs) b ih
set_option maxHeartbeats 1000000 in
theorem qdt (a b : Fm) (H : ∀ x ∈ a.parts, ∀ y, FC Tryz.prog 108 [fmD x, fmD y] [bD (same x y)]) : FC Tryz.prog 108 [fmD a, fmD b] [bD (same a b)] := by
 refine zc1 (fun hw => ?_) Tryz.call108
 simp only [fmD, zab] at hw ⊢
 have hl : a.parts.length <= 9223372036854775807 := by simp [zfq, wfT, zpd] at hw; exact hw.1.2.2.2.2.1
 refine zaj Tryz.call108 Tryz.func108 rfl (by kernel_rfl) (zav (by kernel_rfl)) ?_
 simp -implicitDefEqProofs only [go_sem, Tryz.results108]
 refine ⟨fun h1 => ?_, fun h1 => by rw [zf7, <- zcg a.op, show (a.op == b.op) = false by simpa using h1]; rfl⟩
 have h1' : same a.op b.op = true := by rw [<- zcg]; simpa using h1
 refine ⟨fun h2 => ?_, fun h2 => by rw [zf7, h1', <- zcg a.var, show (a.var == b.var) = false by simpa using h2]; simp⟩
 have h2' : same a.var b.var = true := by rw [<- zcg]; simpa using h2
 refine callF (znl a.atom b.atom) (by simp -implicitDefEqProofs only [go_sem, zaa]) ?_
 simp -implicitDefEqProofs only [go_sem, zaa]
 refine ⟨fun h3 => ?_, fun h3 => by rw [zf7, h1', show same a.atom b.atom = false by simpa using h3]; rfl⟩
 have h3' : same a.atom b.atom = true := by simpa using h3
 have hs : same a b = same a.parts b.parts := by rw [zf7, h1', h2', h3']; rfl
 refine ⟨fun h4 => ?_, fun h4 => ?_⟩
 ·rw [hs, zco.2 (by rintro e; simp [e] at h4)]
 have hlen : a.parts.length = b.parts.length := by simp at h4; omega
 refine zae (fun k : Nat => hd [(2, .one (.bx 2 0)), (3, .one (.bx 3 0)), (4, vB false), (5, vI k)] [(2, [.t (.int .i64 a.op), .t (.str a.atom.name), .t (tmS a.atom.args), .t (.str a.var), .t (fmS a.parts)]), (3, [.t (.int .i64 b.op), .t (.str b.atom.name), .t (tmS b.atom.args), .t (.str b.var), .t (fmS b.parts)])] []) (fun k => k <= a.parts.length /\ same a.parts b.parts = same (a.parts.drop k) (b.parts.drop k)) (fun k => a.parts.length - k) 0 (zac ?_) ?_ ?_
 ·simp -implicitDefEqProofs only [go_sem]
 ·simp
 ·intro k ⟨hk, hr⟩
  by_cases hlt : k < a.parts.length
  ·have hk2 : k < b.parts.length := by omega
   simp -implicitDefEqProofs only [go_sem, hlt]
   refine drawn (by kernel_rfl) ?_
   simp -implicitDefEqProofs only [go_sem, zad, hlt, hk2, zab]
   refine zao (H a.parts[k] (List.getElem_mem hlt) b.parts[k]) (by simp -implicitDefEqProofs only [go_sem, zab]) ?_
   simp -implicitDefEqProofs only [go_sem, zab]
   rw [List.drop_eq_getElem_cons hlt, List.drop_eq_getElem_cons hk2, zdc] at hr
   refine ⟨by kernel_rfl, fun h => ?_, fun h => ?_⟩
   ·rw [hs, hr, show same a.parts[k] b.parts[k] = false by simpa using h]; rfl
   ·rw [show same a.parts[k] b.parts[k] = true by simpa using h, Bool.true_and] at hr
    rw [zap (by omega)]
    exact ⟨k + 1, ⟨by omega, hr⟩, by omega, zac (by simp -implicitDefEqProofs only [go_sem])⟩
  ·simp -implicitDefEqProofs only [go_sem, hlt]
   rw [hs, hr, List.drop_of_length_le (by omega), List.drop_of_length_le (by omega), zgu]
theorem zn8 : ∀ a b : Fm, FC Tryz.prog 108 [fmD a, fmD b] [bD (same a b)] := zbr fun o t v ps ih b => qdt (.mk o t v ps) b ih
end Go.Proofs.YtbccfiillleimaaGreat
namespace Go.Proofs.YtbccfiillleimaaGreat
set_option linter.unusedSimpArgs false
set_option linter.unusedVariables false
set_option linter.unusedSectionVars false
set_option maxRecDepth 4000
open Go.RowKit
def mkF (op : Int) (ps : List Fm) : Fm := .mk op (.mk [] []) [] ps
theorem zb7 (op : Int) (ps : List Fm) : fmC (mkF op ps) = [.int .i64 op, .str [], .sl 2 [], .str [], .sl 5 (ps.map fmC)] := zab _
end Go.Proofs.YtbccfiillleimaaGreat
namespace Go.Proofs.YtbccfiillleimaaGreat
set_option linter.unusedSimpArgs false
set_option linter.unusedVariables false
set_option linter.unusedSectionVars false
set_option maxRecDepth 4000
open Go.RowKit
set_option maxHeartbeats 4000000 in
theorem zyh (f : Fm) (hs : f.wt <= 1099511627776) (H : ∀ x ∈ f.parts, FC Tryz.prog 184 [fmD x] [bD x.forms]) : FC Tryz.prog 184 [fmD f] [bD f.forms] := by
 have H1 : ∀ x ∈ f.parts, FC Tryz.prog 221 [fmD x] [bD (!x.forms)] := fun x hx => by
  simp only [fmD, zab]
  refine zaj Tryz.call221 Tryz.func221 rfl (by kernel_rfl) (zav (by kernel_rfl)) ?_
  simp -implicitDefEqProofs only [go_sem, Tryz.results221]
  refine callF (H x hx) (by simp -implicitDefEqProofs only [go_sem, zab]) ?_
  simp -implicitDefEqProofs only [go_sem, zab]
 have hN := f.forms_eq
 obtain ⟨o, a, v, ps⟩ := f
 have ha : a.wt <= 1099511627776 := Nat.le_trans (zik (.mk o a v ps)) hs
 have e0 : ((ps.length : Int) != 0) = !decide (ps.length = 0) := ztz _ 0
 have e1 : ((ps.length : Int) != 1) = !decide (ps.length = 1) := ztz _ 1
 have e2 : ((ps.length : Int) != 2) = !decide (ps.length = 2) := ztz _ 2
 simp only [Fm.parts] at H1 hN
 rcases zwf o with rfl | rfl | rfl | rfl | rfl | rfl | rfl | rfl | rfl | ⟨n1, n2, n3, n4, n5, n6, n7, n8, n9⟩
 ·have hH : Fm.here (.mk 1 a v ps) = (decide (ps.length = 0) && a.none && (v == [])) := rfl
  rw [hH] at hN
  have hq : isQ 1 = false := rfl
  have hb : znp 1 = false := rfl
  simp only [fmD, zab, Fm.op, Fm.atom, Fm.var, Fm.parts]
  refine zaj Tryz.call184 Tryz.func184 rfl (by kernel_rfl) (zav (by kernel_rfl)) ?_
  simp -implicitDefEqProofs only [go_sem, Tryz.results184]
  simp only [e0]
  refine ⟨fun h => ?_, fun h => ?_⟩
  ·have h' : decide (ps.length = 0) = true := by simpa using h
   refine callF (zak 1) (by simp -implicitDefEqProofs only [go_sem, hq]) ?_
   simp -implicitDefEqProofs only [go_sem, hq]
   refine callF (zak 1) (by simp -implicitDefEqProofs only [go_sem, hq]) ?_
   simp -implicitDefEqProofs only [go_sem, hq]
   refine ⟨fun h1 => ?_, fun h1 => ?_⟩
   ·rw [hN, show (v == []) = false by simpa using h1, Bool.and_false, Bool.false_and]
   ·have h1' : (v == []) = true := by simpa using h1
    refine callF (zb3 a) (by simp -implicitDefEqProofs only [go_sem, zaa]) ?_
    simp -implicitDefEqProofs only [go_sem, zaa]
    refine ⟨fun h2 => ?_, fun h2 => ?_⟩
    ·rw [hN, show a.none = false by simpa using h2, Bool.and_false, Bool.false_and, Bool.false_and]
    ·have h2' : a.none = true := by simpa using h2
     refine callF (za1 ps (fun x => !x.forms) _ [] H1) (by simp -implicitDefEqProofs only [go_sem]) ?_
     simp -implicitDefEqProofs only [go_sem]
     rw [zef, hN, h', h1', h2']; rfl
  ·rw [hN, show decide (ps.length = 0) = false by simpa using h]; rfl
 ·have hH : Fm.here (.mk 2 a v ps) = (decide (ps.length = 0) && a.none && (v == [])) := rfl
  rw [hH] at hN
  have hq : isQ 2 = false := rfl
  have hb : znp 2 = false := rfl
  simp only [fmD, zab, Fm.op, Fm.atom, Fm.var, Fm.parts]
  refine zaj Tryz.call184 Tryz.func184 rfl (by kernel_rfl) (zav (by kernel_rfl)) ?_
  simp -implicitDefEqProofs only [go_sem, Tryz.results184]
  simp only [e0]
  refine ⟨fun h => ?_, fun h => ?_⟩
  ·have h' : decide (ps.length = 0) = true := by simpa using h
   refine callF (zak 2) (by simp -implicitDefEqProofs only [go_sem, hq]) ?_
   simp -implicitDefEqProofs only [go_sem, hq]
   refine callF (zak 2) (by simp -implicitDefEqProofs only [go_sem, hq]) ?_
   simp -implicitDefEqProofs only [go_sem, hq]
   refine ⟨fun h1 => ?_, fun h1 => ?_⟩
   ·rw [hN, show (v == []) = false by simpa using h1, Bool.and_false, Bool.false_and]
   ·have h1' : (v == []) = true := by simpa using h1
    refine callF (zb3 a) (by simp -implicitDefEqProofs only [go_sem, zaa]) ?_
    simp -implicitDefEqProofs only [go_sem, zaa]
    refine ⟨fun h2 => ?_, fun h2 => ?_⟩
    ·rw [hN, show a.none = false by simpa using h2, Bool.and_false, Bool.false_and, Bool.false_and]
    ·have h2' : a.none = true := by simpa using h2
     refine callF (za1 ps (fun x => !x.forms) _ [] H1) (by simp -implicitDefEqProofs only [go_sem]) ?_
     simp -implicitDefEqProofs only [go_sem]
     rw [zef, hN, h', h1', h2']; rfl
  ·rw [hN, show decide (ps.length = 0) = false by simpa using h]; rfl
 ·have hH : Fm.here (.mk 3 a v ps) = (decide (ps.length = 0) && a.atomOk && (v == [])) := rfl
  rw [hH] at hN
  have hq : isQ 3 = false := rfl
  have hb : znp 3 = false := rfl
  simp only [fmD, zab, Fm.op, Fm.atom, Fm.var, Fm.parts]
  refine zaj Tryz.call184 Tryz.func184 rfl (by kernel_rfl) (zav (by kernel_rfl)) ?_
  simp -implicitDefEqProofs only [go_sem, Tryz.results184]
  simp only [e0]
  refine ⟨fun h => ?_, fun h => ?_⟩
  ·have h' : decide (ps.length = 0) = true := by simpa using h
   refine callF (zak 3) (by simp -implicitDefEqProofs only [go_sem, hq]) ?_
   simp -implicitDefEqProofs only [go_sem, hq]
   refine callF (zak 3) (by simp -implicitDefEqProofs only [go_sem, hq]) ?_
   simp -implicitDefEqProofs only [go_sem, hq]
   refine ⟨fun h1 => ?_, fun h1 => ?_⟩
   ·rw [hN, show (v == []) = false by simpa using h1, Bool.and_false, Bool.false_and]
   ·have h1' : (v == []) = true := by simpa using h1
    refine callF (zoy a ha) (by simp -implicitDefEqProofs only [go_sem, zaa]) ?_
    simp -implicitDefEqProofs only [go_sem, zaa]
    refine And.symm ⟨fun h2 => ?_, fun h2 => ?_⟩
    ·rw [hN, show a.atomOk = false by simpa using h2, Bool.and_false, Bool.false_and, Bool.false_and]
    ·have h2' : a.atomOk = true := by simpa using h2
     refine callF (za1 ps (fun x => !x.forms) _ [] H1) (by simp -implicitDefEqProofs only [go_sem]) ?_
     simp -implicitDefEqProofs only [go_sem]
     rw [zef, hN, h', h1', h2']; rfl
  ·rw [hN, show decide (ps.length = 0) = false by simpa using h]; rfl
 ·have hH : Fm.here (.mk 4 a v ps) = (decide (ps.length = 1) && a.none && (v == [])) := rfl
  rw [hH] at hN
  have hq : isQ 4 = false := rfl
  have hb : znp 4 = false := rfl
  simp only [fmD, zab, Fm.op, Fm.atom, Fm.var, Fm.parts]
  refine zaj Tryz.call184 Tryz.func184 rfl (by kernel_rfl) (zav (by kernel_rfl)) ?_
  simp -implicitDefEqProofs only [go_sem, Tryz.results184]
  simp only [e1]
  refine ⟨fun h => ?_, fun h => ?_⟩
  ·have h' : decide (ps.length = 1) = true := by simpa using h
   refine callF (zak 4) (by simp -implicitDefEqProofs only [go_sem, hq]) ?_
   simp -implicitDefEqProofs only [go_sem, hq]
   refine callF (zak 4) (by simp -implicitDefEqProofs only [go_sem, hq]) ?_
   simp -implicitDefEqProofs only [go_sem, hq]
   refine ⟨fun h1 => ?_, fun h1 => ?_⟩
   ·rw [hN, show (v == []) = false by simpa using h1, Bool.and_false, Bool.false_and]
   ·have h1' : (v == []) = true := by simpa using h1
    refine callF (zb3 a) (by simp -implicitDefEqProofs only [go_sem, zaa]) ?_
    simp -implicitDefEqProofs only [go_sem, zaa]
    refine ⟨fun h2 => ?_, fun h2 => ?_⟩
    ·rw [hN, show a.none = false by simpa using h2, Bool.and_false, Bool.false_and, Bool.false_and]
    ·have h2' : a.none = true := by simpa using h2
     refine callF (za1 ps (fun x => !x.forms) _ [] H1) (by simp -implicitDefEqProofs only [go_sem]) ?_
     simp -implicitDefEqProofs only [go_sem]
     rw [zef, hN, h', h1', h2']; rfl
  ·rw [hN, show decide (ps.length = 1) = false by simpa using h]; rfl
 ·have hH : Fm.here (.mk 5 a v ps) = (decide (ps.length = 2) && a.none && (v == [])) := rfl
  rw [hH] at hN
  have hq : isQ 5 = false := rfl
  have hb : znp 5 = true := rfl
  simp only [fmD, zab, Fm.op, Fm.atom, Fm.var, Fm.parts]
  refine zaj Tryz.call184 Tryz.func184 rfl (by kernel_rfl) (zav (by kernel_rfl)) ?_
  simp -implicitDefEqProofs only [go_sem, Tryz.results184]
  refine callF (zak 5) (by simp -implicitDefEqProofs only [go_sem, hq]) ?_
  simp -implicitDefEqProofs only [go_sem, hq]
  refine callF (zgp 5) (by simp -implicitDefEqProofs only [go_sem, hb]) ?_
  simp -implicitDefEqProofs only [go_sem, hb]
  simp only [e2]
  refine ⟨fun h => ?_, fun h => ?_⟩
  ·have h' : decide (ps.length = 2) = true := by simpa using h
   refine callF (zak 5) (by simp -implicitDefEqProofs only [go_sem, hq]) ?_
   simp -implicitDefEqProofs only [go_sem, hq]
   refine callF (zak 5) (by simp -implicitDefEqProofs only [go_sem, hq]) ?_
   simp -implicitDefEqProofs only [go_sem, hq]
   refine ⟨fun h1 => ?_, fun h1 => ?_⟩
   ·rw [hN, show (v == []) = false by simpa using h1, Bool.and_false, Bool.false_and]
   ·have h1' : (v == []) = true := by simpa using h1
    refine callF (zb3 a) (by simp -implicitDefEqProofs only [go_sem, zaa]) ?_
    simp -implicitDefEqProofs only [go_sem, zaa]
    refine ⟨fun h2 => ?_, fun h2 => ?_⟩
    ·rw [hN, show a.none = false by simpa using h2, Bool.and_false, Bool.false_and, Bool.false_and]
    ·have h2' : a.none = true := by simpa using h2
     refine callF (za1 ps (fun x => !x.forms) _ [] H1) (by simp -implicitDefEqProofs only [go_sem]) ?_
     simp -implicitDefEqProofs only [go_sem]
     rw [zef, hN, h', h1', h2']; rfl
  ·rw [hN, show decide (ps.length = 2) = false by simpa using h]; rfl
 ·have hH : Fm.here (.mk 6 a v ps) = (decide (ps.length = 2) && a.none && (v == [])) := rfl
  rw [hH] at hN
  have hq : isQ 6 = false := rfl
  have hb : znp 6 = true := rfl
  simp only [fmD, zab, Fm.op, Fm.atom, Fm.var, Fm.parts]
  refine zaj Tryz.call184 Tryz.func184 rfl (by kernel_rfl) (zav (by kernel_rfl)) ?_
  simp -implicitDefEqProofs only [go_sem, Tryz.results184]
  refine callF (zak 6) (by simp -implicitDefEqProofs only [go_sem, hq]) ?_
  simp -implicitDefEqProofs only [go_sem, hq]
  refine callF (zgp 6) (by simp -implicitDefEqProofs only [go_sem, hb]) ?_
  simp -implicitDefEqProofs only [go_sem, hb]
  simp only [e2]
  refine ⟨fun h => ?_, fun h => ?_⟩
  ·have h' : decide (ps.length = 2) = true := by simpa using h
   refine callF (zak 6) (by simp -implicitDefEqProofs only [go_sem, hq]) ?_
   simp -implicitDefEqProofs only [go_sem, hq]
   refine callF (zak 6) (by simp -implicitDefEqProofs only [go_sem, hq]) ?_
   simp -implicitDefEqProofs only [go_sem, hq]
   refine ⟨fun h1 => ?_, fun h1 => ?_⟩
   ·rw [hN, show (v == []) = false by simpa using h1, Bool.and_false, Bool.false_and]
   ·have h1' : (v == []) = true := by simpa using h1
    refine callF (zb3 a) (by simp -implicitDefEqProofs only [go_sem, zaa]) ?_
    simp -implicitDefEqProofs only [go_sem, zaa]
    refine ⟨fun h2 => ?_, fun h2 => ?_⟩
    ·rw [hN, show a.none = false by simpa using h2, Bool.and_false, Bool.false_and, Bool.false_and]
    ·have h2' : a.none = true := by simpa using h2
     refine callF (za1 ps (fun x => !x.forms) _ [] H1) (by simp -implicitDefEqProofs only [go_sem]) ?_
     simp -implicitDefEqProofs only [go_sem]
     rw [zef, hN, h', h1', h2']; rfl
  ·rw [hN, show decide (ps.length = 2) = false by simpa using h]; rfl
 ·have hH : Fm.here (.mk 7 a v ps) = (decide (ps.length = 2) && a.none && (v == [])) := rfl
  rw [hH] at hN
  have hq : isQ 7 = false := rfl
  have hb : znp 7 = true := rfl
  simp only [fmD, zab, Fm.op, Fm.atom, Fm.var, Fm.parts]
  refine zaj Tryz.call184 Tryz.func184 rfl (by kernel_rfl) (zav (by kernel_rfl)) ?_
  simp -implicitDefEqProofs only [go_sem, Tryz.results184]
  refine callF (zak 7) (by simp -implicitDefEqProofs only [go_sem, hq]) ?_
  simp -implicitDefEqProofs only [go_sem, hq]
  refine callF (zgp 7) (by simp -implicitDefEqProofs only [go_sem, hb]) ?_
  simp -implicitDefEqProofs only [go_sem, hb]
  simp only [e2]
  refine ⟨fun h => ?_, fun h => ?_⟩
  ·have h' : decide (ps.length = 2) = true := by simpa using h
   refine callF (zak 7) (by simp -implicitDefEqProofs only [go_sem, hq]) ?_
   simp -implicitDefEqProofs only [go_sem, hq]
   refine callF (zak 7) (by simp -implicitDefEqProofs only [go_sem, hq]) ?_
   simp -implicitDefEqProofs only [go_sem, hq]
   refine ⟨fun h1 => ?_, fun h1 => ?_⟩
   ·rw [hN, show (v == []) = false by simpa using h1, Bool.and_false, Bool.false_and]
   ·have h1' : (v == []) = true := by simpa using h1
    refine callF (zb3 a) (by simp -implicitDefEqProofs only [go_sem, zaa]) ?_
    simp -implicitDefEqProofs only [go_sem, zaa]
    refine ⟨fun h2 => ?_, fun h2 => ?_⟩
    ·rw [hN, show a.none = false by simpa using h2, Bool.and_false, Bool.false_and, Bool.false_and]
    ·have h2' : a.none = true := by simpa using h2
     refine callF (za1 ps (fun x => !x.forms) _ [] H1) (by simp -implicitDefEqProofs only [go_sem]) ?_
     simp -implicitDefEqProofs only [go_sem]
     rw [zef, hN, h', h1', h2']; rfl
  ·rw [hN, show decide (ps.length = 2) = false by simpa using h]; rfl
 ·have hH : Fm.here (.mk 8 a v ps) = (decide (ps.length = 1) && a.none && za2 v) := rfl
  rw [hH] at hN
  have hq : isQ 8 = true := rfl
  have hb : znp 8 = false := rfl
  simp only [fmD, zab, Fm.op, Fm.atom, Fm.var, Fm.parts]
  refine zaj Tryz.call184 Tryz.func184 rfl (by kernel_rfl) (zav (by kernel_rfl)) ?_
  simp -implicitDefEqProofs only [go_sem, Tryz.results184]
  refine callF (zak 8) (by simp -implicitDefEqProofs only [go_sem, hq]) ?_
  simp -implicitDefEqProofs only [go_sem, hq]
  simp only [e1]
  refine ⟨fun h => ?_, fun h => ?_⟩
  ·have h' : decide (ps.length = 1) = true := by simpa using h
   refine callF (zak 8) (by simp -implicitDefEqProofs only [go_sem, hq]) ?_
   simp -implicitDefEqProofs only [go_sem, hq]
   refine callF (zeb v) (by simp -implicitDefEqProofs only [go_sem]) ?_
   simp -implicitDefEqProofs only [go_sem]
   refine ⟨fun h1 => ?_, fun h1 => ?_⟩
   ·have h1' : za2 v = true := by simpa using h1
    refine callF (zak 8) (by simp -implicitDefEqProofs only [go_sem, hq]) ?_
    simp -implicitDefEqProofs only [go_sem, hq]
    refine callF (zb3 a) (by simp -implicitDefEqProofs only [go_sem, zaa]) ?_
    simp -implicitDefEqProofs only [go_sem, zaa]
    refine ⟨fun h2 => ?_, fun h2 => ?_⟩
    ·rw [hN, show a.none = false by simpa using h2, Bool.and_false, Bool.false_and, Bool.false_and]
    ·have h2' : a.none = true := by simpa using h2
     refine callF (za1 ps (fun x => !x.forms) _ [] H1) (by simp -implicitDefEqProofs only [go_sem]) ?_
     simp -implicitDefEqProofs only [go_sem]
     rw [zef, hN, h', h1', h2']; rfl
   ·rw [hN, show za2 v = false by simpa using h1, Bool.and_false, Bool.false_and]
  ·rw [hN, show decide (ps.length = 1) = false by simpa using h]; rfl
 ·have hH : Fm.here (.mk 9 a v ps) = (decide (ps.length = 1) && a.none && za2 v) := rfl
  rw [hH] at hN
  have hq : isQ 9 = true := rfl
  have hb : znp 9 = false := rfl
  simp only [fmD, zab, Fm.op, Fm.atom, Fm.var, Fm.parts]
  refine zaj Tryz.call184 Tryz.func184 rfl (by kernel_rfl) (zav (by kernel_rfl)) ?_
  simp -implicitDefEqProofs only [go_sem, Tryz.results184]
  refine callF (zak 9) (by simp -implicitDefEqProofs only [go_sem, hq]) ?_
  simp -implicitDefEqProofs only [go_sem, hq]
  simp only [e1]
  refine ⟨fun h => ?_, fun h => ?_⟩
  ·have h' : decide (ps.length = 1) = true := by simpa using h
   refine callF (zak 9) (by simp -implicitDefEqProofs only [go_sem, hq]) ?_
   simp -implicitDefEqProofs only [go_sem, hq]
   refine callF (zeb v) (by simp -implicitDefEqProofs only [go_sem]) ?_
   simp -implicitDefEqProofs only [go_sem]
   refine ⟨fun h1 => ?_, fun h1 => ?_⟩
   ·have h1' : za2 v = true := by simpa using h1
    refine callF (zak 9) (by simp -implicitDefEqProofs only [go_sem, hq]) ?_
    simp -implicitDefEqProofs only [go_sem, hq]
    refine callF (zb3 a) (by simp -implicitDefEqProofs only [go_sem, zaa]) ?_
    simp -implicitDefEqProofs only [go_sem, zaa]
    refine ⟨fun h2 => ?_, fun h2 => ?_⟩
    ·rw [hN, show a.none = false by simpa using h2, Bool.and_false, Bool.false_and, Bool.false_and]
    ·have h2' : a.none = true := by simpa using h2
     refine callF (za1 ps (fun x => !x.forms) _ [] H1) (by simp -implicitDefEqProofs only [go_sem]) ?_
     simp -implicitDefEqProofs only [go_sem]
     rw [zef, hN, h', h1', h2']; rfl
   ·rw [hN, show za2 v = false by simpa using h1, Bool.and_false, Bool.false_and]
  ·rw [hN, show decide (ps.length = 1) = false by simpa using h]; rfl
 ·have hH : Fm.here (.mk o a v ps) = false := by simp [Fm.here, znp, isQ, Fm.op, *]
  rw [hH] at hN
  have f1 : (o == 1) = false := by simpa using n1
  have f2 : (o == 2) = false := by simpa using n2
  have f3 : (o == 3) = false := by simpa using n3
  have f4 : (o == 4) = false := by simpa using n4
  have hq : isQ o = false := by simp [isQ, n8, n9]
  have hb : znp o = false := by simp [znp, n5, n6, n7]
  simp only [fmD, zab, Fm.op, Fm.atom, Fm.var, Fm.parts]
  refine zaj Tryz.call184 Tryz.func184 rfl (by kernel_rfl) (zav (by kernel_rfl)) ?_
  simp -implicitDefEqProofs only [go_sem, Tryz.results184, f1, f2, f3, f4]
  refine callF (zak o) (by simp -implicitDefEqProofs only [go_sem, hq]) ?_
  simp -implicitDefEqProofs only [go_sem, hq]
  refine callF (zgp o) (by simp -implicitDefEqProofs only [go_sem, hb]) ?_
  simp -implicitDefEqProofs only [go_sem, hb]
  rw [hN]; rfl
theorem qde : ∀ a : Fm, a.wt <= 1099511627776 -> FC Tryz.prog 184 [fmD a] [bD a.forms] :=
 zbr fun o a v xs ih hs => zyh (.mk o a v xs) hs fun x hx => ih x hx (Nat.le_trans (zby (a := .mk o a v xs) hx) hs)
theorem zcy (a : Fm) (hs : a.wt <= 1099511627776) : FC Tryz.prog 116 [fmD a] [bD a.good] := by
 simp only [fmD, zab]
 refine zaj Tryz.call116 Tryz.func116 rfl (by kernel_rfl) (zav (by kernel_rfl)) ?_
 simp -implicitDefEqProofs only [go_sem, Tryz.results116]
 refine callF (qfd a hs) (by simp -implicitDefEqProofs only [go_sem, zab]) ?_
 simp -implicitDefEqProofs only [go_sem, zab]
 rw [qfr]
 refine ⟨fun h => ?_, fun h => ?_⟩
 ·refine callF (qde a hs) (by simp -implicitDefEqProofs only [go_sem, zab]) ?_
  simp -implicitDefEqProofs only [go_sem, zab]
  rw [Fm.good, h, Bool.true_and]
 ·rw [Fm.good, h, Bool.false_and]
end Go.Proofs.YtbccfiillleimaaGreat
namespace Go.Proofs.YtbccfiillleimaaGreat
set_option linter.unusedSimpArgs false
set_option linter.unusedVariables false
set_option linter.unusedSectionVars false
set_option maxRecDepth 4000
open Go.RowKit
theorem zsv {a : Tm} (h : a.none = true) : a = .mk [] [] := by
 obtain ⟨n, xs⟩ := a
 simp only [Tm.none, Tm.name, Tm.args, Bool.and_eq_true, beq_iff_eq, decide_eq_true_eq, List.length_eq_zero_iff] at h
 rw [h.1, h.2]
theorem len1 {α : Type} {xs : List α} (h : xs.length = 1) : ∃ x, xs = [x] := by
 match xs, h with
 | [x], _ => exact ⟨x, rfl⟩
theorem len2 {α : Type} {xs : List α} (h : xs.length = 2) : ∃ x y, xs = [x, y] := by
 match xs, h with
 | [x, y], _ => exact ⟨x, y, rfl⟩
theorem qnl (o : Int) (a : Tm) (v : Str) (ps : List Fm) : Fm.here (.mk o a v ps) =
  if (o == 1 || o == 2) = true then decide (ps.length = 0) && a.none && (v == [])
  else if (o == 3) = true then decide (ps.length = 0) && a.atomOk && (v == [])
  else if (o == 4) = true then decide (ps.length = 1) && a.none && (v == [])
  else if (o == 5 || o == 6 || o == 7) = true then decide (ps.length = 2) && a.none && (v == [])
  else if (o == 8 || o == 9) = true then decide (ps.length = 1) && a.none && za2 v
  else false := rfl
theorem zj6 {f : Fm} (h : f.forms = true) :
  (f.parts = [] /\ (f.op = 1 \/ f.op = 2 \/ f.op = 3)) \/ (∃ p : Fm, f = mkF 4 [p] /\ p.forms = true) \/ (∃ (o : Int) (p q : Fm), (o = 5 \/ o = 6 \/ o = 7) /\ f = mkF o [p, q] /\ p.forms = true /\ q.forms = true) ∨
   ∃ (o : Int) (v : Str) (p : Fm), (o = 8 \/ o = 9) /\ f = .mk o (.mk [] []) v [p] /\ p.forms = true := by
 rw [Fm.forms_eq, Bool.and_eq_true] at h
 obtain ⟨h1, h2⟩ := h
 obtain ⟨o, a, v, ps⟩ := f
 rw [qnl] at h1
 simp only [Fm.op, Fm.parts] at h2 ⊢
 by_cases h12 : (o == 1 || o == 2) = true
 ·rw [if_pos h12] at h1
  simp only [Bool.or_eq_true, beq_iff_eq, Bool.and_eq_true, decide_eq_true_eq, List.length_eq_zero_iff] at h12 h1
  exact Or.inl ⟨h1.1.1, by omega⟩
 rw [if_neg h12] at h1
 by_cases h3 : (o == 3) = true
 ·rw [if_pos h3] at h1
  simp only [beq_iff_eq, Bool.and_eq_true, decide_eq_true_eq, List.length_eq_zero_iff] at h3 h1
  exact Or.inl ⟨h1.1.1, by omega⟩
 rw [if_neg h3] at h1
 by_cases h4 : (o == 4) = true
 ·rw [if_pos h4] at h1
  simp only [beq_iff_eq, Bool.and_eq_true, decide_eq_true_eq] at h4 h1
  obtain ⟨⟨h5, h6⟩, h7⟩ := h1
  obtain ⟨x, rfl⟩ := len1 h5
  rw [h4, zsv h6, h7]
  exact Or.inr (Or.inl ⟨x, rfl, by simpa using h2⟩)
 rw [if_neg h4] at h1
 by_cases h5 : (o == 5 || o == 6 || o == 7) = true
 ·rw [if_pos h5] at h1
  simp only [Bool.or_eq_true, beq_iff_eq, Bool.and_eq_true, decide_eq_true_eq] at h5 h1
  obtain ⟨⟨h6, h7⟩, h8⟩ := h1
  obtain ⟨x, y, rfl⟩ := len2 h6
  rw [zsv h7, h8]
  simp only [List.all_cons, List.all_nil, Bool.and_true, Bool.and_eq_true] at h2
  exact Or.inr (Or.inr (Or.inl ⟨o, x, y, by omega, rfl, h2.1, h2.2⟩))
 rw [if_neg h5] at h1
 by_cases h6 : (o == 8 || o == 9) = true
 ·rw [if_pos h6] at h1
  simp only [Bool.or_eq_true, beq_iff_eq, Bool.and_eq_true, decide_eq_true_eq] at h6 h1
  obtain ⟨⟨h7, h8⟩, h9⟩ := h1
  obtain ⟨x, rfl⟩ := len1 h7
  rw [zsv h8]
  exact Or.inr (Or.inr (Or.inr ⟨o, v, x, by omega, rfl, by simpa using h2⟩))
 ·rw [if_neg h6] at h1; cases h1
end Go.Proofs.YtbccfiillleimaaGreat
namespace Go.Proofs.YtbccfiillleimaaGreat
set_option linter.unusedSimpArgs false
set_option linter.unusedVariables false
set_option linter.unusedSectionVars false
set_option maxRecDepth 4000
open Go.RowKit
theorem zyf {f : Fm} {x : Fm} (h : x ∈ f.parts) : x.nodes < f.nodes := by
 have := f.nodes_eq
 obtain ⟨i, hi, rfl⟩ := List.getElem_of_mem h
 have := za6 Fm.nodes f.parts _ (List.getElem_mem hi)
 omega
def zcw : Fm -> Bool := Fm.fold fun o _ _ _ rs => !(o == 8 || o == 9) && rs.all id
theorem zek (f : Fm) : zcw f = (!(f.op == 8 || f.op == 9) && f.parts.all zcw) := by
 unfold zcw
 rw [Fm.fold_eq]
 simp only [List.all_map]
 rfl
end Go.Proofs.YtbccfiillleimaaGreat
namespace Go.Proofs.YtbccfiillleimaaGreat
set_option linter.unusedSimpArgs false
set_option linter.unusedVariables false
set_option linter.unusedSectionVars false
set_option maxRecDepth 4000
open Go.RowKit
def zdg (n : Str) (t : Tm) : Fm -> Fm × Bool := Fm.fold fun o a v ps rs =>
 if (isQ o && (v == n || !((za5 [] (vf (.mk o a v ps) [])).contains n))) = true then (.mk o a v ps, true)
 else if (isQ o && decide (0 < zh0 v t)) = true then (mkF 0 [], false)
 else (.mk o (if (o == 3) = true then zfp n t a else a) v (rs.map Prod.fst), rs.all Prod.snd)
theorem zr7 (n : Str) (t : Tm) (f : Fm) : zdg n t f = if (isQ f.op && (f.var == n || !((za5 [] (vf f [])).contains n))) = true then (f, true)
  else if (isQ f.op && decide (0 < zh0 f.var t)) = true then (mkF 0 [], false)
  else (.mk f.op (if (f.op == 3) = true then zfp n t f.atom else f.atom) f.var (f.parts.map fun x => (zdg n t x).1), f.parts.all fun x => (zdg n t x).2) := by
 cases f with
 | mk o a v ps =>
  conv => lhs; unfold zdg; rw [Fm.fold_eq]
  simp only [List.map_map, List.all_map]
  rfl
abbrev subX (n : Str) (t : Tm) (b : Bool) : Bxs := [[(false, .str n)], [(false, .str t.name), (false, .sl 2 (t.args.map tmC))], [(true, .bool b)]]
theorem qks (n : Str) (t : Tm) (f : Fm) (r : Fm) (ok b : Bool) (H : FC Tryz.prog 209 [fmD f, sD n, tmD t] [fmD r, bD ok]) :
  PC Tryz.prog 250 (subX n t b) [.d false (fmD f), .p 0, .p 1, .p 2] (subX n t (b && ok)) [(true, fmD r)] := by
 simp only [fmD, zab, tmD, zaa t] at H ⊢
 refine zku Tryz.call250 Tryz.func250 rfl (by kernel_rfl) (by simp only [List.length_cons, List.length_nil, Tryz.ntmps250]; omega) (by simp only [Tryz.ntmps250]; omega) rfl rfl (by simp [zbm, T.isPin, AF.ds, bxA]) (by simp [gFS, T.fs, T.flat, AF.ds, bxA]) rfl ?_
 simp -implicitDefEqProofs only [go_sem, Tryz.results250]
 refine callF (H) (by simp -implicitDefEqProofs only [go_sem]) ?_
 simp -implicitDefEqProofs only [go_sem]
 exact ⟨fun h => Or.inl (by rw [h]; rfl), fun h => Or.inl (by rw [h]; rfl)⟩
theorem zq7 (n : Str) (t : Tm) (a : Fm) (g : FuncId) (φ : Fm -> Fm) (ψ : Fm -> Bool) (b : Bool) (H : ∀ x ∈ a.parts, ∀ b, PC Tryz.prog g (subX n t b) [.d false (fmD x), .p 0, .p 1, .p 2] (subX n t (b && ψ x)) [(true, fmD (φ x))]) (h0 : a.atom.wt <= 1048576) (hs : a.parts.length <= 1048576) :
  PC Tryz.prog 127 (subX n t b) [.d false (fmD a), .fn g [0, 1, 2]] (subX n t (b && a.parts.all ψ)) [(true, fmD (.mk a.op a.atom a.var (a.parts.map φ)))] := by
 simp only [fmD, zab a, zcu]
 refine zku Tryz.call127 Tryz.func127 rfl (by kernel_rfl) (by simp only [List.length_cons, List.length_nil, Tryz.ntmps127]; omega) (by simp only [Tryz.ntmps127]; omega) rfl rfl (by simp [zbm, T.isPin, AF.ds, bxA]) (by simp [gFS, T.fs, T.flat, AF.ds, bxA]) rfl ?_
 simp -implicitDefEqProofs only [go_sem, Tryz.results127]
 refine drawn (by kernel_rfl) ?_
 simp -implicitDefEqProofs only [go_sem]
 refine zao (zew a.atom h0) (by simp -implicitDefEqProofs only [go_sem, zaa]) ?_
 simp -implicitDefEqProofs only [go_sem, zaa]
 refine ⟨by kernel_rfl, ?_⟩
 refine zae (fun k : Nat => hd [(1, .one (.fn g [1000000, 1000001, 1000002])), (4, .one (.bx 4 0)), (5, .one (.bx 5 0)), (17, .one (.rn (fmS a.parts))), (18, vI a.parts.length), (19, vI k), (1000000, .one (.bx 1000000 0)), (1000001, .one (.bx 1000001 0)), (1000002, .one (.bx 1000002 0))] [(4, [.t (.int .i64 0), .t (.str []), .nl 2, .t (.str []), .nl 5]), (5, [.t (.int .i64 a.op), .t (.str a.atom.name), .ow 385 0, .t (.str a.var), .ow 3000 0]), (1000000, [.t (.str n)]), (1000001, [.t (.str t.name), .rn (.sl 2 (t.args.map tmC))]), (1000002, [.t (.bool (b && (a.parts.take k).all ψ))])]
  [(385, ⟨true, 2, a.atom.args.map tmC, 0, true⟩), (3000, ⟨true, 5, (a.parts.take k).map fun x => fmC (φ x), 0, true⟩)]) (fun k => k <= a.parts.length) (fun k => a.parts.length - k) 0 (zac ?_) ?_ ?_
 ·simp -implicitDefEqProofs only [go_sem]
 ·simp
 ·intro k hk
  by_cases hlt : k < a.parts.length
  ·have hmin : min k a.parts.length <= 4294967295 := by omega
   have HC := H a.parts[k] (List.getElem_mem hlt) (b && (a.parts.take k).all ψ)
   have hsuc : (a.parts.take (k + 1)).all ψ = ((a.parts.take k).all ψ && ψ a.parts[k]) := by rw [List.take_succ_eq_append_getElem hlt, List.all_append]; simp
   simp only [fmD, zab a.parts[k], zab (φ a.parts[k])] at HC
   simp -implicitDefEqProofs only [go_sem, zad, hlt, zab a.parts[k]]
   refine drawn (by kernel_rfl) ?_
   simp -implicitDefEqProofs only [go_sem]
   refine dCallQ [1000000, 1000001, 1000002] (HC) (by decide) (by simp -implicitDefEqProofs only [go_sem]) (by simp -implicitDefEqProofs only [go_sem]) ?_
   simp -implicitDefEqProofs only [go_sem]
   refine zbj (by simp -implicitDefEqProofs only [go_sem]) ?_
   simp -implicitDefEqProofs only [go_sem]
   refine zfs true (by simp -implicitDefEqProofs only [go_sem, ne_eq, List.length_map, List.length_take, hmin]) ?_
   simp -implicitDefEqProofs only [go_sem, ne_eq, List.length_map, List.length_take, hmin]
   refine ⟨by kernel_rfl, k + 1, hlt, by omega, zac ?_⟩
   simp -implicitDefEqProofs only [go_sem]
   rw [zap (by omega), List.take_succ_eq_append_getElem hlt, List.map_append, List.map_singleton]
   simp only [zab]
   rw [<- List.take_succ_eq_append_getElem hlt, hsuc, Bool.and_assoc]
   exact ⟨trivial, rfl, trivial⟩
  ·have ht : a.parts.take k = a.parts := List.take_of_length_le (by omega)
   simp -implicitDefEqProofs only [go_sem, hlt, ht]
   exact Or.inl (Or.inl rfl)
theorem zls (n : Str) (t : Tm) (ht : t.wt <= 1048576) (f : Fm) (hf : f.forms = true) (hw : f.wt <= 1048576) (H : ∀ x ∈ f.parts, FC Tryz.prog 209 [fmD x, sD n, tmD t] [fmD (zdg n t x).1, bD (zdg n t x).2]) :
  FC Tryz.prog 209 [fmD f, sD n, tmD t] [fmD (zdg n t f).1, bD (zdg n t f).2] := by
 have hv := zr7 n t f
 have HF := qkb f hf hw
 have HO := qfo f.var t (by omega)
 have HP := zq7 n t f 250 (fun x => (zdg n t x).1) (fun x => (zdg n t x).2) true (fun x hx b => qks n t x _ _ b (H x hx)) (by have := zik f; omega) (by have := f.wt_eq; omega)
 rw [Bool.true_and] at HP
 have HC := zoe f hw
 generalize za5 [] (vf f []) = V at hv HF
 simp only [fmD, zab f, tmD, zaa t, zcu] at HF HO HC HP ⊢
 refine zcv Tryz.call209 Tryz.func209 rfl (by kernel_rfl) (zav (by kernel_rfl)) ?_
 simp -implicitDefEqProofs only [go_sem, Tryz.results209]
 cases hq : isQ f.op
 ·rw [hq, Bool.false_and, Bool.false_and, if_neg (by simp), if_neg (by simp)] at hv
  have HI := zak f.op
  rw [hq] at HI
  refine drawn (by kernel_rfl) ?_
  simp -implicitDefEqProofs only [go_sem]
  refine zao (HI) (by simp -implicitDefEqProofs only [go_sem]) ?_
  simp -implicitDefEqProofs only [go_sem]
  refine ⟨by kernel_rfl, ?_⟩
  refine callF (HI) (by simp -implicitDefEqProofs only [go_sem]) ?_
  simp -implicitDefEqProofs only [go_sem]
  have HA := ql0 n t ht f.atom (by have := zik f; omega)
  have hS : sbS [(n, t)] = .sl 3 [[.str n, .str t.name, .sl 2 (t.args.map tmC)]] := by unfold sbS; rw [List.map_singleton, zh8]
  rw [hS] at HA
  simp only [tmD, zaa f.atom, zaa (zfp n t f.atom)] at HA
  cases h3 : f.op == 3
  ·rw [h3, if_neg (by simp)] at hv
   rw [hv]
   simp only [fmD, zcu]
   refine callQ [4, 5, 8] (HP) (by decide) (by simp -implicitDefEqProofs only [go_sem, h3]) (by simp -implicitDefEqProofs only [go_sem, h3]) ?_
   simp -implicitDefEqProofs only [go_sem, h3]
   refine drawn (by kernel_rfl) ?_
   simp -implicitDefEqProofs only [go_sem]
   kernel_rfl
  ·rw [h3, if_pos rfl] at hv
   rw [hv]
   simp only [fmD, zcu]
   refine callQ [4, 5, 8] (HP) (by decide) (by simp -implicitDefEqProofs only [go_sem, h3]) (by simp -implicitDefEqProofs only [go_sem, h3]) ?_
   simp -implicitDefEqProofs only [go_sem, h3]
   refine zis (by simp -implicitDefEqProofs only [go_sem]) ?_
   simp -implicitDefEqProofs only [go_sem]
   refine callF (HA) (by simp -implicitDefEqProofs only [go_sem]) ?_
   simp -implicitDefEqProofs only [go_sem]
   refine drawn (by kernel_rfl) ?_
   simp -implicitDefEqProofs only [go_sem]
   kernel_rfl
 ·have HI := zak f.op
  rw [hq] at HI
  rw [hq, Bool.true_and, Bool.true_and] at hv
  cases hvn : f.var == n
  ·rw [hvn, Bool.false_or] at hv
   have HCt := zbk V n
   refine drawn (by kernel_rfl) ?_
   simp -implicitDefEqProofs only [go_sem]
   refine zao (HI) (by simp -implicitDefEqProofs only [go_sem, hvn]) ?_
   simp -implicitDefEqProofs only [go_sem, hvn]
   cases hcn : V.contains n
   ·rw [hcn, if_pos (by simp)] at hv
    rw [hcn] at HCt
    rw [hv]
    simp only [fmD, zab f]
    refine za7 (HF) (by simp -implicitDefEqProofs only [go_sem]) ?_
    simp -implicitDefEqProofs only [go_sem]
    refine za7 (HCt) (by simp -implicitDefEqProofs only [go_sem]) ?_
    simp -implicitDefEqProofs only [go_sem]
    refine ⟨by kernel_rfl, ?_⟩
    refine callF (HC) (by simp -implicitDefEqProofs only [go_sem]) ?_
    simp -implicitDefEqProofs only [go_sem]
   ·rw [hcn, if_neg (by simp)] at hv
    rw [hcn] at HCt
    refine za7 (HF) (by simp -implicitDefEqProofs only [go_sem]) ?_
    simp -implicitDefEqProofs only [go_sem]
    refine za7 (HCt) (by simp -implicitDefEqProofs only [go_sem]) ?_
    simp -implicitDefEqProofs only [go_sem]
    refine ⟨by kernel_rfl, ?_⟩
    refine callF (HI) (by simp -implicitDefEqProofs only [go_sem]) ?_
    simp -implicitDefEqProofs only [go_sem]
    have h3 : (f.op == 3) = false := by
     rw [beq_eq_false_iff_ne]
     intro e
     rw [e] at hq
     exact absurd hq (by decide)
    cases ho : decide (0 < zh0 f.var t)
    ·rw [ho, if_neg (by simp), h3, if_neg (by simp)] at hv
     rw [ho] at HO
     rw [hv]
     simp only [fmD, zcu]
     refine callF (HO) (by simp -implicitDefEqProofs only [go_sem]) ?_
     simp -implicitDefEqProofs only [go_sem]
     refine callQ [4, 5, 8] (HP) (by decide) (by simp -implicitDefEqProofs only [go_sem, h3]) (by simp -implicitDefEqProofs only [go_sem, h3]) ?_
     simp -implicitDefEqProofs only [go_sem, h3]
     refine drawn (by kernel_rfl) ?_
     simp -implicitDefEqProofs only [go_sem]
     kernel_rfl
    ·rw [ho, if_pos rfl] at hv
     rw [ho] at HO
     rw [hv]
     simp only [fmD, zb7, List.map_nil]
     refine callF (HO) (by simp -implicitDefEqProofs only [go_sem]) ?_
     simp -implicitDefEqProofs only [go_sem]
  ·rw [hvn, Bool.true_or, if_pos rfl] at hv
   refine drawn (by kernel_rfl) ?_
   simp -implicitDefEqProofs only [go_sem]
   rw [hv]
   simp only [fmD, zab f]
   refine zao (HI) (by simp -implicitDefEqProofs only [go_sem, hvn]) ?_
   simp -implicitDefEqProofs only [go_sem, hvn]
   refine ⟨by kernel_rfl, ?_⟩
   refine callF (HC) (by simp -implicitDefEqProofs only [go_sem]) ?_
   simp -implicitDefEqProofs only [go_sem]
theorem znd (n : Str) (t : Tm) (ht : t.wt <= 1048576) : ∀ f : Fm, f.forms = true -> f.wt <= 1048576 -> FC Tryz.prog 209 [fmD f, sD n, tmD t] [fmD (zdg n t f).1, bD (zdg n t f).2] :=
 zbr fun o a v ps ih hf hw => zls n t ht (.mk o a v ps) hf hw fun x hx => ih x hx (by rw [Fm.forms_eq, Bool.and_eq_true] at hf; exact List.all_eq_true.1 hf.2 x hx) (Nat.le_trans (zby (a := .mk o a v ps) hx) hw)
end Go.Proofs.YtbccfiillleimaaGreat
namespace Go.Proofs.YtbccfiillleimaaGreat
set_option linter.unusedSimpArgs false
set_option linter.unusedVariables false
set_option linter.unusedSectionVars false
set_option maxRecDepth 4000
open Go.RowKit
theorem zyp (n : Str) (t : Tm) (x : Str) : FC Tryz.prog 216 [.agg [sbS [(n, t)]], sD x] [iD (if (n == x) = true then 0 else -1)] := by
 have hS : sbS [(n, t)] = .sl 3 [[.str n, .str t.name, .sl 2 (t.args.map tmC)]] := by unfold sbS; rw [List.map_singleton, zh8]
 rw [hS]
 refine zaj Tryz.call216 Tryz.func216 rfl (by kernel_rfl) (zav (by kernel_rfl)) ?_
 simp -implicitDefEqProofs only [go_sem, Tryz.results216]
 refine zae (fun k : Nat => hd [(1, vT (.str x)), (2, .one (.bx 2 0)), (5, vI k)] [(2, [.t (.sl 3 [[.str n, .str t.name, .sl 2 (t.args.map tmC)]])])] []) (fun k => k = 0 \/ (k = 1 /\ (n == x) = false)) (fun k => 1 - k) 0 (zac ?_) (Or.inl rfl) ?_
 ·simp -implicitDefEqProofs only [go_sem]
 ·rintro k (rfl | ⟨rfl, hn⟩)
  ·cases hn : n == x
   ·simp -implicitDefEqProofs only [go_sem, hn]
    refine ⟨1, Or.inr rfl, by decide, zac ?_⟩
    have hz : IntKind.i64.wrap 1 = 1 := by decide
    simp -implicitDefEqProofs only [go_sem, hz]
   ·simp -implicitDefEqProofs only [go_sem, hn]
  ·simp -implicitDefEqProofs only [go_sem, hn]
theorem qcc (n : Str) (t : Tm) (ht : t.wt <= 1048576) (hn : (t.name == n) = false) : FC Tryz.prog 180 [.agg [sbS []], sD n, tmD t] [.agg [sbS [(n, t)]]] := by
 have hS : sbS [(n, t)] = .sl 3 [[.str n, .str t.name, .sl 2 (t.args.map tmC)]] := by unfold sbS; rw [List.map_singleton, zh8]
 have hS0 : sbS [] = .sl 3 [] := rfl
 have HK := zsg t ht
 rw [hS, hS0]
 simp only [tmD, zaa t] at HK ⊢
 refine zcv Tryz.call180 Tryz.func180 rfl (by kernel_rfl) (zav (by kernel_rfl)) ?_
 simp -implicitDefEqProofs only [go_sem, Tryz.results180, hn]
 refine zae (fun k : Nat => hd [(1, vT (.str n)), (3, .one (.bx 3 0)), (5, .one (.bx 5 0)), (6, .one (.bx 6 0)), (7, vI (0 : Nat))] [(3, [.rn (.sl 3 [])]), (5, [.t (.str t.name), .rn (.sl 2 (t.args.map tmC))]), (6, [.nl 3])] []) (fun k => k = 0) (fun k => 0) 0 (zac ?_) rfl ?_
 ·simp -implicitDefEqProofs only [go_sem]
 ·rintro k rfl
  simp -implicitDefEqProofs only [go_sem]
  refine zbd (by simp -implicitDefEqProofs only [go_sem]) ?_
  simp -implicitDefEqProofs only [go_sem]
  refine apD true (by simp -implicitDefEqProofs only [go_sem, ne_eq]) ?_
  simp -implicitDefEqProofs only [go_sem, ne_eq]
  refine callF (HK) (by simp -implicitDefEqProofs only [go_sem]) ?_
  simp -implicitDefEqProofs only [go_sem]
  refine zbd (by simp -implicitDefEqProofs only [go_sem]) ?_
  simp -implicitDefEqProofs only [go_sem]
  refine apD true (by simp -implicitDefEqProofs only [go_sem, ne_eq]) ?_
  simp -implicitDefEqProofs only [go_sem, ne_eq]
  refine apD true (by simp -implicitDefEqProofs only [go_sem, ne_eq]) ?_
  simp -implicitDefEqProofs only [go_sem, ne_eq]
theorem zxh (n : Str) (t : Tm) (hn : (t.name == n) = true) : RC Tryz.prog 180 [.agg [sbS []], sD n, tmD t] [.agg [sbS []]] := by
 have hS0 : sbS [] = .sl 3 [] := rfl
 rw [hS0]
 simp only [tmD, zaa t]
 refine RC_of Tryz.call180 Tryz.func180 rfl (by kernel_rfl) (zav (by kernel_rfl)) ?_
 simp -implicitDefEqProofs only [go_sem, Tryz.results180, hn]
def zej (l : List (Str × Tm)) : Tm -> Tm := Tm.fold fun m _ rs => if za2 m = true then (match l.find? fun p => p.1 == m with | some p => p.2 | none => .mk m []) else .mk m rs
theorem znq (l : List (Str × Tm)) (a : Tm) : zej l a = if za2 a.name = true then (match l.find? fun p => p.1 == a.name with | some p => p.2 | none => .mk a.name []) else .mk a.name (a.args.map (zej l)) := by unfold zej; rw [Tm.fold_eq]
theorem zr6 (x : Str) : FC Tryz.prog 216 [.agg [sbS []], sD x] [iD (-1)] := by
 have hS : sbS [] = .sl 3 [] := rfl
 rw [hS]
 refine zaj Tryz.call216 Tryz.func216 rfl (by kernel_rfl) (zav (by kernel_rfl)) ?_
 simp -implicitDefEqProofs only [go_sem, Tryz.results216]
 refine zae (fun k : Nat => hd [(1, vT (.str x)), (2, .one (.bx 2 0)), (5, vI (0 : Nat))] [(2, [.t (.sl 3 [])])] []) (fun k => k = 0) (fun k => 0) 0 (zac ?_) rfl ?_
 ·simp -implicitDefEqProofs only [go_sem]
 ·rintro k rfl
  simp -implicitDefEqProofs only [go_sem]
theorem zxv (l : List (Str × Tm)) (hl : l.length <= 1) (hw : ∀ p ∈ l, p.2.wt <= 1048576) (a : Tm) (ha : a.args.length <= 1048576) (H : ∀ x ∈ a.args, FC Tryz.prog 179 [.agg [sbS l], tmD x] [tmD (zej l x)]) : FC Tryz.prog 179 [.agg [sbS l], tmD a] [tmD (zej l a)] := by
 have hv := znq l a
 have HV := zf5 a.name
 cases hva : za2 a.name
 ·rw [hva, if_neg (by simp)] at hv
  rw [hva] at HV
  rw [hv]
  have e1 : tmD (.mk a.name (a.args.map (zej l))) = .agg [.str a.name, .sl 2 (a.args.map fun x => tmC (zej l x))] := by unfold tmD; rw [zaa]; simp only [Tm.name, Tm.args, List.map_map, Function.comp_def]
  rw [e1]
  simp only [tmD, zaa a] at H ⊢
  unfold sbS at H ⊢
  generalize l.map bnC = L at H ⊢
  refine zaj Tryz.call179 Tryz.func179 rfl (by kernel_rfl) (zav (by kernel_rfl)) ?_
  simp -implicitDefEqProofs only [go_sem, Tryz.results179]
  refine callF (HV) (by simp -implicitDefEqProofs only [go_sem]) ?_
  simp -implicitDefEqProofs only [go_sem]
  refine zae (fun k : Nat => hd [(2, .one (.bx 2 0)), (3, .one (.bx 3 0)), (4, .one (.bx 4 0)), (6, .one (.bx 6 0)), (7, vI k)] [(2, [.t (.sl 3 L)]), (3, [.t (.str a.name), .t (tmS a.args)]), (4, [.t (.str []), .nl 2]), (6, [.t (.str a.name), .ow 3000 0])] [(3000, ⟨true, 2, (a.args.take k).map fun x => tmC (zej l x), 0, true⟩)]) (fun k => k <= a.args.length) (fun k => a.args.length - k) 0 (zac ?_) (Nat.zero_le _) ?_
  ·simp -implicitDefEqProofs only [go_sem]
  ·intro k hk
   by_cases hlt : k < a.args.length
   ·have HC := H a.args[k] (List.getElem_mem hlt)
    have hmin : min k a.args.length <= 4294967295 := by omega
    simp only [zaa a.args[k], zaa (zej l a.args[k])] at HC
    simp -implicitDefEqProofs only [go_sem, hlt]
    refine drawn (by kernel_rfl) ?_
    simp -implicitDefEqProofs only [go_sem, zad, hlt, zaa a.args[k]]
    refine zao (HC) (by simp -implicitDefEqProofs only [go_sem]) ?_
    simp -implicitDefEqProofs only [go_sem]
    refine zbj (by simp -implicitDefEqProofs only [go_sem]) ?_
    simp -implicitDefEqProofs only [go_sem]
    refine zfs true (by simp -implicitDefEqProofs only [go_sem, ne_eq, List.length_map, List.length_take, hmin]) ?_
    simp -implicitDefEqProofs only [go_sem, ne_eq, List.length_map, List.length_take, hmin]
    refine ⟨by kernel_rfl, k + 1, hlt, by omega, zac ?_⟩
    simp -implicitDefEqProofs only [go_sem]
    rw [zap (by omega), List.take_succ_eq_append_getElem hlt, List.map_append, List.map_singleton]
    simp only [zaa]
    trivial
   ·have ht : a.args.take k = a.args := List.take_of_length_le (by omega)
    simp -implicitDefEqProofs only [go_sem, hlt, ht]
 ·rw [hva, if_pos rfl] at hv
  rw [hva] at HV
  rw [hv]
  match l, hl with
  | [], _ =>
   have HN := zr6 a.name
   simp only [List.find?_nil]
   have e1 : tmD (.mk a.name []) = .agg [.str a.name, .sl 2 []] := rfl
   have hS : sbS [] = .sl 3 [] := rfl
   rw [hS] at HN ⊢
   rw [e1]
   simp only [tmD, zaa a]
   refine zaj Tryz.call179 Tryz.func179 rfl (by kernel_rfl) (zav (by kernel_rfl)) ?_
   simp -implicitDefEqProofs only [go_sem, Tryz.results179]
   refine callF (HV) (by simp -implicitDefEqProofs only [go_sem]) ?_
   simp -implicitDefEqProofs only [go_sem]
   refine callF (HN) (by simp -implicitDefEqProofs only [go_sem]) ?_
   simp -implicitDefEqProofs only [go_sem]
  | [(n, t)], _ =>
   have HO := zyp n t a.name
   have HK := zsg t (hw (n, t) (by simp))
   have hS : sbS [(n, t)] = .sl 3 [[.str n, .str t.name, .sl 2 (t.args.map tmC)]] := by unfold sbS; rw [List.map_singleton, zh8]
   rw [hS] at HO ⊢
   cases hn : n == a.name
   ·rw [hn] at HO
    simp only [List.find?_cons, hn, List.find?_nil]
    have e1 : tmD (.mk a.name []) = .agg [.str a.name, .sl 2 []] := rfl
    rw [e1]
    simp only [tmD, zaa a]
    refine zaj Tryz.call179 Tryz.func179 rfl (by kernel_rfl) (zav (by kernel_rfl)) ?_
    simp -implicitDefEqProofs only [go_sem, Tryz.results179]
    refine callF (HV) (by simp -implicitDefEqProofs only [go_sem]) ?_
    simp -implicitDefEqProofs only [go_sem]
    refine callF (HO) (by simp -implicitDefEqProofs only [go_sem]) ?_
    simp -implicitDefEqProofs only [go_sem]
   ·rw [hn] at HO
    simp only [List.find?_cons, hn]
    simp only [tmD, zaa a, zaa t] at HK ⊢
    refine zaj Tryz.call179 Tryz.func179 rfl (by kernel_rfl) (zav (by kernel_rfl)) ?_
    simp -implicitDefEqProofs only [go_sem, Tryz.results179]
    refine callF (HV) (by simp -implicitDefEqProofs only [go_sem]) ?_
    simp -implicitDefEqProofs only [go_sem]
    refine callF (HO) (by simp -implicitDefEqProofs only [go_sem]) ?_
    simp -implicitDefEqProofs only [go_sem]
    refine callF (HK) (by simp -implicitDefEqProofs only [go_sem]) ?_
    simp -implicitDefEqProofs only [go_sem]
theorem qef (l : List (Str × Tm)) (hl : l.length <= 1) (hw : ∀ p ∈ l, p.2.wt <= 1048576) : ∀ a : Tm, a.wt <= 1048576 -> FC Tryz.prog 179 [.agg [sbS l], tmD a] [tmD (zej l a)] :=
 zbp fun m xs ih hs => by
  obtain ⟨h1, h2⟩ := Tm.wt_args hs
  exact zxv l hl hw (.mk m xs) h1 fun x hx => ih x hx (h2 x hx)
end Go.Proofs.YtbccfiillleimaaGreat
namespace Go.Proofs.YtbccfiillleimaaGreat
set_option linter.unusedSimpArgs false
set_option linter.unusedVariables false
set_option linter.unusedSectionVars false
set_option maxRecDepth 4000
open Go.RowKit
def bnd (n : Str) (t : Tm) : List (Str × Tm) := if (t.name == n) = true then [] else [(n, t)]
def zrw (ps : List Fm) : List Str := match ps with
 | p :: _ => za5 [] (vf p [])
 | [] => []
def zbe (n : Str) (t : Tm) : Fm -> Fm × Bool := Fm.fold fun o a v ps rs =>
 if (o == 3) = true then (.mk o (zej (bnd n t) a) v [], (zej (bnd n t) a).atomOk)
 else if (isQ o && (v == n || !((zrw ps).contains n))) = true then (.mk o a v ps, true)
 else if (isQ o && (za5 [] (voS t)).contains v) = true then (.mk o (.mk [] []) v [], false)
 else (.mk o (.mk [] []) v ((rs.takeWhile Prod.snd).map Prod.fst), rs.all Prod.snd)
theorem qjl {α β : Type} (p : β -> Bool) (f : α -> β) : ∀ xs : List α, (xs.map f).takeWhile p = (xs.takeWhile fun x => p (f x)).map f
 | [] => rfl
 | x :: xs => by
  simp only [List.map_cons, List.takeWhile_cons]
  cases p (f x)
  ·rfl
  ·simp only [if_true, List.map_cons, qjl p f xs]
theorem zob (n : Str) (t : Tm) (f : Fm) : zbe n t f = if (f.op == 3) = true then (.mk f.op (zej (bnd n t) f.atom) f.var [], (zej (bnd n t) f.atom).atomOk)
  else if (isQ f.op && (f.var == n || !((zrw f.parts).contains n))) = true then (f, true)
  else if (isQ f.op && (za5 [] (voS t)).contains f.var) = true then (.mk f.op (.mk [] []) f.var [], false)
  else (.mk f.op (.mk [] []) f.var ((f.parts.takeWhile fun x => (zbe n t x).2).map fun x => (zbe n t x).1), f.parts.all fun x => (zbe n t x).2) := by
 cases f with
 | mk o a v ps =>
  conv => lhs; unfold zbe; rw [Fm.fold_eq]
  simp only [qjl, List.map_map, List.all_map]
  rfl
theorem zfx {f : Fm} (h : isQ f.op = true) (hf : f.forms = true) : ∃ p, f.parts = [p] /\ p.forms = true := by
 rw [Fm.forms_eq, Bool.and_eq_true] at hf
 have h1 := hf.1
 unfold Fm.here at h1
 have h2 : (f.op == 1 || f.op == 2) = false /\ (f.op == 3) = false /\ (f.op == 4) = false /\ znp f.op = false := by
  have h8 : f.op = 8 \/ f.op = 9 := by unfold isQ at h; rw [Bool.or_eq_true, beq_iff_eq, beq_iff_eq] at h; exact h
  rcases h8 with e | e <;> rw [e] <;> decide
 rw [h2.1, h2.2.1, h2.2.2.1, h2.2.2.2, h] at h1
 simp only [Bool.false_eq_true, if_false, if_true, Bool.and_eq_true, decide_eq_true_eq] at h1
 obtain ⟨p, hp⟩ := List.length_eq_one_iff.1 h1.1.1
 exact ⟨p, hp, List.all_eq_true.1 hf.2 p (by rw [hp]; simp)⟩
theorem qlz (n : Str) (t : Tm) : (bnd n t).length <= 1 := by unfold bnd; split <;> simp
theorem bnd_wt (n : Str) (t : Tm) (ht : t.wt <= 1048576) : ∀ p ∈ bnd n t, p.2.wt <= 1048576 := by
 unfold bnd
 split
 ·simp
 ·intro p hp; simp at hp; rw [hp]; exact ht
set_option maxHeartbeats 2000000 in
theorem qga (n : Str) (t : Tm) (ht : t.wt <= 1048576) (f : Fm) (hf : f.forms = true) (hw : f.wt <= 1048576) (hwa : (zej (bnd n t) f.atom).wt <= 1099511627776) (H : ∀ x ∈ f.parts, FC Tryz.prog 114 [fmD x, sD n, tmD t] [fmD (zbe n t x).1, bD (zbe n t x).2]) :
  FC Tryz.prog 114 [fmD f, sD n, tmD t] [fmD (zbe n t f).1, bD (zbe n t f).2] := by
 have hv := zob n t f
 have hfl : f.parts.length <= 1048576 := by have := f.wt_eq; omega
 cases h3 : f.op == 3
 ·rw [h3, if_neg (by simp)] at hv
  cases hq : isQ f.op
  ·rw [hq, Bool.false_and, if_neg (by simp), Bool.false_and, if_neg (by simp)] at hv
   have hq8 : (f.op == 8) = false /\ (f.op == 9) = false := by unfold isQ at hq; rw [Bool.or_eq_false_iff] at hq; exact hq
   simp only [fmD, zab f, tmD, zaa t]
   refine zaj Tryz.call114 Tryz.func114 rfl (by kernel_rfl) (zav (by kernel_rfl)) ?_
   simp -implicitDefEqProofs only [go_sem, Tryz.results114, h3, hq8.1, hq8.2]
   refine zae (fun k : Nat => hd [(1, vT (.str n)), (3, .one (.bx 3 0)), (5, .one (.bx 5 0)), (6, .one (.bx 6 0)), (8, .one (.bx 8 0)), (9, vI k)] [(3, [.t (.int .i64 f.op), .t (.str f.atom.name), .t (tmS f.atom.args), .t (.str f.var), .t (fmS f.parts)]), (5, [.t (.str t.name), .t (tmS t.args)]), (6, [.t (.int .i64 0), .t (.str []), .nl 2, .t (.str []), .nl 5]), (8, [.t (.int .i64 f.op), .t (.str []), .nl 2, .t (.str f.var), .ow 8000 0])] [(8000, ⟨true, 5, (f.parts.take k).map fun x => fmC (zbe n t x).1, 0, true⟩)]) (fun k => k <= f.parts.length /\ ∀ x ∈ f.parts.take k, (zbe n t x).2 = true) (fun k => f.parts.length - k) 0 (zac ?_) ⟨Nat.zero_le _, by simp⟩ ?_
   ·simp -implicitDefEqProofs only [go_sem]
   ·rintro k ⟨hk, hT⟩
    by_cases hlt : k < f.parts.length
    ·have HC := H f.parts[k] (List.getElem_mem hlt)
     have hmin : min k f.parts.length <= 4294967295 := by omega
     simp only [fmD, zab f.parts[k], zab (zbe n t f.parts[k]).1, tmD, zaa t] at HC
     cases hk2 : (zbe n t f.parts[k]).2
     ·rw [hk2] at HC
      have htw := (zcf (p := fun x => (zbe n t x).2) hk hT fun _ => hk2).1
      have hall : (f.parts.all fun x => (zbe n t x).2) = false := by rw [List.all_eq_false]; exact ⟨_, List.getElem_mem hlt, by rw [hk2]; simp⟩
      rw [htw, hall] at hv
      rw [hv]
      simp -implicitDefEqProofs only [go_sem, hlt]
      refine drawn (by kernel_rfl) ?_
      simp -implicitDefEqProofs only [go_sem, zad, hlt, zab f.parts[k]]
      refine zao (HC) (by simp -implicitDefEqProofs only [go_sem]) ?_
      simp -implicitDefEqProofs only [go_sem]
      refine ⟨by kernel_rfl, ?_⟩
      simp -implicitDefEqProofs only [go_sem, zcu, List.map_map, Function.comp_def]
      exact ⟨rfl, rfl⟩
     ·rw [hk2] at HC
      simp -implicitDefEqProofs only [go_sem, hlt]
      refine drawn (by kernel_rfl) ?_
      simp -implicitDefEqProofs only [go_sem, zad, hlt, zab f.parts[k]]
      refine zao (HC) (by simp -implicitDefEqProofs only [go_sem]) ?_
      simp -implicitDefEqProofs only [go_sem]
      refine ⟨by kernel_rfl, ?_⟩
      refine zbd (by simp -implicitDefEqProofs only [go_sem]) ?_
      simp -implicitDefEqProofs only [go_sem]
      refine apD true (by simp -implicitDefEqProofs only [go_sem, ne_eq, List.length_map, List.length_take, hmin]) ?_
      simp -implicitDefEqProofs only [go_sem, ne_eq, List.length_map, List.length_take, hmin]
      refine ⟨k + 1, ⟨hlt, fun x hx => ?_⟩, by omega, zac ?_⟩
      ·rw [List.take_succ_eq_append_getElem hlt] at hx
       rcases List.mem_append.1 hx with hx | hx
       ·exact hT x hx
       ·rw [List.mem_singleton] at hx; subst hx; exact hk2
      ·simp -implicitDefEqProofs only [go_sem]
       rw [zap (by omega), List.take_succ_eq_append_getElem hlt, List.map_append, List.map_singleton]
       simp only [zab]
       trivial
    ·have htk : f.parts.take k = f.parts := List.take_of_length_le (by omega)
     rw [htk] at hT
     have hall : (f.parts.all fun x => (zbe n t x).2) = true := List.all_eq_true.2 hT
     have htw : (f.parts.takeWhile fun x => (zbe n t x).2) = f.parts := by
      have := (zcf (l := f.parts) (p := fun x => (zbe n t x).2) (k := f.parts.length) (Nat.le_refl _) (by rw [List.take_length]; exact hT) fun h => absurd h (Nat.lt_irrefl _)).1
      rw [this, List.take_length]
     rw [htw, hall] at hv
     rw [hv]
     simp -implicitDefEqProofs only [go_sem, hlt, htk, zcu, List.map_map, Function.comp_def]
     exact ⟨rfl, rfl⟩
  ·obtain ⟨q, hp, hpf⟩ := zfx hq hf
   have key : (f.op == 8) = true \/ ((f.op == 8) = false /\ (f.op == 9) = true) := by
    have hq8 := hq
    unfold isQ at hq8
    cases h8 : f.op == 8
    ·rw [h8, Bool.false_or] at hq8; exact Or.inr ⟨rfl, hq8⟩
    ·exact Or.inl rfl
   have HFr := zv3 q hpf (by have := f.wt_eq; rw [hp] at this; simp only [List.map_cons, List.map_nil, List.sum_cons, List.sum_nil] at this; omega)
   have HOw := zoh f hw
   have hfr : zrw f.parts = za5 [] (vf q []) := by rw [hp]; rfl
   rw [hfr] at hv
   generalize za5 [] (vf q []) = V at hv HFr
   have HIn := zi0 V n
   have hvl := zod t
   have HVs := zwi t (by omega) (by omega)
   generalize za5 [] (voS t) = TV at hv HVs
   have HIt := zi0 TV f.var
   rw [hq, Bool.true_and, Bool.true_and] at hv
   have hp0 : f.parts.length = 1 := by rw [hp]; rfl
   have e0 : (List.map fmC f.parts).getD 0 [] = fmC q := by rw [hp]; rfl
   cases hvn : f.var == n
   ·rw [hvn, Bool.false_or] at hv
    cases hcn : V.contains n
    ·rw [hcn, if_pos (by simp)] at hv
     rw [hcn] at HIn
     rw [hv]
     simp only [fmD, zab f, tmD, zaa t, zab q] at HOw HFr ⊢
     rcases key with e8 | ⟨e8, e9⟩
     ·refine zaj Tryz.call114 Tryz.func114 rfl (by kernel_rfl) (zav (by kernel_rfl)) ?_
      simp -implicitDefEqProofs only [go_sem, Tryz.results114, h3, e8, hvn, hp0, e0, zab q]
      refine callF (HFr) (by simp -implicitDefEqProofs only [go_sem]) ?_
      simp -implicitDefEqProofs only [go_sem]
      refine callF (HIn) (by simp -implicitDefEqProofs only [go_sem]) ?_
      simp -implicitDefEqProofs only [go_sem]
      refine callF (HOw) (by simp -implicitDefEqProofs only [go_sem]) ?_
      simp -implicitDefEqProofs only [go_sem]
     ·refine zaj Tryz.call114 Tryz.func114 rfl (by kernel_rfl) (zav (by kernel_rfl)) ?_
      simp -implicitDefEqProofs only [go_sem, Tryz.results114, h3, e8, e9, hvn, hp0, e0, zab q]
      refine callF (HFr) (by simp -implicitDefEqProofs only [go_sem]) ?_
      simp -implicitDefEqProofs only [go_sem]
      refine callF (HIn) (by simp -implicitDefEqProofs only [go_sem]) ?_
      simp -implicitDefEqProofs only [go_sem]
      refine callF (HOw) (by simp -implicitDefEqProofs only [go_sem]) ?_
      simp -implicitDefEqProofs only [go_sem]
    ·rw [hcn, if_neg (by simp)] at hv
     rw [hcn] at HIn
     cases hti : TV.contains f.var
     ·rw [hti, if_neg (by simp)] at hv
      rw [hti] at HIt
      simp only [fmD, zab f, tmD, zaa t, zab q] at HVs HFr ⊢
      rcases key with e8 | ⟨e8, e9⟩
      ·refine zaj Tryz.call114 Tryz.func114 rfl (by kernel_rfl) (zav (by kernel_rfl)) ?_
       simp -implicitDefEqProofs only [go_sem, Tryz.results114, h3, e8, hvn, hp0, e0, zab q]
       refine callF (HFr) (by simp -implicitDefEqProofs only [go_sem]) ?_
       simp -implicitDefEqProofs only [go_sem]
       refine callF (HIn) (by simp -implicitDefEqProofs only [go_sem]) ?_
       simp -implicitDefEqProofs only [go_sem]
       refine drawn (by kernel_rfl) ?_
       simp -implicitDefEqProofs only [go_sem]
       refine zao (HVs) (by simp -implicitDefEqProofs only [go_sem]) ?_
       simp -implicitDefEqProofs only [go_sem]
       refine zao (HIt) (by simp -implicitDefEqProofs only [go_sem]) ?_
       simp -implicitDefEqProofs only [go_sem]
       refine ⟨by kernel_rfl, ?_⟩
       refine zae (fun k : Nat => hd [(1, vT (.str n)), (3, .one (.bx 3 0)), (5, .one (.bx 5 0)), (6, .one (.bx 6 0)), (8, .one (.bx 8 0)), (9, vI k)] [(3, [.t (.int .i64 f.op), .t (.str f.atom.name), .t (tmS f.atom.args), .t (.str f.var), .t (fmS f.parts)]), (5, [.t (.str t.name), .t (tmS t.args)]), (6, [.t (.int .i64 0), .t (.str []), .nl 2, .t (.str []), .nl 5]), (8, [.t (.int .i64 f.op), .t (.str []), .nl 2, .t (.str f.var), .ow 8000 0])] [(8000, ⟨true, 5, (f.parts.take k).map fun x => fmC (zbe n t x).1, 0, true⟩)]) (fun k => k <= f.parts.length /\ ∀ x ∈ f.parts.take k, (zbe n t x).2 = true) (fun k => f.parts.length - k) 0 (zac ?_) ⟨Nat.zero_le _, by simp⟩ ?_
       ·simp -implicitDefEqProofs only [go_sem]
       ·rintro k ⟨hk, hT⟩
        by_cases hlt : k < f.parts.length
        ·have HC := H f.parts[k] (List.getElem_mem hlt)
         have hmin : min k f.parts.length <= 4294967295 := by omega
         simp only [fmD, zab f.parts[k], zab (zbe n t f.parts[k]).1, tmD, zaa t] at HC
         cases hk2 : (zbe n t f.parts[k]).2
         ·rw [hk2] at HC
          have htw := (zcf (p := fun x => (zbe n t x).2) hk hT fun _ => hk2).1
          have hall : (f.parts.all fun x => (zbe n t x).2) = false := by rw [List.all_eq_false]; exact ⟨_, List.getElem_mem hlt, by rw [hk2]; simp⟩
          rw [htw, hall] at hv
          rw [hv]
          simp -implicitDefEqProofs only [go_sem, hlt]
          refine drawn (by kernel_rfl) ?_
          simp -implicitDefEqProofs only [go_sem, zad, hlt, zab f.parts[k]]
          refine zao (HC) (by simp -implicitDefEqProofs only [go_sem]) ?_
          simp -implicitDefEqProofs only [go_sem]
          refine ⟨by kernel_rfl, ?_⟩
          simp -implicitDefEqProofs only [go_sem, zcu, List.map_map, Function.comp_def]
          exact ⟨rfl, rfl⟩
         ·rw [hk2] at HC
          simp -implicitDefEqProofs only [go_sem, hlt]
          refine drawn (by kernel_rfl) ?_
          simp -implicitDefEqProofs only [go_sem, zad, hlt, zab f.parts[k]]
          refine zao (HC) (by simp -implicitDefEqProofs only [go_sem]) ?_
          simp -implicitDefEqProofs only [go_sem]
          refine ⟨by kernel_rfl, ?_⟩
          refine zbd (by simp -implicitDefEqProofs only [go_sem]) ?_
          simp -implicitDefEqProofs only [go_sem]
          refine apD true (by simp -implicitDefEqProofs only [go_sem, ne_eq, List.length_map, List.length_take, hmin]) ?_
          simp -implicitDefEqProofs only [go_sem, ne_eq, List.length_map, List.length_take, hmin]
          refine ⟨k + 1, ⟨hlt, fun x hx => ?_⟩, by omega, zac ?_⟩
          ·rw [List.take_succ_eq_append_getElem hlt] at hx
           rcases List.mem_append.1 hx with hx | hx
           ·exact hT x hx
           ·rw [List.mem_singleton] at hx; subst hx; exact hk2
          ·simp -implicitDefEqProofs only [go_sem]
           rw [zap (by omega), List.take_succ_eq_append_getElem hlt, List.map_append, List.map_singleton]
           simp only [zab]
           trivial
        ·have htk : f.parts.take k = f.parts := List.take_of_length_le (by omega)
         rw [htk] at hT
         have hall : (f.parts.all fun x => (zbe n t x).2) = true := List.all_eq_true.2 hT
         have htw : (f.parts.takeWhile fun x => (zbe n t x).2) = f.parts := by
          have := (zcf (l := f.parts) (p := fun x => (zbe n t x).2) (k := f.parts.length) (Nat.le_refl _) (by rw [List.take_length]; exact hT) fun h => absurd h (Nat.lt_irrefl _)).1
          rw [this, List.take_length]
         rw [htw, hall] at hv
         rw [hv]
         simp -implicitDefEqProofs only [go_sem, hlt, htk, zcu, List.map_map, Function.comp_def]
         exact ⟨rfl, rfl⟩
      ·refine zaj Tryz.call114 Tryz.func114 rfl (by kernel_rfl) (zav (by kernel_rfl)) ?_
       simp -implicitDefEqProofs only [go_sem, Tryz.results114, h3, e8, e9, hvn, hp0, e0, zab q]
       refine callF (HFr) (by simp -implicitDefEqProofs only [go_sem]) ?_
       simp -implicitDefEqProofs only [go_sem]
       refine callF (HIn) (by simp -implicitDefEqProofs only [go_sem]) ?_
       simp -implicitDefEqProofs only [go_sem]
       refine drawn (by kernel_rfl) ?_
       simp -implicitDefEqProofs only [go_sem]
       refine zao (HVs) (by simp -implicitDefEqProofs only [go_sem]) ?_
       simp -implicitDefEqProofs only [go_sem]
       refine zao (HIt) (by simp -implicitDefEqProofs only [go_sem]) ?_
       simp -implicitDefEqProofs only [go_sem]
       refine ⟨by kernel_rfl, ?_⟩
       refine zae (fun k : Nat => hd [(1, vT (.str n)), (3, .one (.bx 3 0)), (5, .one (.bx 5 0)), (6, .one (.bx 6 0)), (8, .one (.bx 8 0)), (9, vI k)] [(3, [.t (.int .i64 f.op), .t (.str f.atom.name), .t (tmS f.atom.args), .t (.str f.var), .t (fmS f.parts)]), (5, [.t (.str t.name), .t (tmS t.args)]), (6, [.t (.int .i64 0), .t (.str []), .nl 2, .t (.str []), .nl 5]), (8, [.t (.int .i64 f.op), .t (.str []), .nl 2, .t (.str f.var), .ow 8000 0])] [(8000, ⟨true, 5, (f.parts.take k).map fun x => fmC (zbe n t x).1, 0, true⟩)]) (fun k => k <= f.parts.length /\ ∀ x ∈ f.parts.take k, (zbe n t x).2 = true) (fun k => f.parts.length - k) 0 (zac ?_) ⟨Nat.zero_le _, by simp⟩ ?_
       ·simp -implicitDefEqProofs only [go_sem]
       ·rintro k ⟨hk, hT⟩
        by_cases hlt : k < f.parts.length
        ·have HC := H f.parts[k] (List.getElem_mem hlt)
         have hmin : min k f.parts.length <= 4294967295 := by omega
         simp only [fmD, zab f.parts[k], zab (zbe n t f.parts[k]).1, tmD, zaa t] at HC
         cases hk2 : (zbe n t f.parts[k]).2
         ·rw [hk2] at HC
          have htw := (zcf (p := fun x => (zbe n t x).2) hk hT fun _ => hk2).1
          have hall : (f.parts.all fun x => (zbe n t x).2) = false := by rw [List.all_eq_false]; exact ⟨_, List.getElem_mem hlt, by rw [hk2]; simp⟩
          rw [htw, hall] at hv
          rw [hv]
          simp -implicitDefEqProofs only [go_sem, hlt]
          refine drawn (by kernel_rfl) ?_
          simp -implicitDefEqProofs only [go_sem, zad, hlt, zab f.parts[k]]
          refine zao (HC) (by simp -implicitDefEqProofs only [go_sem]) ?_
          simp -implicitDefEqProofs only [go_sem]
          refine ⟨by kernel_rfl, ?_⟩
          simp -implicitDefEqProofs only [go_sem, zcu, List.map_map, Function.comp_def]
          exact ⟨rfl, rfl⟩
         ·rw [hk2] at HC
          simp -implicitDefEqProofs only [go_sem, hlt]
          refine drawn (by kernel_rfl) ?_
          simp -implicitDefEqProofs only [go_sem, zad, hlt, zab f.parts[k]]
          refine zao (HC) (by simp -implicitDefEqProofs only [go_sem]) ?_
          simp -implicitDefEqProofs only [go_sem]
          refine ⟨by kernel_rfl, ?_⟩
          refine zbd (by simp -implicitDefEqProofs only [go_sem]) ?_
          simp -implicitDefEqProofs only [go_sem]
          refine apD true (by simp -implicitDefEqProofs only [go_sem, ne_eq, List.length_map, List.length_take, hmin]) ?_
          simp -implicitDefEqProofs only [go_sem, ne_eq, List.length_map, List.length_take, hmin]
          refine ⟨k + 1, ⟨hlt, fun x hx => ?_⟩, by omega, zac ?_⟩
          ·rw [List.take_succ_eq_append_getElem hlt] at hx
           rcases List.mem_append.1 hx with hx | hx
           ·exact hT x hx
           ·rw [List.mem_singleton] at hx; subst hx; exact hk2
          ·simp -implicitDefEqProofs only [go_sem]
           rw [zap (by omega), List.take_succ_eq_append_getElem hlt, List.map_append, List.map_singleton]
           simp only [zab]
           trivial
        ·have htk : f.parts.take k = f.parts := List.take_of_length_le (by omega)
         rw [htk] at hT
         have hall : (f.parts.all fun x => (zbe n t x).2) = true := List.all_eq_true.2 hT
         have htw : (f.parts.takeWhile fun x => (zbe n t x).2) = f.parts := by
          have := (zcf (l := f.parts) (p := fun x => (zbe n t x).2) (k := f.parts.length) (Nat.le_refl _) (by rw [List.take_length]; exact hT) fun h => absurd h (Nat.lt_irrefl _)).1
          rw [this, List.take_length]
         rw [htw, hall] at hv
         rw [hv]
         simp -implicitDefEqProofs only [go_sem, hlt, htk, zcu, List.map_map, Function.comp_def]
         exact ⟨rfl, rfl⟩
     ·rw [hti, if_pos rfl] at hv
      rw [hti] at HIt
      rw [hv]
      have e5 : fmD (.mk f.op (.mk [] []) f.var []) = .agg [.int .i64 f.op, .str [], .sl 2 [], .str f.var, .sl 5 []] := by unfold fmD; rw [zab]; rfl
      rw [e5]
      simp only [fmD, zab f, tmD, zaa t, zab q] at HVs HFr ⊢
      rcases key with e8 | ⟨e8, e9⟩
      ·refine zaj Tryz.call114 Tryz.func114 rfl (by kernel_rfl) (zav (by kernel_rfl)) ?_
       simp -implicitDefEqProofs only [go_sem, Tryz.results114, h3, e8, hvn, hp0, e0, zab q]
       refine callF (HFr) (by simp -implicitDefEqProofs only [go_sem]) ?_
       simp -implicitDefEqProofs only [go_sem]
       refine callF (HIn) (by simp -implicitDefEqProofs only [go_sem]) ?_
       simp -implicitDefEqProofs only [go_sem]
       refine drawn (by kernel_rfl) ?_
       simp -implicitDefEqProofs only [go_sem]
       refine zao (HVs) (by simp -implicitDefEqProofs only [go_sem]) ?_
       simp -implicitDefEqProofs only [go_sem]
       refine zao (HIt) (by simp -implicitDefEqProofs only [go_sem]) ?_
       simp -implicitDefEqProofs only [go_sem]
       kernel_rfl
      ·refine zaj Tryz.call114 Tryz.func114 rfl (by kernel_rfl) (zav (by kernel_rfl)) ?_
       simp -implicitDefEqProofs only [go_sem, Tryz.results114, h3, e8, e9, hvn, hp0, e0, zab q]
       refine callF (HFr) (by simp -implicitDefEqProofs only [go_sem]) ?_
       simp -implicitDefEqProofs only [go_sem]
       refine callF (HIn) (by simp -implicitDefEqProofs only [go_sem]) ?_
       simp -implicitDefEqProofs only [go_sem]
       refine drawn (by kernel_rfl) ?_
       simp -implicitDefEqProofs only [go_sem]
       refine zao (HVs) (by simp -implicitDefEqProofs only [go_sem]) ?_
       simp -implicitDefEqProofs only [go_sem]
       refine zao (HIt) (by simp -implicitDefEqProofs only [go_sem]) ?_
       simp -implicitDefEqProofs only [go_sem]
       kernel_rfl
   ·rw [hvn, Bool.true_or, if_pos rfl] at hv
    rw [hv]
    simp only [fmD, zab f, tmD, zaa t] at HOw ⊢
    rcases key with e8 | ⟨e8, e9⟩
    ·refine zaj Tryz.call114 Tryz.func114 rfl (by kernel_rfl) (zav (by kernel_rfl)) ?_
     simp -implicitDefEqProofs only [go_sem, Tryz.results114, h3, e8, hvn]
     refine callF (HOw) (by simp -implicitDefEqProofs only [go_sem]) ?_
     simp -implicitDefEqProofs only [go_sem]
    ·refine zaj Tryz.call114 Tryz.func114 rfl (by kernel_rfl) (zav (by kernel_rfl)) ?_
     simp -implicitDefEqProofs only [go_sem, Tryz.results114, h3, e8, e9, hvn]
     refine callF (HOw) (by simp -implicitDefEqProofs only [go_sem]) ?_
     simp -implicitDefEqProofs only [go_sem]
 ·rw [h3, if_pos rfl] at hv
  have HA := qef (bnd n t) (qlz n t) (bnd_wt n t ht) f.atom (by have := zik f; omega)
  rw [hv]
  generalize zej (bnd n t) f.atom = R at HA hwa ⊢
  have HO := zvx R hwa
  cases hn : t.name == n
  ·have e0 : bnd n t = [(n, t)] := by unfold bnd; rw [hn, if_neg (by simp)]
   have HP := qcc n t ht hn
   have hS0 : sbS [] = .sl 3 [] := rfl
   rw [e0] at HA
   generalize [(n, t)] = B at HA HP
   rw [hS0] at HP
   unfold sbS at HP HA
   generalize B.map bnC = L at HA HP
   simp only [fmD, zab f, tmD, zaa t, zaa f.atom, zaa R, zcu, List.map_nil] at HA HP HO ⊢
   refine zaj Tryz.call114 Tryz.func114 rfl (by kernel_rfl) (zav (by kernel_rfl)) ?_
   simp -implicitDefEqProofs only [go_sem, Tryz.results114, h3]
   refine drawn (by kernel_rfl) ?_
   simp -implicitDefEqProofs only [go_sem]
   refine zao (HP) (by simp -implicitDefEqProofs only [go_sem]) ?_
   simp -implicitDefEqProofs only [go_sem]
   refine zao (HA) (by simp -implicitDefEqProofs only [go_sem]) ?_
   simp -implicitDefEqProofs only [go_sem]
   refine ⟨by kernel_rfl, ?_⟩
   refine drawn (by kernel_rfl) ?_
   simp -implicitDefEqProofs only [go_sem]
   refine zao (HO) (by simp -implicitDefEqProofs only [go_sem]) ?_
   simp -implicitDefEqProofs only [go_sem]
   kernel_rfl
  ·have e0 : bnd n t = [] := by unfold bnd; rw [hn, if_pos rfl]
   have HP := zxh n t hn
   have hS0 : sbS [] = .sl 3 [] := rfl
   rw [e0] at HA
   rw [hS0] at HP HA
   simp only [fmD, zab f, tmD, zaa t, zaa f.atom, zaa R, zcu, List.map_nil] at HA HP HO ⊢
   refine zaj Tryz.call114 Tryz.func114 rfl (by kernel_rfl) (zav (by kernel_rfl)) ?_
   simp -implicitDefEqProofs only [go_sem, Tryz.results114, h3]
   refine drawn (by kernel_rfl) ?_
   simp -implicitDefEqProofs only [go_sem]
   refine zu0 HP (by simp -implicitDefEqProofs only [go_sem]) ?_
   simp -implicitDefEqProofs only [go_sem]
   refine zao (HA) (by simp -implicitDefEqProofs only [go_sem]) ?_
   simp -implicitDefEqProofs only [go_sem]
   refine ⟨by kernel_rfl, ?_⟩
   refine drawn (by kernel_rfl) ?_
   simp -implicitDefEqProofs only [go_sem]
   refine zao (HO) (by simp -implicitDefEqProofs only [go_sem]) ?_
   simp -implicitDefEqProofs only [go_sem]
   kernel_rfl
end Go.Proofs.YtbccfiillleimaaGreat
namespace Go.Proofs.YtbccfiillleimaaGreat
set_option linter.unusedSimpArgs false
set_option linter.unusedVariables false
set_option linter.unusedSectionVars false
set_option maxRecDepth 4000
open Go.RowKit
theorem qm5 (n : Str) (t : Tm) : ∀ a : Tm, (zfp n t a).wt <= a.wt + a.nodes * t.wt := zbp fun m xs ih => by
 rw [zo4, Tm.nodes_eq]
 show (if xs.length = 0 then (if (n == m) = true then t else .mk m []) else .mk m (xs.map (zfp n t))).wt <= (Tm.mk m xs).wt + (1 + (xs.map Tm.nodes).sum) * t.wt
 have hs : (xs.map fun x => (zfp n t x).wt).sum <= (xs.map Tm.wt).sum + (xs.map Tm.nodes).sum * t.wt := by
  revert ih
  induction xs with
  | nil => simp
  | cons x xs ih2 =>
   intro ih
   have h1 := ih x (by simp)
   have h2 := ih2 fun y hy => ih y (by simp [hy])
   simp only [List.map_cons, List.sum_cons, Nat.add_mul]
   omega
 have h0 := Tm.wt_eq (.mk m xs)
 have h0 : (Tm.mk m xs).wt = m.length + xs.length + (xs.map Tm.wt).sum := h0
 rw [Nat.add_mul, Nat.one_mul]
 split
 ·split
  ·omega
  ·have h1 := Tm.wt_eq (.mk m [])
   have h1 : (Tm.mk m []).wt = m.length + 0 + 0 := h1
   omega
 ·have h1 := Tm.wt_eq (.mk m (xs.map (zfp n t)))
  have h1 : (Tm.mk m (xs.map (zfp n t))).wt = m.length + (xs.map (zfp n t)).length + ((xs.map (zfp n t)).map Tm.wt).sum := h1
  rw [List.length_map, List.map_map] at h1
  have h2 : (xs.map (Tm.wt ∘ zfp n t)).sum = (xs.map fun x => (zfp n t x).wt).sum := rfl
  omega
theorem qkz (l : List (Str × Tm)) (W : Nat) (hW : ∀ p ∈ l, p.2.wt <= W) : ∀ a : Tm, (zej l a).wt <= a.wt + a.nodes * W := zbp fun m xs ih => by
 rw [znq, Tm.nodes_eq]
 show (if za2 m = true then (match l.find? fun (p : Str × Tm) => p.1 == m with | some p => p.2 | none => .mk m []) else .mk m (xs.map (zej l))).wt <= (Tm.mk m xs).wt + (1 + (xs.map Tm.nodes).sum) * W
 have hs : (xs.map fun x => (zej l x).wt).sum <= (xs.map Tm.wt).sum + (xs.map Tm.nodes).sum * W := by
  revert ih
  induction xs with
  | nil => simp
  | cons x xs ih2 =>
   intro ih
   have h1 := ih x (by simp)
   have h2 := ih2 fun y hy => ih y (by simp [hy])
   simp only [List.map_cons, List.sum_cons, Nat.add_mul]
   omega
 have h0 := Tm.wt_eq (.mk m xs)
 have h0 : (Tm.mk m xs).wt = m.length + xs.length + (xs.map Tm.wt).sum := h0
 rw [Nat.add_mul, Nat.one_mul]
 split
 ·split
  ·rename_i p hp
   have := hW p (List.mem_of_find?_eq_some hp)
   omega
  ·have h1 := Tm.wt_eq (.mk m [])
   have h1 : (Tm.mk m []).wt = m.length + 0 + 0 := h1
   omega
 ·have h1 := Tm.wt_eq (.mk m (xs.map (zej l)))
  have h1 : (Tm.mk m (xs.map (zej l))).wt = m.length + (xs.map (zej l)).length + ((xs.map (zej l)).map Tm.wt).sum := h1
  rw [List.length_map, List.map_map] at h1
  have h2 : (xs.map (Tm.wt ∘ zej l)).sum = (xs.map fun x => (zej l x).wt).sum := rfl
  omega
theorem qmf (n : Str) (t : Tm) : ∀ p ∈ bnd n t, p.2.wt <= t.wt := by
 unfold bnd
 split
 ·simp
 ·intro p hp; simp at hp; rw [hp]; exact Nat.le_refl _
theorem qda (n : Str) (t : Tm) (ht : t.wt <= 1048576) : ∀ f : Fm, f.forms = true -> f.wt <= 1048576 -> f.wt + (1 + f.wt) * t.wt <= 1099511627776 -> FC Tryz.prog 114 [fmD f, sD n, tmD t] [fmD (zbe n t f).1, bD (zbe n t f).2] :=
 zbr fun o a v ps ih hf hw hb => by
  refine qga n t ht (.mk o a v ps) hf hw ?_ fun x hx => ih x hx (by rw [Fm.forms_eq, Bool.and_eq_true] at hf; exact List.all_eq_true.1 hf.2 x hx) (Nat.le_trans (zby (a := .mk o a v ps) hx) hw) ?_
  ·have h1 := qkz (bnd n t) t.wt (qmf n t) a
   have h2 := ze7 a
   have h3 : a.wt <= (Fm.mk o a v ps).wt := zik (.mk o a v ps)
   have h4 : a.nodes * t.wt <= (1 + (Fm.mk o a v ps).wt) * t.wt := Nat.mul_le_mul_right _ (by omega)
   show (zej (bnd n t) a).wt <= _
   omega
  ·have h3 := zby (a := .mk o a v ps) hx
   have h4 : (1 + x.wt) * t.wt <= (1 + (Fm.mk o a v ps).wt) * t.wt := Nat.mul_le_mul_right _ (by omega)
   omega
theorem ql2 : (mkF 0 []).wt = 0 := rfl
theorem qdb {α : Type} {g w : α -> Nat} {W : Nat} : ∀ ps : List α, (∀ x ∈ ps, g x <= w x + (1 + w x) * W) -> (ps.map g).sum <= (ps.map w).sum + (ps.length + (ps.map w).sum) * W
 | [], _ => by simp
 | x :: xs, ih => by
  have h1 := ih x (by simp)
  have h2 := qdb (g := g) (w := w) (W := W) xs fun y hy => ih y (by simp [hy])
  simp only [List.map_cons, List.sum_cons, List.length_cons]
  have e : (xs.length + 1 + (w x + (xs.map w).sum)) * W = (1 + w x) * W + (xs.length + (xs.map w).sum) * W := by rw [<- Nat.add_mul]; congr 1; omega
  rw [e]
  omega
theorem qm1 (n : Str) (t : Tm) : ∀ f : Fm, (zdg n t f).1.wt <= f.wt + (1 + f.wt) * t.wt := zbr fun o a v ps ih => by
 rw [zr7]
 have h0 : (Fm.mk o a v ps).wt = a.wt + v.length + ps.length + (ps.map Fm.wt).sum := Fm.wt_eq (.mk o a v ps)
 split
 ·exact Nat.le_add_right _ _
 ·split
  ·rw [ql2]; exact Nat.zero_le _
  ·have hs : (ps.map fun x => (zdg n t x).1.wt).sum <= (ps.map Fm.wt).sum + (ps.length + (ps.map Fm.wt).sum) * t.wt := qdb (g := fun x => (zdg n t x).1.wt) (w := Fm.wt) (W := t.wt) ps ih
   have ha := qm5 n t a
   have hn := ze7 a
   show (Fm.mk o (if (o == 3) = true then zfp n t a else a) v (ps.map fun x => (zdg n t x).1)).wt <= _
   have h1 := Fm.wt_eq (.mk o (if (o == 3) = true then zfp n t a else a) v (ps.map fun x => (zdg n t x).1))
   have h1 : (Fm.mk o (if (o == 3) = true then zfp n t a else a) v (ps.map fun x => (zdg n t x).1)).wt = (if (o == 3) = true then zfp n t a else a).wt + v.length + (ps.map fun x => (zdg n t x).1).length + ((ps.map fun x => (zdg n t x).1).map Fm.wt).sum := h1
   rw [List.length_map, List.map_map] at h1
   have h2 : (ps.map (Fm.wt ∘ fun x => (zdg n t x).1)).sum = (ps.map fun x => (zdg n t x).1.wt).sum := rfl
   have h3 : (if (o == 3) = true then zfp n t a else a).wt <= a.wt + (1 + a.wt) * t.wt := by
    have : a.nodes * t.wt <= (1 + a.wt) * t.wt := Nat.mul_le_mul_right _ (by omega)
    split <;> omega
   have h4 : (1 + a.wt) * t.wt + (ps.length + (ps.map Fm.wt).sum) * t.wt <= (1 + (Fm.mk o a v ps).wt) * t.wt := by rw [<- Nat.add_mul]; exact Nat.mul_le_mul_right _ (by omega)
   omega
end Go.Proofs.YtbccfiillleimaaGreat
namespace Go.Proofs.YtbccfiillleimaaGreat
set_option linter.unusedSimpArgs false
set_option linter.unusedVariables false
set_option linter.unusedSectionVars false
set_option maxRecDepth 4000
open Go.RowKit
attribute [local go_sem] Oper.semAt_some
set_option maxHeartbeats 1000000 in
theorem zlw : qds Tryz.prog 129 194 := by
 refine ⟨Tryz.call129, fun a len cap w => ?_⟩
 refine callsIn_wide.1 (callsIn_of_wp (n := 0) Tryz.func129 rfl trivial ?_ rfl)
 simp only [Tryz.ntmps129, List.size_toArray, List.length_cons, List.length_nil, Nat.reduceAdd, Nat.reduceSub, Array.replicate_succ, Array.replicate_zero, List.push_toArray, List.append_toArray, List.nil_append, List.cons_append]
 gi_wp2
 go_ret
 exact ⟨_, rfl, rfl⟩
set_option maxRecDepth 100000 in
set_option maxHeartbeats 2000000 in
theorem zom : zwm Tryz.prog 194 true 5 := by
 intro l Bs n W J hmax hlen0 hrd h0
 obtain ⟨ao, cap, hBs⟩ := hlen0 W h0
 have hmax : n <= 9223372036854775807 := hmax
 have hw1 : IntKind.i64.wrap ((n : Int) - 1) = (n : Int) - 1 := by rw [IntKind.wrap_i64]; omega
 have hro : (FR none).round = none := rfl
 refine callsIn_of_wp Tryz.func194 rfl trivial ?_ rfl
 simp only [Tryz.ntmps194, List.size_toArray, List.length_cons, List.length_nil, Nat.reduceAdd, Nat.reduceSub, Array.replicate_succ, Array.replicate_zero, List.push_toArray, List.append_toArray, List.nil_append, List.cons_append]
 gi_wp2
 gi_loopw [3] (fun i wr => ∃ k : Nat, k <= n /\ i = .int .i64 ((n : Int) - 1 - k) /\ J k wr) (fun i _ => (intOf i + 1).toNat)
 case atStart => exact ⟨0, Nat.zero_le _, by simp, h0⟩
 case round =>
  obtain ⟨k, hk, rfl, hJs⟩ := hrel
  by_cases hlt : k < n
  ·obtain ⟨m, hm⟩ : ∃ m, n - 1 - k = m := ⟨_, rfl⟩
   have hml : m < n := by omega
   obtain ⟨b, o, cap', r, hb, hr, hcell, fn, tmps, assign, body, hy, hR⟩ := hrd k wr hJs hlt
   match r, hr, hcell, hy with
   | [v0, v1, v2, v3, v4], _, hcell, hy =>
    rw [hm] at hcell hy
    rw [show (n : Int) - 1 - k = (m : Int) by omega]
    have e1 : wr.cell? ⟨b, o + m * 5, none⟩ = _ := hcell 0 v0 rfl
    have e2 : wr.cell? ⟨b, o + m * 5 + 1, none⟩ = _ := hcell 1 v1 rfl
    have e3 : wr.cell? ⟨b, o + m * 5 + 2, none⟩ = _ := hcell 2 v2 rfl
    have e4 : wr.cell? ⟨b, o + m * 5 + 3, none⟩ = _ := hcell 3 v3 rfl
    have e5 : wr.cell? ⟨b, o + m * 5 + 4, none⟩ = _ := hcell 4 v4 rfl
    simp only [agv, if_true] at hy
    have hw2 : IntKind.i64.wrap ((m : Int) - 1) = (m : Int) - 1 := by rw [IntKind.wrap_i64]; omega
    gi_wp2
    refine hR.mono ?_
    rintro e W3 ⟨rfl, hJ3⟩
    gi_wp2
    go_roundw
    case rel => exact ⟨k + 1, by omega, by go_num, hJ3⟩
    case measure => simp [intOf]
  ·obtain rfl : k = n := by omega
   gi_wp2
   go_end0
   exact ⟨⟨_, rfl⟩, hJs⟩
end Go.Proofs.YtbccfiillleimaaGreat
namespace Go.Proofs.YtbccfiillleimaaGreat
set_option linter.unusedSimpArgs false
set_option linter.unusedVariables false
set_option linter.unusedSectionVars false
set_option maxRecDepth 4000
open Go.RowKit
structure OF where
 op : Int
 name : Str
 a : Option Addr × Nat × Nat
 var : Str
 p : Option Addr × Nat × Nat
def ofC (x : OF) : List T := [.int .i64 x.op, .str x.name, .vs x.a.1 x.a.2.1 x.a.2.2, .str x.var, .vs x.p.1 x.p.2.1 x.p.2.2]
theorem zez (x : OF) : ofC x = [.int .i64 x.op, .str x.name, .vs x.a.1 x.a.2.1 x.a.2.2, .str x.var, .vs x.p.1 x.p.2.1 x.p.2.2] := rfl
def jnC (op : Int) : List OF -> List T
 | [] => []
 | [x] => ofC x
 | x :: xs => [.int .i64 op, .str [], .sl 2 [], .str [], .sl 5 [ofC x, jnC op xs]]
theorem zo8 (op : Int) (x : OF) {xs : List OF} (h : xs ≠ []) : jnC op (x :: xs) = [.int .i64 op, .str [], .sl 2 [], .str [], .sl 5 [ofC x, jnC op xs]] := by
 cases xs with
 | nil => exact absurd rfl h
 | cons y ys => rfl
theorem qdx (op : Int) (x y : OF) : FC Tryz.prog 130 [iD op, .agg (ofC x), .agg (ofC y)] [.agg [.int .i64 op, .str [], .sl 2 [], .str [], .sl 5 [ofC x, ofC y]]] := by
 simp only [zez]
 refine zaj Tryz.call130 Tryz.func130 rfl (by kernel_rfl) (zav (by kernel_rfl)) ?_
 simp -implicitDefEqProofs only [go_sem, Tryz.results130]
 refine zbd (by simp -implicitDefEqProofs only [go_sem]) ?_
 simp -implicitDefEqProofs only [go_sem]
theorem qdf (op o2 : Int) (x : OF) (R : List (List T)) : GC Tryz.prog 130 [(false, iD op), (false, .agg (ofC x)), (true, .agg [.int .i64 o2, .str [], .sl 2 [], .str [], .sl 5 R])] [.agg [.int .i64 op, .str [], .sl 2 [], .str [], .sl 5 [ofC x, [.int .i64 o2, .str [], .sl 2 [], .str [], .sl 5 R]]]] := by
 simp only [zez]
 refine qew Tryz.call130 Tryz.func130 rfl (by kernel_rfl) (by simp only [List.length_cons, List.length_nil, Tryz.ntmps130]; omega) (by simp [zbm, T.isPin]) ?_
 simp -implicitDefEqProofs only [go_sem, Tryz.results130]
 refine zbd (by simp -implicitDefEqProofs only [go_sem]) ?_
 simp -implicitDefEqProofs only [go_sem]
def cbH (op : Int) (xs : List OF) (z : OF) : Nat -> St
 | 0 => hd [(3, .one (.bx 3 0)), (6, .one (.bx 6 0)), (7, .one (.bx 7 0)), (25, .one (.fn 194 [25]))]
   [(3, [.t (.int .i64 op)]), (6, [.t (.int .i64 0), .t (.str []), .nl 2, .t (.str []), .nl 5]), (7, (ofC (xs.getD (xs.length - 1) z)).map .t), (25, [.rn (.sl 5 ((xs.map ofC).take (xs.length - 1)))])] []
 | k + 1 => hd [(3, .one (.bx 3 0)), (6, .one (.bx 6 0)), (7, .one (.bx 7 0)), (25, .one (.fn 194 [25]))]
   [(3, [.t (.int .i64 op)]), (6, [.t (.int .i64 0), .t (.str []), .nl 2, .t (.str []), .nl 5]), (7, [.t (.int .i64 op), .t (.str []), .ow 994 0, .t (.str []), .ow 996 0]), (25, [.rn (.sl 5 ((xs.map ofC).take (xs.length - 1)))])]
   [(994, ⟨true, 2, [], 0, true⟩), (996, ⟨true, 5, [ofC (xs.getD (xs.length - 1 - 1 - k) z), jnC op (xs.drop (xs.length - 1 - k))], 0, true⟩)]
set_option maxHeartbeats 1000000 in
theorem zl9 (op : Int) (xs : List OF) (z : OF) : FC Tryz.prog 68 [iD op, .one (.sl 5 (xs.map ofC)), .agg (ofC z)] [.agg (if xs = [] then ofC z else jnC op xs)] := by
 cases hx : xs with
 | nil =>
  simp only [if_true, List.map_nil, ofC]
  refine qae Tryz.call68 Tryz.func68 rfl rfl (by kernel_rfl) (zav (by kernel_rfl)) ?_
  simp -implicitDefEqProofs only [go_sem, Tryz.results68]
 | cons x0 r0 =>
  rw [<- hx]
  have hne : xs ≠ [] := by rw [hx]; simp
  have hn : 0 < xs.length := by rw [hx]; simp
  refine zc1 (fun hw => ?_) Tryz.call68
  have hl : xs.length <= 9223372036854775807 := by simpa [zfq, wfT] using hw.2.1.1
  clear hw hx
  have e0 : ((xs.length : Int) == 0) = false := by simp; omega
  have e1 : IntKind.i64.wrap ((xs.length : Int) - 1) = ((xs.length - 1 : Nat) : Int) := by rw [zbh (by omega) (by omega)]; omega
  have hi : xs.length - 1 < xs.length := by omega
  rw [if_neg hne]
  simp only [ofC]
  refine qae Tryz.call68 Tryz.func68 rfl rfl (by kernel_rfl) (zav (by kernel_rfl)) ?_
  simp -implicitDefEqProofs only [go_sem, Tryz.results68, e0, e1, hi, zad, List.length_map, zez]
  refine ⟨by omega, ?_⟩
  refine callB (sz := 5) (rows := (xs.map ofC).take (xs.length - 1)) zlw (by simp -implicitDefEqProofs only [go_sem]) ?_
  simp -implicitDefEqProofs only [go_sem]
  have hlen : ((xs.map ofC).take (xs.length - 1)).length = xs.length - 1 := by simp
  have hlast : xs.getD (xs.length - 1) z = xs[xs.length - 1] := by simp [hi]
  refine loopB zom Tryz.call194 25 (cbH op xs z) ((xs.map ofC).take (xs.length - 1)) (by kernel_rfl) rfl (fun k => by cases k <;> exact ⟨rfl, rfl⟩) (fun k => by cases k <;> exact ⟨rfl, rfl, rfl, rfl, rfl, rfl, rfl, trivial⟩) (zac (by simp -implicitDefEqProofs only [go_sem, hlast, zez])) ?_ ?_
  ·intro k hk
   rw [hlen] at hk ⊢
   have hrow : ((xs.map ofC).take (xs.length - 1)).getD (xs.length - 1 - 1 - k) [] = ofC (xs.getD (xs.length - 1 - 1 - k) z) := by
    have h1 : xs.length - 1 - 1 - k < xs.length - 1 := by omega
    have h2 : xs.length - 1 - 1 - k < xs.length := by omega
    simp [List.getD, List.getElem?_take, h1, h2]
   rw [hrow]
   have hd1 : xs.drop (xs.length - 1) = [xs.getD (xs.length - 1) z] := by
    rw [List.drop_eq_getElem_cons hi, List.drop_of_length_le (by omega), hlast]
   cases k with
   | zero =>
    simp only [cbH, qjr, if_true, Nat.sub_zero]
    simp -implicitDefEqProofs only [go_sem, zez, qjr, T.toN]
    refine callF (qdx op (xs.getD (xs.length - 1 - 1) z) (xs.getD (xs.length - 1) z)) (by simp -implicitDefEqProofs only [go_sem, zez]) ?_
    simp -implicitDefEqProofs only [go_sem, zez]
    refine zac ?_
    rw [hd1]
    simp -implicitDefEqProofs only [go_sem, jnC, zez]
   | succ k =>
    have hdk : xs.drop (xs.length - 1 - (k + 1)) = xs.getD (xs.length - 1 - 1 - k) z :: xs.drop (xs.length - 1 - k) := by
     have h1 : xs.length - 1 - (k + 1) < xs.length := by omega
     rw [List.drop_eq_getElem_cons h1, show xs.length - 1 - (k + 1) + 1 = xs.length - 1 - k by omega]
     congr 1
     rw [show xs.length - 1 - 1 - k = xs.length - 1 - (k + 1) by omega]
     simp [h1]
    have hdn : xs.drop (xs.length - 1 - k) ≠ [] := by
     intro e
     have := congrArg List.length e
     simp at this; omega
    simp only [cbH, qjr, if_true]
    rw [hdk, zo8 op _ hdn]
    generalize xs.getD (xs.length - 1 - 1 - (k + 1)) z = x
    generalize xs.getD (xs.length - 1 - 1 - k) z = y
    generalize jnC op (xs.drop (xs.length - 1 - k)) = J
    simp -implicitDefEqProofs only [go_sem, zez x, T.toN]
    refine callG [(28, vI op), (29, .agg ((ofC x).map .t)), (30, .agg [.t (.int .i64 op), .t (.str []), .ow 994 0, .t (.str []), .ow 996 0])]
     [(3, .one (.bx 3 0)), (6, .one (.bx 6 0)), (7, .one (.bx 7 0)), (25, .one (.fn 194 [25]))] []
     [(3, [.t (.int .i64 op)]), (6, [.t (.int .i64 0), .t (.str []), .nl 2, .t (.str []), .nl 5]), (7, [.any, .any, .any, .any, .any]), (25, [.rn (.sl 5 ((xs.map ofC).take (xs.length - 1)))])]
     [(994, ⟨true, 2, [], 0, true⟩), (996, ⟨true, 5, [ofC y, J], 0, true⟩)] [] [] (qdf op op x [ofC y, J]) (by simp -implicitDefEqProofs only [go_sem, zez x]) (by simp -implicitDefEqProofs only [go_sem]) (by simp -implicitDefEqProofs only [go_sem, zez x]) (by simp -implicitDefEqProofs only [go_sem]) ?_
    simp -implicitDefEqProofs only [go_sem]
    refine zac ?_
    simp -implicitDefEqProofs only [go_sem, zez x]
  ·rw [hlen]
   cases hm : xs.length - 1 with
   | zero =>
    have hx1 : xs = [xs.getD (xs.length - 1) z] := by
     rw [hlast]
     have : xs.length = 1 := by omega
     match xs, this with
     | [x], _ => rfl
    rw [hm] at hx1
    rw [hx1]
    generalize xs.getD 0 z = x
    show ex _ _ _ _ (cbH op [x] z 0)
    simp only [cbH]
    simp -implicitDefEqProofs only [go_sem, jnC, zez, Tryz.results68]
   | succ m =>
    have h0 : 0 < xs.length := hn
    have hx2 : jnC op xs = [.int .i64 op, .str [], .sl 2 [], .str [], .sl 5 [ofC (xs.getD 0 z), jnC op (xs.drop 1)]] := by
     match xs, hm with
     | x :: r, hm =>
      rw [zo8 op x (by intro e; rw [e] at hm; simp at hm)]
      rfl
    rw [hx2]
    simp only [cbH]
    rw [show xs.length - 1 - 1 - m = 0 by omega, show xs.length - 1 - m = 1 by omega]
    generalize xs.getD 0 z = x
    generalize jnC op (xs.drop 1) = J
    simp -implicitDefEqProofs only [go_sem, Tryz.results68]
end Go.Proofs.YtbccfiillleimaaGreat
namespace Go.Proofs.YtbccfiillleimaaGreat
set_option linter.unusedSimpArgs false
set_option linter.unusedVariables false
set_option linter.unusedSectionVars false
set_option maxRecDepth 4000
open Go.RowKit
def zdu (op : Int) : List Fm -> Fm -> Fm
 | [], z => z
 | [x], _ => x
 | x :: xs, z => mkF op [x, zdu op xs z]
theorem zgl (op : Int) (x : Fm) {xs : List Fm} (h : xs ≠ []) (z : Fm) : zdu op (x :: xs) z = mkF op [x, zdu op xs z] := by
 cases xs with
 | nil => exact absurd rfl h
 | cons y ys => rfl
theorem of_fm {w : World} {x : Fm} {vs : List Value} {f : List Nat} (h : zay w (fmC x) vs f) : ∃ y : OF, (∀ A : Nat -> Prop, zaf w A (ofC y) vs) /\ ∀ w' : World, (∀ b ∈ f, w'.heap[b]? = w.heap[b]?) -> zkg w' (ofC y) (fmC x) f := by
 rw [zab] at h ⊢
 obtain ⟨v1, _, f1, _, rfl, rfl, h1, h⟩ := h
 obtain ⟨v2, _, f2, _, rfl, rfl, h2, h⟩ := h
 obtain ⟨v3, _, f3, _, rfl, rfl, h3, h⟩ := h
 obtain ⟨v4, _, f4, _, rfl, rfl, h4, h⟩ := h
 obtain ⟨v5, _, f5, _, rfl, rfl, h5, h⟩ := h
 obtain ⟨rfl, rfl⟩ := h
 unfold zax at h1 h2 h4
 obtain ⟨rfl, n1, n2, rfl⟩ := h1
 obtain ⟨rfl, n3, rfl⟩ := h2
 obtain ⟨rfl, n4, rfl⟩ := h4
 have g3 := h3
 have g5 := h5
 unfold zax at g3 g5
 obtain ⟨a3, c3, rfl, _⟩ := g3
 obtain ⟨a5, c5, rfl, _⟩ := g5
 refine ⟨⟨x.op, x.atom.name, (a3, (x.atom.args.map tmC).length, c3), x.var, (a5, (x.parts.map fmC).length, c5)⟩, fun A => ?_, fun w' hs => ?_⟩
 ·unfold ofC
  simp only [zaf, zaq]
  exact ⟨_, _, rfl, ⟨rfl, n1, n2⟩, _, _, rfl, ⟨rfl, n3⟩, _, _, rfl, rfl, _, _, rfl, ⟨rfl, n4⟩, _, _, rfl, rfl, rfl⟩
 ·unfold ofC
  simp only [zkg, GrT]
  refine ⟨_, _, [], _, rfl, rfl, ⟨rfl, rfl⟩, _, _, [], _, rfl, rfl, ⟨rfl, rfl⟩, _, _, f3, _, rfl, rfl, zax.keep _ _ _ h3 fun b hb => hs b (by simp [hb]), _, _, [], _, rfl, rfl, ⟨rfl, rfl⟩, _, _, f5, _, rfl, rfl, zax.keep _ _ _ h5 fun b hb => hs b (by simp [hb]), rfl, rfl⟩
theorem qje {w : World} {cells : Array Value} {b : Nat} {ty : TypeId} (hc : w.heap[b]? = some (.cells cells ty (0, 0))) : ∀ {xs : List Fm} {o : Nat} {fps : List Nat}, zal w cells o 5 (xs.map fmC) fps →
  ∃ ys : List OF, ys.length = xs.length /\ (∀ A : Nat -> Prop, zar w A b o 5 (ys.map ofC)) /\ ∀ w' : World, (∀ b ∈ fps, w'.heap[b]? = w.heap[b]?) -> zck w' (ys.map ofC) (xs.map fmC) fps
 | [], o, fps, h => by
  rw [List.map_nil] at h
  unfold zal at h
  subst h
  exact ⟨[], rfl, fun A => by rw [List.map_nil]; unfold zar; trivial, fun w' _ => by rw [List.map_nil, List.map_nil]; unfold zck; exact ⟨rfl, rfl⟩⟩
 | x :: xs, o, fps, h => by
  rw [List.map_cons] at h
  unfold zal at h
  obtain ⟨h1, f1, f2, rfl, h2, h3⟩ := h
  obtain ⟨vs, k1, k2, k3⟩ := h2.vals
  obtain ⟨y, l1, l2⟩ := of_fm k3
  obtain ⟨ys, m1, m2, m3⟩ := qje hc h3
  refine ⟨y :: ys, by simp [m1], fun A => ?_, fun w' hs => ?_⟩
  ·rw [List.map_cons]
   unfold zar
   refine ⟨rfl, zbc.mk fun j c hj => ?_, m2 A⟩
   obtain ⟨v, q1, q2⟩ := (l1 A).at j c hj
   exact ⟨v, by simp [World.cell?, hc, k2 j v q1], q2⟩
  ·rw [List.map_cons, List.map_cons]
   unfold zck
   exact ⟨_, _, f1, f2, rfl, rfl, l2 w' fun b hb => hs b (by simp [hb]), m3 w' fun b hb => hs b (by simp [hb])⟩
theorem qev {w : World} (op : Int) (z : Fm) : ∀ {xs : List Fm} {ys : List OF} {fps : List Nat}, xs ≠ [] -> zck w (ys.map ofC) (xs.map fmC) fps -> zkg w (jnC op ys) (fmC (zdu op xs z)) fps
 | [], _, _, h, _ => absurd rfl h
 | x :: xs, [], _, _, h => by rw [List.map_nil, List.map_cons] at h; unfold zck at h; exact absurd h.1 (by simp)
 | x :: xs, y :: ys, fps, _, h => by
  rw [List.map_cons, List.map_cons] at h
  unfold zck at h
  obtain ⟨r', rs', e1, e2, h0, rfl, h1, h2⟩ := h
  simp only [List.cons.injEq] at h0
  obtain ⟨rfl, rfl⟩ := h0
  have hlen := h2.len
  simp only [List.length_map] at hlen
  by_cases hx : xs = []
  ·subst hx
   have hy : ys = [] := List.length_eq_zero_iff.1 (by simpa using hlen.symm)
   subst hy
   rw [List.map_nil, List.map_nil] at h2
   unfold zck at h2
   rw [h2.2, List.append_nil]
   exact h1
  ·have hy : ys ≠ [] := fun e => hx (List.length_eq_zero_iff.1 (by rw [hlen, e]; rfl))
   rw [zo8 op y hy, zgl op x hx, zb7, List.map_cons, List.map_cons, List.map_nil]
   have h3 := qev op z hx h2
   simp only [zkg, GrT, zck]
   exact ⟨_, _, [], _, rfl, rfl, ⟨rfl, rfl⟩, _, _, [], _, rfl, rfl, ⟨rfl, rfl⟩, _, _, [], _, rfl, rfl, ⟨[], rfl, rfl, rfl⟩, _, _, [], _, rfl, rfl, ⟨rfl, rfl⟩, _, _, e1 ++ e2, [], rfl, by simp, ⟨_, rfl, _, _, e1, e2, rfl, rfl, h1, _, _, e2, [], rfl, by simp, h3, rfl, rfl⟩, rfl, rfl⟩
theorem zm4 (op : Int) (xs : List Fm) (z : Fm) : GC Tryz.prog 68 [(false, iD op), (true, .one (fmS xs)), (true, fmD z)] [fmD (zdu op xs z)] := by
 refine ztb Tryz.call68 fun w vs fp tp hv hn => ?_
 obtain ⟨v1, _, rfl, h1, hv⟩ := hv
 obtain ⟨v2, _, f2, _, t2, _, rfl, rfl, rfl, h2, hv⟩ := hv
 obtain ⟨v3, _, f3, _, t3, _, rfl, rfl, rfl, h3, hv⟩ := hv
 obtain ⟨rfl, rfl, rfl⟩ := hv
 obtain ⟨a, rfl, h3⟩ := h3
 have h2 : zax w (fmS xs) v2 f2 := h2.1
 have h3 : zay w (fmC z) a f3 := zay.of_g h3
 obtain ⟨y, k1, k2⟩ := of_fm h3
 have hlt3 : ∀ b ∈ f3, b < w.heap.size := zay.lt h3
 have hlt2 : ∀ b ∈ f2, b < w.heap.size := zax.lt _ _ _ h2
 have hi : zyn w (fun b => b < w.heap.size) (iD op) v1 := by
  have : zbn w (fun b => b < w.heap.size) [iD op] [v1] := zbn.keep (fun _ _ => rfl) (fun b hb => hb.1) (⟨v1, [], rfl, h1, rfl⟩ : zbn w (fun b => b < w.heap.size /\ b ∉ f2 ++ (f3 ++ [])) [iD op] [v1])
  obtain ⟨_, _, e, h4, _⟩ := this
  cases e; exact h4
 obtain ⟨n1, n2, -⟩ := List.nodup_append.1 hn
 rw [List.append_nil] at n2
 have hS : ∃ (ys : List OF) (f : List Nat), ys.length = xs.length /\ f.Nodup /\ (∀ b ∈ f, b ∈ f2) /\ zaq w (fun b => b < w.heap.size) (.sl 5 (ys.map ofC)) v2 /\ ∀ w' : World, (∀ b ∈ f, w'.heap[b]? = w.heap[b]?) -> zck w' (ys.map ofC) (xs.map fmC) f := by
  unfold fmS at h2
  unfold zax at h2
  obtain ⟨ao, cap, rfl, q1, q2, q3⟩ := h2
  rw [List.length_map] at q1
  rcases q3 with ⟨rfl, rfl, q3, rfl⟩ | ⟨b, cells, ty, fps, rfl, rfl, q3, q4, q5⟩
  ·have hx : xs = [] := by simpa using q3
   subst hx
   refine ⟨[], [], rfl, List.nodup_nil, fun b hb => hb, ?_, fun _ _ => by rw [List.map_nil, List.map_nil]; unfold zck; exact ⟨rfl, rfl⟩⟩
   unfold zaq
   exact ⟨none, 0, rfl, Nat.le_refl _, by simp, Or.inl rfl⟩
  ·obtain ⟨ys, r1, r2, r3⟩ := qje q3 q5
   refine ⟨ys, fps, r1, (List.nodup_cons.1 n1).2, fun b hb => by simp [hb], ?_, r3⟩
   unfold zaq
   exact ⟨_, cap, by rw [List.length_map, List.length_map, r1], by rw [List.length_map, r1]; exact q1, q2, Or.inr ⟨b, 0, rfl, hlt2 b (by simp), r2 _⟩⟩
 obtain ⟨ys, f, r1, r4, r5, r2, r3⟩ := hS
 by_cases hx : xs = []
 ·subst hx
  have hy : ys = [] := List.length_eq_zero_iff.1 (by simpa using r1)
  refine ⟨[iD op, .one (.sl 5 (ys.map ofC)), .agg (ofC y)], _, f3, zl9 op ys y, ⟨v1, _, rfl, hi, v2, _, rfl, r2, _, _, rfl, ⟨a, rfl, k1 _⟩, rfl⟩, n2, fun b hb => ⟨by simp [hb], hlt3 b hb⟩, fun w' hs => ?_⟩
  rw [if_pos hy]
  exact k2 w' hs
 ·have hy : ys ≠ [] := fun e => hx (List.length_eq_zero_iff.1 (by rw [<- r1, e]; rfl))
  refine ⟨[iD op, .one (.sl 5 (ys.map ofC)), .agg (ofC y)], _, f, zl9 op ys y, ⟨v1, _, rfl, hi, v2, _, rfl, r2, _, _, rfl, ⟨a, rfl, k1 _⟩, rfl⟩, r4, fun b hb => ⟨by simp [r5 b hb], hlt2 b (r5 b hb)⟩, fun w' hs => ?_⟩
  rw [if_neg hy]
  exact qev op z hx (r3 w' hs)
end Go.Proofs.YtbccfiillleimaaGreat
namespace Go.Proofs.YtbccfiillleimaaGreat
set_option linter.unusedSimpArgs false
set_option linter.unusedVariables false
set_option linter.unusedSectionVars false
set_option maxRecDepth 4000
open Go.RowKit
def jS (op : Int) (xs : List Fm) (J : Fm) (i : Int) (a b : Nat) : St := hd [(0, vT (fmS xs)), (1, .one (.t (.int .i64 op))), (6, .one (.bx 6 0)), (7, .one (.bx 7 0)), (8, .one (.t (.int .i64 i)))]
 [(6, [.t (.int .i64 0), .t (.str []), .nl 2, .t (.str []), .nl 5]), (7, [.t (.int .i64 J.op), .t (.str J.atom.name), .ow a 0, .t (.str J.var), .ow b 0])] [(a, ⟨true, 2, J.atom.args.map tmC, 0, true⟩), (b, ⟨true, 5, J.parts.map fmC, 0, true⟩)]
theorem ql5 (op : Int) (xs : List Fm) (J : Fm) (i : Int) : Wk (jS op xs J i 642 644) (jS op xs J i 2002 644) := zqo 642 2002 _ _ _
theorem qni (op : Int) (xs : List Fm) (J : Fm) (i : Int) : Wk (jS op xs J i 2002 644) (jS op xs J i 2002 2000) := zqo 644 2000 _ _ _
theorem ql8 (op : Int) (xs : List Fm) (J : Fm) (i : Int) : Wk (jS op xs J i 2003 1120) (jS op xs J i 2003 2000) := zqo 1120 2000 _ _ _
theorem qmb (op : Int) (xs : List Fm) (J : Fm) (i : Int) : Wk (jS op xs J i 2003 2000) (jS op xs J i 2002 2000) := zqo 2003 2002 _ _ _
theorem qkm (o : Int) (ps : List Fm) : (mkF o ps).op = o := rfl
theorem zvg (o : Int) (ps : List Fm) : (mkF o ps).atom.name = [] := rfl
theorem zvb (o : Int) (ps : List Fm) : (mkF o ps).atom.args = [] := rfl
theorem qaq (o : Int) (ps : List Fm) : (mkF o ps).var = [] := rfl
theorem zrf (o : Int) (ps : List Fm) : (mkF o ps).parts = ps := rfl
theorem zj2 (xs : List Fm) (op none : Int) (hs : zro xs <= 1048576) : FC Tryz.prog 115 [.one (fmS xs), iD op, iD none] [fmD (zdu op xs (mkF none []))] := by
 have hW : zro xs = xs.length + (xs.map Fm.wt).sum := rfl
 have hwt : ∀ k (h : k < xs.length), xs[k].wt <= 1048576 := fun k h => by have := za6 Fm.wt xs xs[k] (List.getElem_mem h); omega
 by_cases hx : xs = []
 ·subst hx
  show FC _ _ _ [fmD (mkF none [])]
  simp only [fmD, zb7, List.map_nil, fmS]
  refine zaj Tryz.call115 Tryz.func115 rfl (by kernel_rfl) (zav (by kernel_rfl)) ?_
  simp -implicitDefEqProofs only [go_sem, Tryz.results115]
 ·have hn : 0 < xs.length := List.length_pos_iff.2 hx
  have e0 : ((xs.length : Int) == 0) = false := by simp; omega
  have e1 : IntKind.i64.wrap ((xs.length : Int) - 1) = ((xs.length - 1 : Nat) : Int) := by rw [zbh (by omega) (by omega)]; omega
  have e2 : IntKind.i64.wrap ((xs.length : Int) - 2) = (xs.length : Int) - 2 := zbh (by omega) (by omega)
  have hi : xs.length - 1 < xs.length := by omega
  have hR : ∃ R, zdu op xs (mkF none []) = R := ⟨_, rfl⟩
  obtain ⟨R, hR⟩ := hR
  rw [hR]
  simp only [fmD, zab R]
  have hL := zab xs[xs.length - 1]
  refine zaj Tryz.call115 Tryz.func115 rfl (by kernel_rfl) (zav (by kernel_rfl)) ?_
  simp -implicitDefEqProofs only [go_sem, Tryz.results115, e0, e1, hi, zad, hL]
  refine callF (zoh xs[xs.length - 1] (hwt _ hi)) (by simp -implicitDefEqProofs only [go_sem, zab xs[xs.length - 1], e2]) ?_
  simp -implicitDefEqProofs only [go_sem, zab xs[xs.length - 1], e2]
  have hd1 : zdu op (xs.drop (xs.length - 1)) (mkF none []) = xs[xs.length - 1] := by
   rw [List.drop_eq_getElem_cons hi, List.drop_of_length_le (by omega)]; rfl
  refine zae (fun k : Nat => jS op xs (zdu op (xs.drop (xs.length - 1 - k)) (mkF none [])) ((xs.length : Int) - 2 - k) 2002 2000) (fun k => k <= xs.length - 1) (fun k => xs.length - 1 - k) 0 (Wk.trans ?_ ((ql5 _ _ _ _).trans (qni _ _ _ _))) (Nat.zero_le _) ?_
  ·rw [Nat.sub_zero, hd1]
   unfold jS
   refine zac ?_
   simp -implicitDefEqProofs only [go_sem]
   simp
  ·intro k hk
   by_cases hlt : k < xs.length - 1
   ·obtain ⟨m, hm⟩ : ∃ m, xs.length - 2 - k = m := ⟨_, rfl⟩
    have hml : m < xs.length := by omega
    have hge : ((0 : Int) <= (m : Int)) = True := by simp
    have hdk : zdu op (xs.drop (xs.length - 1 - (k + 1))) (mkF none []) = mkF op [xs[m], zdu op (xs.drop (xs.length - 1 - k)) (mkF none [])] := by
     rw [show xs.length - 1 - (k + 1) = m by omega, List.drop_eq_getElem_cons hml, show m + 1 = xs.length - 1 - k by omega]
     refine zgl op _ ?_ _
     intro e
     have := congrArg List.length e
     simp at this; omega
    have hwm := hwt m hml
    have hnx : Wk (jS op xs (zdu op (xs.drop (xs.length - 1 - (k + 1))) (mkF none [])) ((xs.length : Int) - 2 - ((k + 1 : Nat) : Int)) 2003 1120) (jS op xs (zdu op (xs.drop (xs.length - 1 - (k + 1))) (mkF none [])) ((xs.length : Int) - 2 - ((k + 1 : Nat) : Int)) 2002 2000) := (ql8 _ _ _ _).trans (qmb _ _ _ _)
    have e3 : IntKind.i64.wrap ((m : Int) - 1) = (xs.length : Int) - 2 - ((k + 1 : Nat) : Int) := by rw [zbh (by omega) (by omega)]; omega
    rw [show (xs.length : Int) - 2 - (k : Int) = (m : Int) by omega]
    generalize hJ : zdu op (xs.drop (xs.length - 1 - k)) (mkF none []) = J at hdk ⊢
    generalize hX : xs[m] = x at hdk hwm
    have hxE := zab x
    unfold jS
    simp -implicitDefEqProofs only [go_sem, hge, zad, hml, hX, hxE]
    refine drawn (by kernel_rfl) ?_
    simp -implicitDefEqProofs only [go_sem, zad, hml, hX, hxE]
    refine zao (zoh x hwm) (by simp -implicitDefEqProofs only [go_sem, hxE]) ?_
    simp -implicitDefEqProofs only [go_sem, hxE]
    refine zbj (by simp -implicitDefEqProofs only [go_sem]) ?_
    simp -implicitDefEqProofs only [go_sem]
    refine ⟨by kernel_rfl, k + 1, by omega, by omega, Wk.trans ?_ hnx⟩
    rw [hdk]
    unfold jS
    refine zac ?_
    simp -implicitDefEqProofs only [go_sem, e3, qkm, zvg, zvb, qaq, zrf, List.map_cons, List.map_nil, hxE]
    rw [zab J]
   ·have hk2 : k = xs.length - 1 := by omega
    subst hk2
    have hlt0 : ((xs.length : Int) - 2 - ((xs.length - 1 : Nat) : Int)) = -1 := by omega
    rw [Nat.sub_self, List.drop_zero, hR, hlt0]
    unfold jS
    simp -implicitDefEqProofs only [go_sem]
end Go.Proofs.YtbccfiillleimaaGreat
namespace Go.Proofs.YtbccfiillleimaaGreat
set_option linter.unusedSimpArgs false
set_option linter.unusedVariables false
set_option linter.unusedSectionVars false
set_option maxRecDepth 4000
open Go.RowKit
theorem qj1 (o : Int) (ps : List Fm) : (mkF o ps).wt = ps.length + (ps.map Fm.wt).sum := by
 rw [Fm.wt_eq]
 show (Tm.mk [] []).wt + 0 + ps.length + _ = _
 rw [Tm.wt_eq]
 simp [Tm.name, Tm.args, mkF, Fm.parts]
end Go.Proofs.YtbccfiillleimaaGreat
namespace Go.Proofs.YtbccfiillleimaaGreat
set_option linter.unusedSimpArgs false
set_option linter.unusedVariables false
set_option linter.unusedSectionVars false
set_option maxRecDepth 4000
open Go.RowKit
theorem zj9 (f : Fm) (hs : f.wt <= 1099511627776) : GC Tryz.prog 67 [(true, fmD f)] [fmD (if f.good = true then f else mkF 0 []), bD f.good] := by
 cases h : f.good
 ·rw [if_neg (by simp)]
  simp only [fmD, zab f, zb7, List.map_nil]
  refine qew Tryz.call67 Tryz.func67 rfl (by kernel_rfl) (by simp only [List.length_cons, List.length_nil, Tryz.ntmps67]; omega) (by simp [zbm, T.isPin]) ?_
  simp -implicitDefEqProofs only [go_sem, Tryz.results67]
  refine callF (zcy f hs) (by simp -implicitDefEqProofs only [go_sem, zab f, h]) ?_
  simp -implicitDefEqProofs only [go_sem, zab f, h]
 ·rw [if_pos rfl]
  simp only [fmD, zab f]
  refine qew Tryz.call67 Tryz.func67 rfl (by kernel_rfl) (by simp only [List.length_cons, List.length_nil, Tryz.ntmps67]; omega) (by simp [zbm, T.isPin]) ?_
  simp -implicitDefEqProofs only [go_sem, Tryz.results67]
  refine callF (zcy f hs) (by simp -implicitDefEqProofs only [go_sem, zab f, h]) ?_
  simp -implicitDefEqProofs only [go_sem, zab f, h]
theorem zsr (op : Int) (z : Fm) : ∀ xs : List Fm, (zdu op xs z).wt <= 2 * xs.length + (xs.map Fm.wt).sum + z.wt
 | [] => by simp [zdu]
 | x :: xs => by
  by_cases h : xs = []
  ·subst h; simp [zdu]; omega
  ·rw [zgl op x h, qj1]
   have := zsr op z xs
   simp; omega
end Go.Proofs.YtbccfiillleimaaGreat
namespace Go.Proofs.YtbccfiillleimaaGreat
set_option linter.unusedSimpArgs false
set_option linter.unusedVariables false
set_option linter.unusedSectionVars false
set_option maxRecDepth 4000
open Go.RowKit
theorem qbz {n m : Str} (hn : za2 n = true) (hm : zdq m = true) : (n == m) = false := by
 rw [beq_eq_false_iff_ne]
 rintro rfl
 have h1 := (znx hn).1
 have h2 := (zkv hm).1
 rw [h1] at h2
 cases h2
theorem qnb (v : Str) (hv : za2 v = true) : ∀ a : Tm, a.names = true -> (decide (0 < zh0 v a) = (voS a).contains v) := zbp fun m xs ih h => by
 rw [Tm.names_eq] at h
 rw [zsa, zqx]
 change (if za2 m = true then decide (xs.length = 0) else zdq m && decide (xs.length <= 4) && xs.all Tm.names) = true at h
 change decide (0 < (if (m == v) = true then 1 else 0) + (xs.map (zh0 v)).sum) = (if za2 m = true then [m] else (xs.map voS).flatten).contains v
 rw [Bool.eq_iff_iff, decide_eq_true_eq, List.contains_iff_mem]
 by_cases hm : za2 m = true
 ·rw [if_pos hm] at h ⊢
  have hx : xs = [] := List.length_eq_zero_iff.1 (of_decide_eq_true h)
  subst hx
  simp only [List.map_nil, List.sum_nil, List.mem_singleton, beq_iff_eq]
  by_cases e : m = v
  ·simp [e]
  ·simp [e]; exact fun h => e h.symm
 ·rw [if_neg hm] at h ⊢
  simp only [Bool.and_eq_true] at h
  have hne := qbz hv h.1.1
  have hmv : (m == v) = false := by rw [beq_eq_false_iff_ne] at hne ⊢; exact fun e => hne e.symm
  rw [hmv, if_neg (by simp), Nat.zero_add]
  have hI : ∀ x ∈ xs, (0 < zh0 v x ↔ v ∈ voS x) := fun x hx => by
   have := ih x hx (List.all_eq_true.1 h.2 x hx)
   rwa [Bool.eq_iff_iff, decide_eq_true_eq, List.contains_iff_mem] at this
  clear ih h
  rw [List.mem_flatten]
  constructor
  ·intro hs
   have : ∃ x ∈ xs, 0 < zh0 v x := by
    revert hs
    clear hI
    induction xs with
    | nil => simp
    | cons x xs ih2 =>
     intro hs
     simp only [List.map_cons, List.sum_cons] at hs
     by_cases h0 : 0 < zh0 v x
     ·exact ⟨x, by simp, h0⟩
     ·obtain ⟨y, hy, h1⟩ := ih2 (by omega)
      exact ⟨y, by simp [hy], h1⟩
   obtain ⟨x, hx, h1⟩ := this
   exact ⟨voS x, List.mem_map.2 ⟨x, hx, rfl⟩, (hI x hx).1 h1⟩
  ·rintro ⟨l, hl, hv2⟩
   obtain ⟨x, hx, rfl⟩ := List.mem_map.1 hl
   have h1 := (hI x hx).2 hv2
   have h2 := za6 (zh0 v) xs x hx
   omega
theorem vf_mem : ∀ (f : Fm) (b : List Str) (x : Str), x ∈ vf f b ↔ x ∈ vf f [] /\ x ∉ b := zbr fun o a v ps ih b x => by
 rw [zye (.mk o a v ps) b, zye (.mk o a v ps) []]
 change x ∈ (if (o == 3) = true then (za5 [] (voS a)).filter (fun s => !b.contains s) else (ps.map fun y => vf y (if isQ o = true then b ++ [v] else b)).flatten) ↔ x ∈ (if (o == 3) = true then (za5 [] (voS a)).filter (fun s => !([] : List Str).contains s) else (ps.map fun y => vf y (if isQ o = true then [] ++ [v] else [])).flatten) /\ x ∉ b
 split
 ·simp [List.mem_filter]
 ·have hI : ∀ y ∈ ps, ∀ c, x ∈ vf y c ↔ x ∈ vf y [] /\ x ∉ c := fun y hy c => ih y hy c x
  simp only [List.mem_flatten, List.mem_map]
  constructor
  ·rintro ⟨l, ⟨y, hy, rfl⟩, hx⟩
   rw [hI y hy] at hx
   refine ⟨⟨_, ⟨y, hy, rfl⟩, ?_⟩, ?_⟩
   ·rw [hI y hy]
    refine ⟨hx.1, fun hm => hx.2 ?_⟩
    split at hm
    ·rw [if_pos ‹_›]; simp at hm; simp [hm]
    ·simp at hm
   ·intro hm
    apply hx.2
    split
    ·simp [hm]
    ·exact hm
  ·rintro ⟨⟨l, ⟨y, hy, rfl⟩, hx⟩, hb⟩
   rw [hI y hy] at hx
   refine ⟨_, ⟨y, hy, rfl⟩, ?_⟩
   rw [hI y hy]
   refine ⟨hx.1, fun hm => ?_⟩
   split at hm
   ·rw [if_pos ‹_›] at hx
    rcases List.mem_append.1 hm with hm | hm
    ·exact hb hm
    ·exact hx.2 (by simpa using hm)
   ·exact hb hm
theorem zf4 (l : List Str) (n : Str) : (za5 [] l).contains n = l.contains n := by
 rw [Bool.eq_iff_iff, List.contains_iff_mem, List.contains_iff_mem, zic]; simp
theorem qa2 {f q : Fm} {n : Str} (hq : isQ f.op = true) (hp : f.parts = [q]) (hn : (f.var == n) = false) : (za5 [] (vf f [])).contains n = (zrw f.parts).contains n := by
 have h3 : (f.op == 3) = false := by
  rw [beq_eq_false_iff_ne]; intro e; rw [e] at hq; exact absurd hq (by decide)
 rw [zf4, hp]
 show _ = (za5 [] (vf q [])).contains n
 rw [zf4, Bool.eq_iff_iff, List.contains_iff_mem, List.contains_iff_mem, zye f [], h3, if_neg (by simp), if_pos hq, hp]
 simp only [List.map_cons, List.map_nil, List.flatten_cons, List.flatten_nil, List.append_nil, List.nil_append]
 rw [vf_mem]
 rw [beq_eq_false_iff_ne] at hn
 constructor
 ·exact fun h => h.1
 ·exact fun h => ⟨h, by simpa using fun e => hn e.symm⟩
theorem zpj (n : Str) (t : Tm) (hn : za2 n = true) (ht : t.names = true) : ∀ a : Tm, a.names = true -> zfp n t a = zej (bnd n t) a := zbp fun m xs ih h => by
 rw [Tm.names_eq] at h
 rw [zo4, znq]
 change (if za2 m = true then decide (xs.length = 0) else zdq m && decide (xs.length <= 4) && xs.all Tm.names) = true at h
 change (if xs.length = 0 then (if (n == m) = true then t else .mk m []) else .mk m (xs.map (zfp n t))) = (if za2 m = true then (match (bnd n t).find? fun (p : Str × Tm) => p.1 == m with | some p => p.2 | none => .mk m []) else .mk m (xs.map (zej (bnd n t))))
 by_cases hm : za2 m = true
 ·rw [if_pos hm] at h ⊢
  rw [if_pos (of_decide_eq_true h)]
  unfold bnd
  cases htn : t.name == n
  ·cases hnm : n == m <;> simp only [hnm, if_true, if_false, Bool.false_eq_true, List.find?_cons, List.find?_nil]
  ·cases hnm : n == m
   ·simp only [if_true, if_false, Bool.false_eq_true, List.find?_nil]
   ·simp only [if_true, List.find?_nil]
    have e1 : t.name = m := by rw [beq_iff_eq] at htn hnm; rw [htn, hnm]
    rw [Tm.names_eq, e1, if_pos hm] at ht
    have e2 : t.args = [] := List.length_eq_zero_iff.1 (of_decide_eq_true ht)
    cases t with
    | mk tn ta => simp only [Tm.name, Tm.args] at e1 e2; rw [e1, e2]
 ·rw [if_neg hm] at h ⊢
  simp only [Bool.and_eq_true] at h
  have hne := qbz hn h.1.1
  by_cases hx : xs.length = 0
  ·rw [if_pos hx, hne, if_neg (by simp)]
   have hx : xs = [] := List.length_eq_zero_iff.1 hx
   subst hx; rfl
  ·rw [if_neg hx]
   rw [List.map_congr_left fun x hx => ih x hx (List.all_eq_true.1 h.2 x hx)]
theorem qet (n : Str) (t : Tm) (hn : za2 n = true) (ht : t.names = true) (a : Tm) (h : a.atomOk = true) : zfp n t a = zej (bnd n t) a := by
 unfold Tm.atomOk at h
 split at h
 ·rename_i he
  have he : a.name = [61] := by simpa using he
  simp only [Bool.and_eq_true, decide_eq_true_eq] at h
  rw [zo4, znq, he, show za2 [61] = false by decide, if_neg (by omega), if_neg (by simp)]
  rw [List.map_congr_left fun x hx => zpj n t hn ht x (List.all_eq_true.1 h.2 x hx)]
 ·simp only [Bool.and_eq_true] at h
  have := h.2
  unfold Tm.good at this
  rw [Bool.and_eq_true] at this
  exact zpj n t hn ht a this.2
theorem noneT {a : Tm} (h : a.none = true) : a = .mk [] [] := by
 unfold Tm.none at h
 rw [Bool.and_eq_true, beq_iff_eq, decide_eq_true_eq, List.length_eq_zero_iff] at h
 cases a with
 | mk n xs => simp only [Tm.name, Tm.args] at h; rw [h.1, h.2]
theorem zkq {f : Fm} (h : f.here = true) (h3 : (f.op == 3) = false) : f.atom = .mk [] [] := by
 apply noneT
 unfold Fm.here at h
 rw [h3] at h
 simp only [Bool.false_eq_true, if_false] at h
 split at h
 ·simp only [Bool.and_eq_true] at h; exact h.1.2
 ·split at h
  ·simp only [Bool.and_eq_true] at h; exact h.1.2
  ·split at h
   ·simp only [Bool.and_eq_true] at h; exact h.1.2
   ·split at h
    ·simp only [Bool.and_eq_true] at h; exact h.1.2
    ·cases h
theorem zks {f : Fm} {ps : List Fm} (h : f.here = true) (h3 : (f.op == 3) = false) (hl : ps.length = f.parts.length) : (Fm.mk f.op f.atom f.var ps).here = true := by
 have e : (Fm.mk f.op f.atom f.var ps).here = f.here := by
  unfold Fm.here
  show (if (f.op == 1 || f.op == 2) = true then decide (ps.length = 0) && f.atom.none && (f.var == []) else if (f.op == 3) = true then decide (ps.length = 0) && f.atom.atomOk && (f.var == []) else if (f.op == 4) = true then decide (ps.length = 1) && f.atom.none && (f.var == []) else if znp f.op = true then decide (ps.length = 2) && f.atom.none && (f.var == []) else if isQ f.op = true then decide (ps.length = 1) && f.atom.none && za2 f.var else false) = _
  rw [hl]
 rw [e]; exact h
theorem qju {f : Fm} (h1 : f.here = true) (h : isQ f.op = true) : za2 f.var = true := by
 unfold Fm.here at h1
 have h2 : (f.op == 1 || f.op == 2) = false /\ (f.op == 3) = false /\ (f.op == 4) = false /\ znp f.op = false := by
  have h8 : f.op = 8 \/ f.op = 9 := by unfold isQ at h; rw [Bool.or_eq_true, beq_iff_eq, beq_iff_eq] at h; exact h
  rcases h8 with e | e <;> rw [e] <;> decide
 rw [h2.1, h2.2.1, h2.2.2.1, h2.2.2.2, h] at h1
 simp only [Bool.false_eq_true, if_false, if_true, Bool.and_eq_true] at h1
 exact h1.2
theorem zgv (o : Int) (a : Tm) (v : Str) (ps : List Fm) : (Fm.mk o a v ps).forms = ((Fm.mk o a v ps).here && ps.all Fm.forms) := Fm.forms_eq _
theorem zzy (n : Str) (t : Tm) (hn : za2 n = true) (ht : t.names = true) : ∀ f : Fm, f.forms = true -> (((zdg n t f).2 = true /\ (zdg n t f).1.forms = true) ↔ ((zbe n t f).2 = true /\ (zbe n t f).1.forms = true)) /\ ((zbe n t f).2 = true -> (zbe n t f).1.forms = true -> (zdg n t f).1 = (zbe n t f).1) := zbr fun o a v ps ih hf => by
 have hS := zr7 n t (.mk o a v ps)
 have hP := zob n t (.mk o a v ps)
 have hf0 := hf
 rw [Fm.forms_eq, Bool.and_eq_true] at hf0
 obtain ⟨hh, hps⟩ := hf0
 have hps : ∀ x ∈ ps, x.forms = true := List.all_eq_true.1 hps
 have ihx : ∀ x ∈ ps, _ := fun x hx => ih x hx (hps x hx)
 cases h3 : o == 3
 ·have h3' : ((Fm.mk o a v ps).op == 3) = false := h3
  have ha : a = .mk [] [] := zkq hh h3'
  have hall : (∀ x ∈ ps, (zdg n t x).2 = true /\ (zdg n t x).1.forms = true) ↔ (∀ x ∈ ps, (zbe n t x).2 = true /\ (zbe n t x).1.forms = true) := forall_congr' fun x => forall_congr' fun hx => (ihx x hx).1
  have main : ((zdg n t (.mk o a v ps)) = (.mk o a v (ps.map fun x => (zdg n t x).1), ps.all fun x => (zdg n t x).2)) -> ((zbe n t (.mk o a v ps)) = (.mk o a v ((ps.takeWhile fun x => (zbe n t x).2).map fun x => (zbe n t x).1), ps.all fun x => (zbe n t x).2)) -> _ := fun e1 e2 => by
   have l1 : ((zdg n t (.mk o a v ps)).2 = true /\ (zdg n t (.mk o a v ps)).1.forms = true) ↔ (∀ x ∈ ps, (zdg n t x).2 = true /\ (zdg n t x).1.forms = true) := by
    rw [e1]
    show ((ps.all fun x => (zdg n t x).2) = true /\ (Fm.mk o a v (ps.map fun x => (zdg n t x).1)).forms = true) ↔ _
    rw [zgv, List.all_eq_true, Bool.and_eq_true, List.all_eq_true]
    have hhe : (Fm.mk o a v (ps.map fun x => (zdg n t x).1)).here = true := zks (f := .mk o a v ps) hh h3' (by show (ps.map _).length = ps.length; rw [List.length_map])
    constructor
    ·rintro ⟨h1, _, h2⟩ x hx; exact ⟨h1 x hx, h2 _ (List.mem_map.2 ⟨x, hx, rfl⟩)⟩
    ·intro h; refine ⟨fun x hx => (h x hx).1, hhe, fun y hy => ?_⟩
     obtain ⟨x, hx, rfl⟩ := List.mem_map.1 hy; exact (h x hx).2
   have l2 : ((zbe n t (.mk o a v ps)).2 = true /\ (zbe n t (.mk o a v ps)).1.forms = true) ↔ (∀ x ∈ ps, (zbe n t x).2 = true /\ (zbe n t x).1.forms = true) := by
    rw [e2]
    show ((ps.all fun x => (zbe n t x).2) = true /\ (Fm.mk o a v ((ps.takeWhile fun x => (zbe n t x).2).map fun x => (zbe n t x).1)).forms = true) ↔ _
    constructor
    ·rintro ⟨h1, h2⟩ x hx
     have hw : (ps.takeWhile fun x => (zbe n t x).2) = ps := by
      have := (zcf (l := ps) (p := fun x => (zbe n t x).2) (k := ps.length) (Nat.le_refl _) (by rw [List.take_length]; exact List.all_eq_true.1 h1) fun h => absurd h (Nat.lt_irrefl _)).1
      rw [this, List.take_length]
     rw [hw, zgv, Bool.and_eq_true, List.all_eq_true] at h2
     exact ⟨List.all_eq_true.1 h1 x hx, h2.2 _ (List.mem_map.2 ⟨x, hx, rfl⟩)⟩
    ·intro h
     have h1 : (ps.all fun x => (zbe n t x).2) = true := List.all_eq_true.2 fun x hx => (h x hx).1
     have hw : (ps.takeWhile fun x => (zbe n t x).2) = ps := by
      have := (zcf (l := ps) (p := fun x => (zbe n t x).2) (k := ps.length) (Nat.le_refl _) (by rw [List.take_length]; exact List.all_eq_true.1 h1) fun h => absurd h (Nat.lt_irrefl _)).1
      rw [this, List.take_length]
     have hhe : (Fm.mk o a v (ps.map fun x => (zbe n t x).1)).here = true := zks (f := .mk o a v ps) hh h3' (by show (ps.map _).length = ps.length; rw [List.length_map])
     rw [hw, zgv, Bool.and_eq_true]
     refine ⟨h1, hhe, List.all_eq_true.2 fun y hy => ?_⟩
     obtain ⟨x, hx, rfl⟩ := List.mem_map.1 hy; exact (h x hx).2
   refine (⟨l1.trans (hall.trans l2.symm), fun p1 p2 => ?_⟩ : (((zdg n t (.mk o a v ps)).2 = true /\ (zdg n t (.mk o a v ps)).1.forms = true) ↔ ((zbe n t (.mk o a v ps)).2 = true /\ (zbe n t (.mk o a v ps)).1.forms = true)) /\ ((zbe n t (.mk o a v ps)).2 = true -> (zbe n t (.mk o a v ps)).1.forms = true -> (zdg n t (.mk o a v ps)).1 = (zbe n t (.mk o a v ps)).1))
   have hA := l2.1 ⟨p1, p2⟩
   have h1 : (ps.all fun x => (zbe n t x).2) = true := List.all_eq_true.2 fun x hx => (hA x hx).1
   have hw : (ps.takeWhile fun x => (zbe n t x).2) = ps := by
    have := (zcf (l := ps) (p := fun x => (zbe n t x).2) (k := ps.length) (Nat.le_refl _) (by rw [List.take_length]; exact List.all_eq_true.1 h1) fun h => absurd h (Nat.lt_irrefl _)).1
    rw [this, List.take_length]
   rw [e1, e2, hw]
   show Fm.mk o a v (ps.map fun x => (zdg n t x).1) = Fm.mk o a v (ps.map fun x => (zbe n t x).1)
   rw [List.map_congr_left fun x hx => (ihx x hx).2 (hA x hx).1 (hA x hx).2]
  cases hq : isQ o
  ·refine main ?_ ?_
   ·rw [hS]
    show (if (isQ o && _) = true then _ else if (isQ o && _) = true then _ else (Fm.mk o (if (o == 3) = true then zfp n t a else a) v _, _)) = _
    rw [hq, h3]
    simp only [Bool.false_and, Bool.false_eq_true, if_false]
    rfl
   ·rw [hP]
    show (if (o == 3) = true then _ else if (isQ o && _) = true then _ else if (isQ o && _) = true then _ else (Fm.mk o (.mk [] []) v _, _)) = _
    rw [hq, h3]
    simp only [Bool.false_and, Bool.false_eq_true, if_false]
    rw [<- ha]
    rfl
  ·obtain ⟨q, hp, hqf⟩ := zfx (f := .mk o a v ps) hq hf
   cases hvn : v == n
   ·have hfp := qa2 (f := .mk o a v ps) (n := n) hq hp hvn
    have hvok : za2 v = true := qju (f := .mk o a v ps) hh hq
    have hoc := qnb v hvok t ht
    have hc2 : (za5 [] (voS t)).contains v = (voS t).contains v := zf4 _ _
    have hS2 : zdg n t (.mk o a v ps) = if (!(zrw ps).contains n) = true then (.mk o a v ps, true) else if (voS t).contains v = true then (mkF 0 [], false) else (.mk o a v (ps.map fun x => (zdg n t x).1), ps.all fun x => (zdg n t x).2) := by
     rw [hS]
     show (if (isQ o && (v == n || !((za5 [] (vf (.mk o a v ps) [])).contains n))) = true then _ else if (isQ o && decide (0 < zh0 v t)) = true then _ else (Fm.mk o (if (o == 3) = true then zfp n t a else a) v _, _)) = _
     rw [hfp, hq, hvn, h3, hoc]
     simp only [Bool.true_and, Bool.false_or, Bool.false_eq_true, if_false]
     rfl
    have hP2 : zbe n t (.mk o a v ps) = if (!(zrw ps).contains n) = true then (.mk o a v ps, true) else if (voS t).contains v = true then (.mk o (.mk [] []) v [], false) else (.mk o a v ((ps.takeWhile fun x => (zbe n t x).2).map fun x => (zbe n t x).1), ps.all fun x => (zbe n t x).2) := by
     rw [hP]
     show (if (o == 3) = true then _ else if (isQ o && (v == n || !((zrw ps).contains n))) = true then _ else if (isQ o && (za5 [] (voS t)).contains v) = true then _ else (Fm.mk o (.mk [] []) v _, _)) = _
     rw [hq, hvn, h3, hc2]
     simp only [Bool.true_and, Bool.false_or, Bool.false_eq_true, if_false]
     rw [<- ha]
     rfl
    cases hfc : (!(zrw ps).contains n)
    ·rw [hfc] at hS2 hP2
     simp only [Bool.false_eq_true, if_false] at hS2 hP2
     cases hvc : (voS t).contains v
     ·rw [hvc] at hS2 hP2
      simp only [Bool.false_eq_true, if_false] at hS2 hP2
      exact main hS2 hP2
     ·rw [hvc] at hS2 hP2
      simp only [if_true] at hS2 hP2
      rw [hS2, hP2]
      exact ⟨⟨fun h => (by cases h.1), fun h => (by cases h.1)⟩, fun h => (by cases h)⟩
    ·rw [hfc] at hS2 hP2
     simp only [if_true] at hS2 hP2
     rw [hS2, hP2]
     exact ⟨Iff.rfl, fun _ _ => rfl⟩
   ·have hS2 : zdg n t (.mk o a v ps) = (.mk o a v ps, true) := by
     rw [hS]
     show (if (isQ o && (v == n || _)) = true then _ else _) = _
     rw [hq, hvn]
     simp only [Bool.true_and, Bool.true_or, if_true]
    have hP2 : zbe n t (.mk o a v ps) = (.mk o a v ps, true) := by
     rw [hP]
     show (if (o == 3) = true then _ else if (isQ o && (v == n || _)) = true then _ else _) = _
     rw [hq, hvn, h3]
     simp only [Bool.true_and, Bool.true_or, if_true, Bool.false_eq_true, if_false]
    rw [hS2, hP2]
    exact ⟨Iff.rfl, fun _ _ => rfl⟩
 ·have ho3 : o = 3 := by simpa using h3
  obtain ⟨hat, hp⟩ := zer (f := .mk o a v ps) hh ho3
  have hp : ps = [] := hp
  have hat : a.atomOk = true := hat
  have hq : isQ o = false := by rw [ho3]; decide
  have hS2 : zdg n t (.mk o a v ps) = (.mk o (zej (bnd n t) a) v [], true) := by
   rw [hS]
   show (if (isQ o && _) = true then _ else if (isQ o && _) = true then _ else (Fm.mk o (if (o == 3) = true then zfp n t a else a) v (ps.map _), ps.all _)) = _
   rw [hq, h3, hp]
   simp only [Bool.false_and, Bool.false_eq_true, if_false, if_true, List.map_nil, List.all_nil]
   rw [qet n t hn ht a hat]
  have hP2 : zbe n t (.mk o a v ps) = (.mk o (zej (bnd n t) a) v [], (zej (bnd n t) a).atomOk) := by
   rw [hP]
   show (if (o == 3) = true then _ else _) = _
   rw [h3]
   rfl
  rw [hS2, hP2]
  refine ⟨⟨fun h => ⟨?_, h.2⟩, fun h => ⟨rfl, h.2⟩⟩, fun _ _ => rfl⟩
  have := h.2
  rw [zgv, Bool.and_eq_true] at this
  exact (zer (f := .mk o (zej (bnd n t) a) v []) this.1 ho3).1
theorem zdt {f : Fm} (h : f.good = true) : f.forms = true := (Bool.and_eq_true _ _ ▸ h : _ /\ _).2
noncomputable def sbF (n : Str) (t : Tm) (f : Fm) : Fm × Bool := if (f.good && za2 n && t.good && (zdg n t f).2 && (zdg n t f).1.good) = true then ((zdg n t f).1, true) else (mkF 0 [], false)
theorem qfq (n : Str) (t : Tm) (hn : za2 n = true) (ht : t.names = true) (f : Fm) (hf : f.forms = true) : ((zdg n t f).2 && (zdg n t f).1.good) = ((zbe n t f).2 && (zbe n t f).1.good) := by
 obtain ⟨h1, h2⟩ := zzy n t hn ht f hf
 rw [Bool.eq_iff_iff, Bool.and_eq_true, Bool.and_eq_true]
 unfold Fm.good
 rw [Bool.and_eq_true, Bool.and_eq_true]
 constructor
 ·rintro ⟨a, b, c⟩
  obtain ⟨p, q⟩ := h1.1 ⟨a, c⟩
  exact ⟨p, by rw [<- h2 p q]; exact b, q⟩
 ·rintro ⟨a, b, c⟩
  obtain ⟨p, q⟩ := h1.2 ⟨a, c⟩
  exact ⟨p, by rw [h2 a c]; exact b, q⟩
theorem zhb (f : Fm) (n : Str) (t : Tm) (hw : f.wt <= 1048576) (ht : t.wt <= 1048576) (hb : f.wt + (1 + f.wt) * t.wt <= 1099511627776) : FC Tryz.prog 168 [fmD f, sD n, tmD t] [fmD (sbF n t f).1, bD (sbF n t f).2] := by
 have hv : sbF n t f = if (f.good && za2 n && t.good && (zdg n t f).2 && (zdg n t f).1.good) = true then ((zdg n t f).1, true) else (mkF 0 [], false) := rfl
 have HF := zcy f (by omega)
 have HN := zeb n
 have HT := zfg t (by omega)
 cases hg : f.good
 ·rw [hg] at hv HF
  simp only [Bool.false_and, Bool.false_eq_true, if_false] at hv
  rw [hv]
  simp only [fmD, zab f, tmD, zaa t, zb7, List.map_nil] at HF ⊢
  refine zaj Tryz.call168 Tryz.func168 rfl (by kernel_rfl) (zav (by kernel_rfl)) ?_
  simp -implicitDefEqProofs only [go_sem, Tryz.results168]
  refine callF (HF) (by simp -implicitDefEqProofs only [go_sem]) ?_
  simp -implicitDefEqProofs only [go_sem]
 ·cases hn : za2 n
  ·rw [hg, hn] at hv
   rw [hg] at HF
   rw [hn] at HN
   simp only [Bool.false_and, Bool.true_and, Bool.false_eq_true, if_false] at hv
   rw [hv]
   simp only [fmD, zab f, tmD, zaa t, zb7, List.map_nil] at HF ⊢
   refine zaj Tryz.call168 Tryz.func168 rfl (by kernel_rfl) (zav (by kernel_rfl)) ?_
   simp -implicitDefEqProofs only [go_sem, Tryz.results168]
   refine callF (HF) (by simp -implicitDefEqProofs only [go_sem]) ?_
   simp -implicitDefEqProofs only [go_sem]
   refine callF (HN) (by simp -implicitDefEqProofs only [go_sem]) ?_
   simp -implicitDefEqProofs only [go_sem]
  ·cases htg : t.good
   ·rw [hg, hn, htg] at hv
    rw [hg] at HF
    rw [hn] at HN
    rw [htg] at HT
    simp only [Bool.false_and, Bool.true_and, Bool.false_eq_true, if_false] at hv
    rw [hv]
    simp only [fmD, zab f, tmD, zaa t, zb7, List.map_nil] at HF HT ⊢
    refine zaj Tryz.call168 Tryz.func168 rfl (by kernel_rfl) (zav (by kernel_rfl)) ?_
    simp -implicitDefEqProofs only [go_sem, Tryz.results168]
    refine callF (HF) (by simp -implicitDefEqProofs only [go_sem]) ?_
    simp -implicitDefEqProofs only [go_sem]
    refine callF (HN) (by simp -implicitDefEqProofs only [go_sem]) ?_
    simp -implicitDefEqProofs only [go_sem]
    refine callF (HT) (by simp -implicitDefEqProofs only [go_sem]) ?_
    simp -implicitDefEqProofs only [go_sem]
   ·rw [hg, hn, htg] at hv
    rw [hg] at HF
    rw [hn] at HN
    rw [htg] at HT
    have HS := znd n t ht f (zdt hg) hw
    have hwt := qm1 n t f
    generalize (zdg n t f).1 = R at HS hv hwt
    simp only [Bool.true_and] at hv
    cases hok : (zdg n t f).2
    ·rw [hok] at hv HS
     simp only [Bool.false_and, Bool.false_eq_true, if_false] at hv
     rw [hv]
     simp only [fmD, zab f, tmD, zaa t, zab R, zb7, List.map_nil] at HF HT HS ⊢
     refine zaj Tryz.call168 Tryz.func168 rfl (by kernel_rfl) (zav (by kernel_rfl)) ?_
     simp -implicitDefEqProofs only [go_sem, Tryz.results168]
     refine callF (HF) (by simp -implicitDefEqProofs only [go_sem]) ?_
     simp -implicitDefEqProofs only [go_sem]
     refine callF (HN) (by simp -implicitDefEqProofs only [go_sem]) ?_
     simp -implicitDefEqProofs only [go_sem]
     refine callF (HT) (by simp -implicitDefEqProofs only [go_sem]) ?_
     simp -implicitDefEqProofs only [go_sem]
     refine callF (HS) (by simp -implicitDefEqProofs only [go_sem]) ?_
     simp -implicitDefEqProofs only [go_sem]
    ·rw [hok] at hv HS
     have HI := zj9 R (by omega)
     simp only [Bool.true_and] at hv
     have hv2 : sbF n t f = ((if R.good = true then R else mkF 0 []), R.good) := by rw [hv]; cases R.good <;> rfl
     rw [hv2]
     generalize (if R.good = true then R else mkF 0 []) = Z at HI ⊢
     generalize R.good = G at HI ⊢
     simp only [fmD, zab f, tmD, zaa t, zab R, zab Z] at HF HT HS HI ⊢
     refine zaj Tryz.call168 Tryz.func168 rfl (by kernel_rfl) (zav (by kernel_rfl)) ?_
     simp -implicitDefEqProofs only [go_sem, Tryz.results168]
     refine callF (HF) (by simp -implicitDefEqProofs only [go_sem]) ?_
     simp -implicitDefEqProofs only [go_sem]
     refine callF (HN) (by simp -implicitDefEqProofs only [go_sem]) ?_
     simp -implicitDefEqProofs only [go_sem]
     refine callF (HT) (by simp -implicitDefEqProofs only [go_sem]) ?_
     simp -implicitDefEqProofs only [go_sem]
     refine callF (HS) (by simp -implicitDefEqProofs only [go_sem]) ?_
     simp -implicitDefEqProofs only [go_sem]
     refine zc5 [6] [34] [] (HI) (by simp -implicitDefEqProofs only [go_sem]) (by simp -implicitDefEqProofs only [go_sem]) (by simp -implicitDefEqProofs only [go_sem]) (by simp -implicitDefEqProofs only [go_sem]) ?_
     simp -implicitDefEqProofs only [go_sem]
end Go.Proofs.YtbccfiillleimaaGreat
