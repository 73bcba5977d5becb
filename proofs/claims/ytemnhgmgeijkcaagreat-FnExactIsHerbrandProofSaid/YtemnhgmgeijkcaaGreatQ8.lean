/-
  FnExactIsHerbrandProof returns true for all arguments, and its arguments read afterwards as they read before.
  Conditions: none.
-/
import Derived.Test.YtemnhgmgeijkcaaGreatQ7
import Derived.Test.YtemnhgmgeijkcaaGreatQ6
import Derived.Test.YtemnhgmgeijkcaaGreatQ5
import Derived.Test.YtemnhgmgeijkcaaGreatRows
import Derived.Test.YtemnhgmgeijkcaaGreatQ1
import Derived.ProofKit
import Derived.OpenShut
import Derived.ShutString
import Derived.ChangeOld
namespace Go.Proofs.YtemnhgmgeijkcaaGreat
set_option linter.unusedSimpArgs false
set_option linter.unusedVariables false
set_option linter.unusedSectionVars false
set_option maxRecDepth 4000
open Go.RowKit
theorem qdf (a b : Str) : FC Tryz.prog 292 [sD a, sD b] [iD (zu2 a b)] := by
 have hv : zu2 a b = if Op.bytesLess a b = true then -1 else if (a == b) = true then 0 else 1 := rfl
 rw [hv]
 cases h1 : Op.bytesLess a b <;> cases h2 : (a == b)
 all_goals
  refine zah Tryz.call292 Tryz.func292 rfl (by kernel_rfl) (zat (by kernel_rfl)) ?_
  simp -implicitDefEqProofs only [go_sem, Tryz.results292, h1, h2]
  try simp
theorem zuu (a b : Tm) : zfm a b = if (zav a.name && !zav b.name) = true then -1 else if (zav b.name && !zav a.name) = true then 1 else if (a.name == b.name) = false then zu2 a.name b.name
  else if a.args.length < b.args.length then -1 else if b.args.length < a.args.length then 1 else zgu a.args b.args := by
 rw [zps]
 unfold hdT qgf
 generalize zav a.name = x
 generalize zav b.name = y
 by_cases hn : a.name = b.name
 ·have h0 : zu2 a.name b.name = 0 := zhq.2 hn
  rw [h0, hn]
  unfold cmpN
  by_cases h1 : a.args.length < b.args.length
  ·cases x <;> cases y <;> simp [orE, h1]
  ·by_cases h2 : b.args.length < a.args.length
   ·cases x <;> cases y <;> simp [orE, h1, h2]
   ·cases x <;> cases y <;> simp [orE, h1, h2]
 ·have h0 : zu2 a.name b.name ≠ 0 := fun h => hn (zhq.1 h)
  have hb : (a.name == b.name) = false := by simpa using hn
  cases x <;> cases y <;> simp [orE, h0, hb]
set_option maxHeartbeats 1000000 in
theorem zmt (a b : Tm) (H : ∀ x ∈ a.args, ∀ y, FC Tryz.prog 264 [tmD x, tmD y] [iD (zfm x y)]) : FC Tryz.prog 264 [tmD a, tmD b] [iD (zfm a b)] := by
 refine zc0 (fun hw => ?_) Tryz.call264
 simp only [tmD, zaa] at hw ⊢
 have hl : a.args.length <= 9223372036854775807 := by simp [zfj, wfT, zol] at hw; exact hw.1.2.1
 have hv := zuu a b
 have HV1 := zfi a.name
 have HV2 := zfi b.name
 have HT := qdf a.name b.name
 by_cases hxy : zav a.name = zav b.name
 ·rw [hxy] at HV1 hv
  rw [Bool.and_not_self, if_neg (by simp), if_neg (by simp)] at hv
  generalize zav b.name = x at HV1 HV2
  cases x
  all_goals
   cases hn : (a.name == b.name)
   ·rw [hn, if_pos rfl] at hv
    rw [hv]
    have hn' : (a.name != b.name) = true := by simp [bne, hn]
    generalize zu2 a.name b.name = r at HT
    refine zah Tryz.call264 Tryz.func264 rfl (by kernel_rfl) (zat (by kernel_rfl)) ?_
    simp -implicitDefEqProofs only [go_sem, Tryz.results264]
    refine drawn (by kernel_rfl) ?_
    simp -implicitDefEqProofs only [go_sem]
    refine zaz (HV1) (by simp -implicitDefEqProofs only [go_sem]) ?_
    simp -implicitDefEqProofs only [go_sem]
    refine zaz (HV2) (by simp -implicitDefEqProofs only [go_sem]) ?_
    simp -implicitDefEqProofs only [go_sem]
    refine ⟨by kernel_rfl, ?_⟩
    simp -implicitDefEqProofs only [go_sem, hn, hn']
    refine callF (HT) (by simp -implicitDefEqProofs only [go_sem]) ?_
    simp -implicitDefEqProofs only [go_sem]
   ·rw [hn, if_neg (by simp)] at hv
    have hn' : (a.name != b.name) = false := by simp [bne, hn]
    refine zah Tryz.call264 Tryz.func264 rfl (by kernel_rfl) (zat (by kernel_rfl)) ?_
    simp -implicitDefEqProofs only [go_sem, Tryz.results264]
    refine drawn (by kernel_rfl) ?_
    simp -implicitDefEqProofs only [go_sem]
    refine zaz (HV1) (by simp -implicitDefEqProofs only [go_sem]) ?_
    simp -implicitDefEqProofs only [go_sem]
    refine zaz (HV2) (by simp -implicitDefEqProofs only [go_sem]) ?_
    simp -implicitDefEqProofs only [go_sem]
    refine ⟨by kernel_rfl, ?_⟩
    simp -implicitDefEqProofs only [go_sem, hn, hn']
    refine ⟨fun h1 => ?_, fun h1 => ⟨fun h2 => ?_, fun h2 => ?_⟩⟩
    ·rw [hv, if_pos (by simpa using h1)]
    ·rw [hv, if_neg (by simpa using h1), if_pos (by simpa using h2)]
    ·rw [if_neg (by simpa using h1), if_neg (by simpa using h2)] at hv
     have hlen : a.args.length = b.args.length := by simp at h1 h2; omega
     refine zae (fun k : Nat => hd [(2, .one (.bx 2 0)), (3, .one (.bx 3 0)), (7, vI k)] [(2, [.t (.str a.name), .t (tmS a.args)]), (3, [.t (.str b.name), .t (tmS b.args)])] []) (fun k => k <= a.args.length /\ zfm a b = zgu (a.args.drop k) (b.args.drop k)) (fun k => a.args.length - k) 0 (zac ?_) ⟨Nat.zero_le _, by simpa using hv⟩ ?_
     ·simp -implicitDefEqProofs only [go_sem]
     ·intro k ⟨hk, hr⟩
      by_cases hlt : k < a.args.length
      ·have hk2 : k < b.args.length := by omega
       have HC := H a.args[k] (List.getElem_mem hlt) b.args[k]
       rw [List.drop_eq_getElem_cons hlt, List.drop_eq_getElem_cons hk2, zgu] at hr
       generalize zfm a.args[k] b.args[k] = c at HC hr
       simp only [tmD, zaa a.args[k], zaa b.args[k]] at HC
       simp -implicitDefEqProofs only [go_sem, hlt]
       refine drawn (by kernel_rfl) ?_
       simp -implicitDefEqProofs only [go_sem, hlt, hk2, zag, zaa a.args[k], zaa b.args[k]]
       refine zaz (HC) (by simp -implicitDefEqProofs only [go_sem]) ?_
       simp -implicitDefEqProofs only [go_sem]
       refine ⟨by kernel_rfl, fun h => ?_, fun h => ?_⟩
       ·have : c ≠ 0 := by simpa using h
        unfold orE at hr
        rw [if_neg this] at hr
        rw [hr]
       ·have : c = 0 := by simpa using h
        unfold orE at hr
        rw [if_pos this] at hr
        refine ⟨k + 1, ⟨hlt, hr⟩, by omega, zac ?_⟩
        simp -implicitDefEqProofs only [go_sem]
        rw [zao (by omega)]
      ·rw [List.drop_of_length_le (by omega), List.drop_of_length_le (by omega), zgu] at hr
       rw [hr]
       simp -implicitDefEqProofs only [go_sem, hlt]
 ·have e : zav b.name = !zav a.name := by revert hxy; cases zav a.name <;> cases zav b.name <;> simp
  rw [e] at HV2 hv
  generalize zav a.name = x at HV1 HV2 hv
  cases x
  all_goals
   simp only [Bool.not_true, Bool.not_false, Bool.and_self, Bool.and_false, Bool.and_true, Bool.false_and, Bool.true_and, if_true, if_false, reduceCtorEq] at HV2 hv
   rw [hv]
   refine zah Tryz.call264 Tryz.func264 rfl (by kernel_rfl) (zat (by kernel_rfl)) ?_
   simp -implicitDefEqProofs only [go_sem, Tryz.results264]
   refine drawn (by kernel_rfl) ?_
   simp -implicitDefEqProofs only [go_sem]
   refine zaz (HV1) (by simp -implicitDefEqProofs only [go_sem]) ?_
   simp -implicitDefEqProofs only [go_sem]
   refine zaz (HV2) (by simp -implicitDefEqProofs only [go_sem]) ?_
   simp -implicitDefEqProofs only [go_sem]
   kernel_rfl
theorem zpu : ∀ a b : Tm, FC Tryz.prog 264 [tmD a, tmD b] [iD (zfm a b)] := za7 fun n xs ih b => zmt (.mk n xs) b ih
end Go.Proofs.YtemnhgmgeijkcaaGreat
namespace Go.Proofs.YtemnhgmgeijkcaaGreat
set_option linter.unusedSimpArgs false
set_option linter.unusedVariables false
set_option linter.unusedSectionVars false
set_option maxRecDepth 4000
open Go.RowKit
theorem zvo {l : List Tm} {t : Tm} {k : Nat} (hk : k <= l.length) (h1 : ∀ x ∈ l.take k, ltT x t = true) (h2 : ∀ h : k < l.length, ltT l[k] t = false) : zht l t = if dec ((l.drop k).head? = some t) = true then l else l.take k ++ [t] ++ l.drop k := by
 obtain ⟨e1, e2⟩ := zc7 (p := fun x => ltT x t) hk h1 h2
 unfold zht
 rw [e1, e2]
set_option maxHeartbeats 2000000 in
theorem qcf (l : List Tm) (t : Tm) (hl : l.length <= 2147483648) : RC Tryz.prog 192 [.one (tmS l), tmD t] [.one (tmS (zht l t))] := by
 simp only [tmD, zaa t]
 refine znu Tryz.call192 Tryz.func192 rfl (by kernel_rfl) (zat (by kernel_rfl)) ?_
 simp -implicitDefEqProofs only [go_sem, Tryz.results192]
 refine zae (fun k : Nat => hd [(0, vT (tmS l)), (3, .one (.bx 3 0)), (5, vI k)] [(3, [.t (.str t.name), .t (tmS t.args)])] []) (fun k => k <= l.length /\ ∀ x ∈ l.take k, ltT x t = true) (fun k => l.length - k) 0 (zac ?_) ⟨Nat.zero_le _, by simp⟩ ?_
 ·simp -implicitDefEqProofs only [go_sem]
 ·intro k ⟨hk, hr⟩
  have hm1 : min k l.length <= 4294967296 := by omega
  have hm2 : min k l.length <= 4294967295 := by omega
  have hm3 : min k l.length + 1 + (l.length - k) <= 4294967296 := by omega
  by_cases hlt : k < l.length
  ·have HC := zpu l[k] t
   have HS := zr6 l[k] t
   have hnx : ltT l[k] t = true -> ∀ x ∈ l.take (k + 1), ltT x t = true := fun hb x hx => by
    rw [List.take_succ_eq_append_getElem hlt] at hx
    rcases List.mem_append.1 hx with hx | hx
    ·exact hr x hx
    ·rw [List.mem_singleton.1 hx, hb]
   simp only [tmD, zaa l[k], zaa t] at HC HS
   have hcd : decide (zfm l[k] t < 0) = ltT l[k] t := rfl
   generalize zfm l[k] t = c at HC hcd
   simp -implicitDefEqProofs only [go_sem, hlt]
   refine drawn (by kernel_rfl) ?_
   simp -implicitDefEqProofs only [go_sem, hlt, zag, zaa l[k]]
   refine qe1 (HC) (by simp -implicitDefEqProofs only [go_sem]) ?_
   simp -implicitDefEqProofs only [go_sem]
   refine ⟨by kernel_rfl, fun h => ?_, fun h => ?_⟩
   ·refine ⟨k + 1, ⟨hlt, hnx (by rw [<- hcd]; exact h)⟩, by omega, zac ?_⟩
    simp -implicitDefEqProofs only [go_sem]
    rw [zao (by omega)]
   ·rw [h] at hcd
    have hp := zvo hk hr fun _ => hcd.symm
    have hh : (l.drop k).head? = some l[k] := by rw [List.head?_drop, List.getElem?_eq_getElem hlt]
    refine drawn (by kernel_rfl) ?_
    simp -implicitDefEqProofs only [go_sem, hlt, zag, zaa l[k]]
    refine qe1 (HS) (by simp -implicitDefEqProofs only [go_sem]) ?_
    simp -implicitDefEqProofs only [go_sem]
    refine ⟨by kernel_rfl, fun h2 => ?_, fun h2 => ?_⟩
    ·rw [hp, if_pos (by rw [hh, zd5, zcf.1 h2])]
    ·rw [if_neg (by rw [hh, zd5]; intro e; rw [Option.some.inj e, zbw] at h2; cases h2)] at hp
     refine drawn (by kernel_rfl) ?_
     simp -implicitDefEqProofs only [go_sem, hk]
     refine zhf (by simp -implicitDefEqProofs only [go_sem, hk]) ?_
     simp -implicitDefEqProofs only [go_sem, hk]
     refine zh3 false (by simp -implicitDefEqProofs only [go_sem, hk, ne_eq, Nat.zero_add, hm1, hm2, hm3, zbz, List.length_drop, List.length_take, List.length_append, List.length_map]) ?_
     simp -implicitDefEqProofs only [go_sem, hk, ne_eq, Nat.zero_add, hm1, hm2, hm3, zbz, List.length_drop, List.length_take, List.length_append, List.length_map]
     refine zhf (by simp -implicitDefEqProofs only [go_sem, hk]) ?_
     simp -implicitDefEqProofs only [go_sem, hk]
     refine zh3 false (by simp -implicitDefEqProofs only [go_sem, hk, ne_eq, Nat.zero_add, hm1, hm2, hm3, zbz, List.length_drop, List.length_take, List.length_append, List.length_map]) ?_
     simp -implicitDefEqProofs only [go_sem, hk, ne_eq, Nat.zero_add, hm1, hm2, hm3, zbz, List.length_drop, List.length_take, List.length_append, List.length_map]
     refine zh3 false (by simp -implicitDefEqProofs only [go_sem, hk, ne_eq, Nat.zero_add, hm1, hm2, hm3, zbz, List.length_drop, List.length_take, List.length_append, List.length_map]) ?_
     simp -implicitDefEqProofs only [go_sem, hk, ne_eq, Nat.zero_add, hm1, hm2, hm3, zbz, List.length_drop, List.length_take, List.length_append, List.length_map]
     refine ⟨by kernel_rfl, ?_⟩
     rw [hp, List.map_append, List.map_append, List.map_take, List.map_drop, List.map_singleton, zaa t]
  ·have hp := zvo hk hr fun h => absurd h hlt
   rw [if_neg (by rw [List.drop_of_length_le (by omega), zd5]; simp)] at hp
   simp -implicitDefEqProofs only [go_sem, hlt]
   refine drawn (by kernel_rfl) ?_
   simp -implicitDefEqProofs only [go_sem, hlt]
   refine ⟨by kernel_rfl, ?_⟩
   refine drawn (by kernel_rfl) ?_
   simp -implicitDefEqProofs only [go_sem, hlt]
   refine ⟨by kernel_rfl, ?_⟩
   refine drawn (by kernel_rfl) ?_
   simp -implicitDefEqProofs only [go_sem, hk]
   refine zhf (by simp -implicitDefEqProofs only [go_sem, hk]) ?_
   simp -implicitDefEqProofs only [go_sem, hk]
   refine zh3 false (by simp -implicitDefEqProofs only [go_sem, hk, ne_eq, Nat.zero_add, hm1, hm2, hm3, zbz, List.length_drop, List.length_take, List.length_append, List.length_map]) ?_
   simp -implicitDefEqProofs only [go_sem, hk, ne_eq, Nat.zero_add, hm1, hm2, hm3, zbz, List.length_drop, List.length_take, List.length_append, List.length_map]
   refine zhf (by simp -implicitDefEqProofs only [go_sem, hk]) ?_
   simp -implicitDefEqProofs only [go_sem, hk]
   refine zh3 false (by simp -implicitDefEqProofs only [go_sem, hk, ne_eq, Nat.zero_add, hm1, hm2, hm3, zbz, List.length_drop, List.length_take, List.length_append, List.length_map]) ?_
   simp -implicitDefEqProofs only [go_sem, hk, ne_eq, Nat.zero_add, hm1, hm2, hm3, zbz, List.length_drop, List.length_take, List.length_append, List.length_map]
   refine zh3 false (by simp -implicitDefEqProofs only [go_sem, hk, ne_eq, Nat.zero_add, hm1, hm2, hm3, zbz, List.length_drop, List.length_take, List.length_append, List.length_map]) ?_
   simp -implicitDefEqProofs only [go_sem, hk, ne_eq, Nat.zero_add, hm1, hm2, hm3, zbz, List.length_drop, List.length_take, List.length_append, List.length_map]
   refine ⟨by kernel_rfl, ?_⟩
   rw [hp, List.map_append, List.map_append, List.map_take, List.map_drop, List.map_singleton, zaa t]
end Go.Proofs.YtemnhgmgeijkcaaGreat
namespace Go.Proofs.YtemnhgmgeijkcaaGreat
set_option linter.unusedSimpArgs false
set_option linter.unusedVariables false
set_option linter.unusedSectionVars false
set_option maxRecDepth 4000
open Go.RowKit
theorem zn2 : ∀ (ts ys : List Tm), (ts.foldl zht ys).length <= ys.length + ts.length
 | [], ys => by simp
 | t :: ts, ys => by
  have h1 := zn2 ts (zht ys t)
  have h2 : (zht ys t).length <= ys.length + 1 := by
   unfold zht
   split
   ·omega
   ·conv => rhs; rw [<- List.takeWhile_append_dropWhile (p := fun x => ltT x t) (l := ys)]
    simp only [List.length_append, List.length_cons, List.length_nil]
    omega
  rw [List.foldl_cons, List.length_cons]; omega
theorem zu8 (f : Fm) (ys : List Tm) {k : Nat} (hlt : k < f.parts.length) : ((f.parts.map atF).take (k + 1)).flatten.foldl zht ys = (atF f.parts[k]).foldl zht (((f.parts.map atF).take k).flatten.foldl zht ys) := by
 rw [zkz f hlt, List.foldl_append]
theorem zto (f : Fm) (H : ∀ p ∈ f.parts, ∀ ys : List Tm, ys.length + (atF p).length <= 1073741824 -> RC Tryz.prog 132 [.one (tmS ys), fmD p] [.one (tmS ((atF p).foldl zht ys))]) (ys : List Tm) (hs : ys.length + (atF f).length <= 1073741824) (hw : f.wt <= 1048576) : RC Tryz.prog 132 [.one (tmS ys), fmD f] [.one (tmS ((atF f).foldl zht ys))] := by
 have hv := zfe f
 have hW := f.wt_eq
 simp only [fmD, zab f]
 cases h3 : f.op == 3
 ·rw [h3, if_neg (by simp)] at hv
  rw [hv] at hs ⊢
  refine znu Tryz.call132 Tryz.func132 rfl (by kernel_rfl) (zat (by kernel_rfl)) ?_
  simp -implicitDefEqProofs only [go_sem, Tryz.results132]
  simp -implicitDefEqProofs only [go_sem, h3]
  refine zae (fun k : Nat => hd [(0, vT (tmS (((f.parts.map atF).take k).flatten.foldl zht ys))), (3, .one (.bx 3 0)), (5, vI k)] [(3, [.t (.int .i64 f.op), .t (.str f.atom.name), .t (tmS f.atom.args), .t (.str f.var), .t (fmS f.parts)])] []) (fun k => k <= f.parts.length) (fun k => f.parts.length - k) 0 (zac ?_) (Nat.zero_le _) ?_
  ·simp -implicitDefEqProofs only [go_sem]
   rfl
  ·intro k hk
   by_cases hlt : k < f.parts.length
   ·have hT := zu8 f ys hlt
    have hg := znx (f.parts.map atF) (k + 1)
    rw [zkz f hlt, List.length_append] at hg
    have hl := zn2 ((f.parts.map atF).take k).flatten ys
    have HC := H f.parts[k] (List.getElem_mem hlt) (((f.parts.map atF).take k).flatten.foldl zht ys) (by omega)
    rw [<- hT] at HC
    simp only [fmD, zab f.parts[k]] at HC
    simp -implicitDefEqProofs only [go_sem, hlt, zag, zab f.parts[k]]
    refine callR (HC) (by simp -implicitDefEqProofs only [go_sem]) ?_
    simp -implicitDefEqProofs only [go_sem]
    refine ⟨k + 1, hlt, by omega, zac ?_⟩
    simp -implicitDefEqProofs only [go_sem]
    rw [zao (by omega)]
   ·have ht : (f.parts.map atF).take k = f.parts.map atF := List.take_of_length_le (by simpa using hlt)
    simp -implicitDefEqProofs only [go_sem, hlt, ht]
 ·rw [h3, if_pos rfl] at hv
  rw [hv] at hs ⊢
  have HP := qcf ys f.atom (by omega)
  simp only [tmD, zaa f.atom] at HP
  refine znu Tryz.call132 Tryz.func132 rfl (by kernel_rfl) (zat (by kernel_rfl)) ?_
  simp -implicitDefEqProofs only [go_sem, Tryz.results132]
  simp -implicitDefEqProofs only [go_sem, h3]
  refine callR (HP) (by simp -implicitDefEqProofs only [go_sem]) ?_
  simp -implicitDefEqProofs only [go_sem]
  rfl
theorem zvz : ∀ f : Fm, f.wt <= 1048576 -> ∀ ys : List Tm, ys.length + (atF f).length <= 1073741824 -> RC Tryz.prog 132 [.one (tmS ys), fmD f] [.one (tmS ((atF f).foldl zht ys))] :=
 za6 fun o a v ps ih hw ys hs => zto (.mk o a v ps) (fun x hx ys hs => ih x hx (Nat.le_trans (zbm (a := .mk o a v ps) hx) hw) ys hs) ys hs hw
theorem zrn {n : Nat} (h : n < 4096) : IntKind.u64.wrap (n : Int) = n := by
 unfold IntKind.wrap
 simp [IntKind.bits, IntKind.signed]
 omega
theorem zp7 (l : List Tm) (hl : l.length <= 12) (m : Nat) (hm : m < 4096) (f : Fm) (hf : f.forms = true) (hp : za1 f = true) (ha : ∀ t ∈ atF f, t ∈ l) (H : ∀ p ∈ f.parts, FC Tryz.prog 133 [fmD p, .one (tmS l), iD m] [bD (evF p (bv m l))]) : FC Tryz.prog 133 [fmD f, .one (tmS l), iD m] [bD (evF f (bv m l))] := by
 rcases zd8 hf with ⟨h1, h2⟩ | ⟨p, rfl, _⟩ | ⟨o, p, q, ho, rfl, _⟩ | ⟨o, v, p, ho, rfl, _⟩
 ·obtain ⟨o, a, v, ps⟩ := f
  simp only [Fm.op, Fm.parts] at h1 h2
  subst h1
  rcases h2 with rfl | rfl | rfl
  ·rw [zei]
   simp only [fmD, zcq, Fm.op]
   refine zah Tryz.call133 Tryz.func133 rfl (by kernel_rfl) (zat (by kernel_rfl)) ?_
   simp -implicitDefEqProofs only [go_sem, Tryz.results133]
  ·rw [zei]
   simp only [fmD, zcq, Fm.op]
   refine zah Tryz.call133 Tryz.func133 rfl (by kernel_rfl) (zat (by kernel_rfl)) ?_
   simp -implicitDefEqProofs only [go_sem, Tryz.results133]
  ·have hal : a ∈ l := ha a (by rw [zfe]; simp [Fm.op, Fm.atom])
   obtain ⟨hi, _, hx⟩ := zys hal
   have HX := zt5 l a
   have hv : evF (.mk 3 a v []) (bv m l) = m.testBit (ixT l a) := by rw [zei]; rfl
   rw [hx] at HX
   rw [hv]
   generalize ixT l a = i at hi HX
   have hu := zrn (show i < 4096 by omega)
   simp only [tmD, zaa a] at HX
   simp only [fmD, zcq, Fm.op]
   refine zah Tryz.call133 Tryz.func133 rfl (by kernel_rfl) (zat (by kernel_rfl)) ?_
   simp -implicitDefEqProofs only [go_sem, Tryz.results133]
   refine callF (HX) (by simp -implicitDefEqProofs only [go_sem, hu]) ?_
   simp -implicitDefEqProofs only [go_sem, hu]
   exact ⟨(zla m i hm (by omega)).1, congrArg T.bool (zla m i hm (by omega)).2⟩
 ·have HP := H p (by simp [mkF, Fm.parts])
  have hv : evF (mkF 4 [p]) (bv m l) = !(evF p (bv m l)) := by rw [zei]; rfl
  rw [hv]
  generalize evF p (bv m l) = r at HP ⊢
  simp only [fmD, zab p] at HP
  simp only [fmD]
  rw [show fmC (mkF 4 [p]) = [.int .i64 4, .str [], .sl 2 [], .str [], .sl 5 [fmC p]] from zbn 4 [p], zab p]
  refine zah Tryz.call133 Tryz.func133 rfl (by kernel_rfl) (zat (by kernel_rfl)) ?_
  simp -implicitDefEqProofs only [go_sem, Tryz.results133]
  refine callF (HP) (by simp -implicitDefEqProofs only [go_sem]) ?_
  simp -implicitDefEqProofs only [go_sem]
 ·have HP := H p (by simp [mkF, Fm.parts])
  have HQ := H q (by simp [mkF, Fm.parts])
  have hv : evF (mkF o [p, q]) (bv m l) = if (o == 5) = true then evF p (bv m l) && evF q (bv m l) else if (o == 6) = true then evF p (bv m l) || evF q (bv m l) else !(evF p (bv m l)) || evF q (bv m l) := by
   rw [zei]
   rcases ho with rfl | rfl | rfl <;> rfl
  rw [hv]
  generalize evF p (bv m l) = r at HP ⊢
  generalize evF q (bv m l) = r2 at HQ ⊢
  simp only [fmD, zab p, zab q] at HP HQ
  simp only [fmD]
  rw [show fmC (mkF o [p, q]) = [.int .i64 o, .str [], .sl 2 [], .str [], .sl 5 [fmC p, fmC q]] from zbn o [p, q], zab p, zab q]
  rcases ho with rfl | rfl | rfl
  ·cases r
   ·refine zah Tryz.call133 Tryz.func133 rfl (by kernel_rfl) (zat (by kernel_rfl)) ?_
    simp -implicitDefEqProofs only [go_sem, Tryz.results133]
    refine callF (HP) (by simp -implicitDefEqProofs only [go_sem]) ?_
    simp -implicitDefEqProofs only [go_sem]
   ·refine zah Tryz.call133 Tryz.func133 rfl (by kernel_rfl) (zat (by kernel_rfl)) ?_
    simp -implicitDefEqProofs only [go_sem, Tryz.results133]
    refine callF (HP) (by simp -implicitDefEqProofs only [go_sem]) ?_
    simp -implicitDefEqProofs only [go_sem]
    refine callF (HQ) (by simp -implicitDefEqProofs only [go_sem]) ?_
    simp -implicitDefEqProofs only [go_sem]
  ·cases r
   ·refine zah Tryz.call133 Tryz.func133 rfl (by kernel_rfl) (zat (by kernel_rfl)) ?_
    simp -implicitDefEqProofs only [go_sem, Tryz.results133]
    refine callF (HP) (by simp -implicitDefEqProofs only [go_sem]) ?_
    simp -implicitDefEqProofs only [go_sem]
    refine callF (HQ) (by simp -implicitDefEqProofs only [go_sem]) ?_
    simp -implicitDefEqProofs only [go_sem]
    rfl
   ·refine zah Tryz.call133 Tryz.func133 rfl (by kernel_rfl) (zat (by kernel_rfl)) ?_
    simp -implicitDefEqProofs only [go_sem, Tryz.results133]
    refine callF (HP) (by simp -implicitDefEqProofs only [go_sem]) ?_
    simp -implicitDefEqProofs only [go_sem]
    rfl
  ·cases r
   ·refine zah Tryz.call133 Tryz.func133 rfl (by kernel_rfl) (zat (by kernel_rfl)) ?_
    simp -implicitDefEqProofs only [go_sem, Tryz.results133]
    refine callF (HP) (by simp -implicitDefEqProofs only [go_sem]) ?_
    simp -implicitDefEqProofs only [go_sem]
    rfl
   ·refine zah Tryz.call133 Tryz.func133 rfl (by kernel_rfl) (zat (by kernel_rfl)) ?_
    simp -implicitDefEqProofs only [go_sem, Tryz.results133]
    refine callF (HP) (by simp -implicitDefEqProofs only [go_sem]) ?_
    simp -implicitDefEqProofs only [go_sem]
    refine callF (HQ) (by simp -implicitDefEqProofs only [go_sem]) ?_
    simp -implicitDefEqProofs only [go_sem]
    rfl
 ·exfalso
  rw [zcd] at hp
  rcases ho with rfl | rfl <;> simp [Fm.op] at hp
theorem zui (l : List Tm) (hl : l.length <= 12) (m : Nat) (hm : m < 4096) : ∀ f : Fm, f.forms = true -> za1 f = true -> (∀ t ∈ atF f, t ∈ l) -> FC Tryz.prog 133 [fmD f, .one (tmS l), iD m] [bD (evF f (bv m l))] :=
 za6 fun o a v ps ih hf hp ha => zp7 l hl m hm (.mk o a v ps) hf hp ha fun p hm => ih p hm (zfl hf p hm) (zdg hp p hm) fun t ht => ha t (znw hf hm ht)
theorem zpf (f : Fm) (hw : f.wt <= 1048576) (hf : f.forms = true) (hp : za1 f = true) : FC Tryz.prog 80 [fmD f] [bD (zuy f).1, bD (zuy f).2] := by
 have hfn := zb4 f
 have hfl := zp0 f
 have HD := zvz f hw [] (by simp only [List.length_nil]; omega)
 have hall := fun t => qdm (f := f) (t := t)
 have hv : zuy f = if (qgo f).length <= 12 then (dec (zmg f), true) else (false, false) := by unfold zuy; rw [qgu]
 rw [hv]
 rw [show (atF f).foldl zht [] = qgo f from rfl, show tmS [] = .sl 2 [] from rfl] at HD
 generalize qgo f = L at HD hall ⊢
 have HT := fun (m : Nat) (hm : m < 4096) (hl : L.length <= 12) => zui L hl m hm f hf hp hall
 have hbits := zns hall
 simp only [fmD, zab f] at HD HT ⊢
 by_cases hl : L.length <= 12
 ·have h12 : ((12 : Int) < (L.length : Int)) = False := by simp; omega
  have hle : 2 ^ L.length <= 2 ^ 12 := Nat.pow_le_pow_right (by omega) hl
  have hu := zrn (show L.length < 4096 by omega)
  have hpow : IntKind.i64.wrap (1 * 2 ^ min L.length 64) = ((2 ^ L.length : Nat) : Int) := by
   rw [show min L.length 64 = L.length by omega, Int.one_mul, show (2 : Int) ^ L.length = ((2 ^ L.length : Nat) : Int) by simp]
   generalize 2 ^ L.length = N at hle ⊢
   exact zbk (by omega) (by omega)
  rw [if_pos hl]
  refine zcp Tryz.call80 Tryz.func80 rfl (by kernel_rfl) (zat (by kernel_rfl)) ?_
  simp -implicitDefEqProofs only [go_sem, Tryz.results80]
  refine za9 (by simp -implicitDefEqProofs only [go_sem]) ?_
  simp -implicitDefEqProofs only [go_sem]
  refine frzO 192 rfl rfl ?_
  simp -implicitDefEqProofs only [go_sem]
  refine zu7 (HD) (by simp -implicitDefEqProofs only [go_sem]) ?_
  simp -implicitDefEqProofs only [go_sem]
  simp -implicitDefEqProofs only [go_sem, h12]
  have hpow' := hpow
  generalize 2 ^ L.length = N at hle hbits hpow hpow'
  refine zae (fun k : Nat => hd [(1, .one (.bx 1 0)), (4, .one (.rn (tmS L))), (5, vI k)] [(1, [.t (.int .i64 f.op), .t (.str f.atom.name), .rn (tmS f.atom.args), .t (.str f.var), .rn (fmS f.parts)])] []) (fun k => k <= N /\ ∀ m, m < k -> evF f (bv m L) = true) (fun k => N - k) 0 (zac ?_) ⟨Nat.zero_le _, fun m h => by omega⟩ ?_
  ·simp -implicitDefEqProofs only [go_sem]
  ·intro k ⟨hk, hr⟩
   by_cases hlt : k < N
   ·have HC := HT k (by omega) hl
    simp -implicitDefEqProofs only [go_sem, hlt, hu, hpow]
    refine callF (HC) (by simp -implicitDefEqProofs only [go_sem]) ?_
    simp -implicitDefEqProofs only [go_sem]
    refine ⟨fun h => ?_, fun h => ?_⟩
    ·have : dec (zmg f) = false := by
      rw [<- Bool.not_eq_true, zd5, <- hbits]
      intro h2
      have h3 : evF f (bv k L) = true := h2 k hlt
      rw [h3] at h
      simp at h
     rw [this]
     exact Or.inl rfl
    ·refine ⟨k + 1, ⟨hlt, fun m hm => ?_⟩, by omega, zac ?_⟩
     ·by_cases e : m = k
      ·subst e; simpa using h
      ·exact hr m (by omega)
     ·simp -implicitDefEqProofs only [go_sem]
      rw [zao (by omega)]
   ·simp -implicitDefEqProofs only [go_sem, hlt, hu, hpow]
    have : dec (zmg f) = true := zd5.2 (hbits.1 fun m hm => hr m (by omega))
    rw [this]
    exact Or.inl rfl
 ·have h12 : ((12 : Int) < (L.length : Int)) = True := by simp; omega
  rw [if_neg hl]
  refine zcp Tryz.call80 Tryz.func80 rfl (by kernel_rfl) (zat (by kernel_rfl)) ?_
  simp -implicitDefEqProofs only [go_sem, Tryz.results80]
  refine za9 (by simp -implicitDefEqProofs only [go_sem]) ?_
  simp -implicitDefEqProofs only [go_sem]
  refine frzO 192 rfl rfl ?_
  simp -implicitDefEqProofs only [go_sem]
  refine zu7 (HD) (by simp -implicitDefEqProofs only [go_sem, h12]) ?_
  simp -implicitDefEqProofs only [go_sem, h12]
end Go.Proofs.YtemnhgmgeijkcaaGreat
namespace Go.Proofs.YtemnhgmgeijkcaaGreat
set_option linter.unusedSimpArgs false
set_option linter.unusedVariables false
set_option linter.unusedSectionVars false
set_option maxRecDepth 4000
open Go.RowKit
theorem zjp {o : Int} (ho : o = 5 \/ o = 6) {z : Fm} (hz : za1 z = true) : ∀ {L : List Fm}, (∀ x ∈ L, za1 x = true) -> za1 (zcs o L z) = true
 | [], _ => hz
 | [x], h => h x (by simp)
 | x :: y :: xs, h => by
  rw [zd3 o x (by simp) z, zcd]
  have h1 := h x (by simp)
  have h2 := zjp ho hz (L := y :: xs) fun w hw => h w (List.mem_cons_of_mem _ hw)
  show (!((o == 8) || (o == 9)) && [x, zcs o (y :: xs) z].all za1) = true
  rcases ho with rfl | rfl <;> simp [h1, h2]
end Go.Proofs.YtemnhgmgeijkcaaGreat
namespace Go.Proofs.YtemnhgmgeijkcaaGreat
set_option linter.unusedSimpArgs false
set_option linter.unusedVariables false
set_option linter.unusedSectionVars false
set_option maxRecDepth 4000
open Go.RowKit
noncomputable def hpR (f : Fm) (tss : List (List Tm)) : Bool × Bool := if hdB f tss = true then zuy (zi2 f tss) else (false, false)
theorem zjj {f : Fm} {tss : List (List Tm)} (h : hdB f tss = true) : za1 (zi2 f tss) = true /\ (zi2 f tss).forms = true /\ (zi2 f tss).wt <= 20800 := by
 unfold hdB qat at h
 rw [Bool.and_eq_true, Bool.and_eq_true] at h
 obtain ⟨⟨h1, h2⟩, h3⟩ := h
 obtain ⟨_, _, hpl, _⟩ := zgh h1
 refine ⟨?_, zen h3, zir h3⟩
 have h0 : za1 (mkF 2 []) = true := by
  rw [zcd]
  show (!((2 : Int) == 8 || (2 : Int) == 9) && [].all za1) = true
  rfl
 refine zjp (Or.inr rfl) h0 fun x hx => ?_
 obtain ⟨ts, _, rfl⟩ := List.mem_map.1 hx
 exact zhd _ _ hpl
theorem qbm (f : Fm) (hw : f.wt <= 1048576) (tss : List (List Tm)) (ht : zu1 tss <= 1048576) : FC Tryz.prog 24 [fmD f, .one (zjz tss)] [bD (hpR f tss).1, bD (hpR f tss).2] := by
 have HD := qaw f hw tss ht
 have hv : hpR f tss = if hdB f tss = true then zuy (zi2 f tss) else (false, false) := rfl
 unfold hdR at HD
 rw [hv]
 cases h : hdB f tss
 ·rw [h, if_neg (by simp)] at HD
  rw [if_neg (by simp)]
  simp only [fmD, zab f, zbn, List.map_nil] at HD ⊢
  refine zah Tryz.call24 Tryz.func24 rfl (by kernel_rfl) (zat (by kernel_rfl)) ?_
  simp -implicitDefEqProofs only [go_sem, Tryz.results24]
  refine callF (HD) (by simp -implicitDefEqProofs only [go_sem]) ?_
  simp -implicitDefEqProofs only [go_sem]
 ·obtain ⟨h1, h2, h3⟩ := zjj h
  rw [h, if_pos rfl] at HD
  rw [if_pos rfl]
  have HA := zm7 (zi2 f tss) (by omega) h2 h1
  generalize zi2 f tss = R at HD HA ⊢
  generalize zuy R = A at HA ⊢
  simp only [fmD, zab f, zab R] at HD HA ⊢
  refine zah Tryz.call24 Tryz.func24 rfl (by kernel_rfl) (zat (by kernel_rfl)) ?_
  simp -implicitDefEqProofs only [go_sem, Tryz.results24]
  refine callF (HD) (by simp -implicitDefEqProofs only [go_sem]) ?_
  simp -implicitDefEqProofs only [go_sem]
  refine callF (HA) (by simp -implicitDefEqProofs only [go_sem]) ?_
  simp -implicitDefEqProofs only [go_sem]
theorem qdp (f : Fm) (hw : f.wt <= 1048576) (tss : List (List Tm)) (ht : zu1 tss <= 1048576) : FC Tryz.prog 23 [fmD f, .one (zjz tss)] [bD (hpR f tss).1, bD (hpR f tss).2] := by
 have HD := zhb f hw tss ht
 have hv : hpR f tss = if hdB f tss = true then zuy (zi2 f tss) else (false, false) := rfl
 unfold hdR at HD
 rw [hv]
 cases h : hdB f tss
 ·rw [h, if_neg (by simp)] at HD
  rw [if_neg (by simp)]
  simp only [fmD, zab f, zbn, List.map_nil] at HD ⊢
  refine zah Tryz.call23 Tryz.func23 rfl (by kernel_rfl) (zat (by kernel_rfl)) ?_
  simp -implicitDefEqProofs only [go_sem, Tryz.results23]
  refine callF (HD) (by simp -implicitDefEqProofs only [go_sem]) ?_
  simp -implicitDefEqProofs only [go_sem]
 ·obtain ⟨h1, h2, h3⟩ := zjj h
  rw [h, if_pos rfl] at HD
  rw [if_pos rfl]
  have HA := zpf (zi2 f tss) (by omega) h2 h1
  generalize zi2 f tss = R at HD HA ⊢
  generalize zuy R = A at HA ⊢
  simp only [fmD, zab f, zab R] at HD HA ⊢
  refine zah Tryz.call23 Tryz.func23 rfl (by kernel_rfl) (zat (by kernel_rfl)) ?_
  simp -implicitDefEqProofs only [go_sem, Tryz.results23]
  refine callF (HD) (by simp -implicitDefEqProofs only [go_sem]) ?_
  simp -implicitDefEqProofs only [go_sem]
  refine callF (HA) (by simp -implicitDefEqProofs only [go_sem]) ?_
  simp -implicitDefEqProofs only [go_sem]
set_option maxHeartbeats 1000000 in
theorem qgj (f : Fm) (tss : List (List Tm)) : FC Tryz.prog 4 [fmD f, .one (zjz tss)] [bD true] := by
 have HZ := zom f 1048576 (by omega) (by omega)
 simp only [fmD, zab f] at HZ ⊢
 refine zcp Tryz.call4 Tryz.func4 rfl (by kernel_rfl) (zat (by kernel_rfl)) ?_
 simp -implicitDefEqProofs only [go_sem, Tryz.results4]
 refine callF (HZ) (by simp -implicitDefEqProofs only [go_sem]) ?_
 simp -implicitDefEqProofs only [go_sem]
 refine ⟨fun h => trivial, fun h => ?_⟩
 obtain ⟨hw1, hw2⟩ := zem (show ¬ szR f.wt 1048576 < 0 by simpa using h)
 have HZ2 := zt7 tss (szR f.wt 1048576) (by omega) (by omega)
 refine callF (HZ2) (by simp -implicitDefEqProofs only [go_sem]) ?_
 simp -implicitDefEqProofs only [go_sem]
 refine ⟨fun h => trivial, fun h2 => ?_⟩
 obtain ⟨hw3, hw4⟩ := zem (show ¬ szR (zu1 tss) (szR f.wt 1048576) < 0 by simpa using h2)
 have hw : f.wt <= 1048576 := by omega
 have hws : zu1 tss <= 1048576 := by omega
 have HS := qdp f hw tss hws
 have HI := qbm f hw tss hws
 have HT := zoz f hw
 have HT2 := zue tss hws
 have HE := zpp f f
 have HE2 := ztn tss tss
 generalize hpR f tss = G at HS HI
 simp only [fmD, zab f] at HS HI HT HE
 have n1 : ∀ b : Bool, (!(b == b)) = false := by decide
 have n2 : ∀ b : Bool, (b != b) = false := by decide
 refine callF (HT) (by simp -implicitDefEqProofs only [go_sem]) ?_
 simp -implicitDefEqProofs only [go_sem]
 refine callF (HT2) (by simp -implicitDefEqProofs only [go_sem]) ?_
 simp -implicitDefEqProofs only [go_sem]
 refine callF (HS) (by simp -implicitDefEqProofs only [go_sem]) ?_
 simp -implicitDefEqProofs only [go_sem]
 refine callF (HT) (by simp -implicitDefEqProofs only [go_sem]) ?_
 simp -implicitDefEqProofs only [go_sem]
 refine callF (HT2) (by simp -implicitDefEqProofs only [go_sem]) ?_
 simp -implicitDefEqProofs only [go_sem]
 refine callF (HI) (by simp -implicitDefEqProofs only [go_sem, n1, n2]) ?_
 simp -implicitDefEqProofs only [go_sem, n1, n2]
 refine drawn (by kernel_rfl) ?_
 simp -implicitDefEqProofs only [go_sem]
 refine zaz (HT) (by simp -implicitDefEqProofs only [go_sem]) ?_
 simp -implicitDefEqProofs only [go_sem]
 refine zaz (HE) (by simp -implicitDefEqProofs only [go_sem]) ?_
 simp -implicitDefEqProofs only [go_sem]
 refine ⟨by kernel_rfl, fun h => ?_, fun _ => ?_⟩
 ·simp [zbw] at h
 refine callF (HT2) (by simp -implicitDefEqProofs only [go_sem]) ?_
 simp -implicitDefEqProofs only [go_sem]
 refine callF (HE2) (by simp -implicitDefEqProofs only [go_sem, zbw]) ?_
 simp -implicitDefEqProofs only [go_sem, zbw]
end Go.Proofs.YtemnhgmgeijkcaaGreat
namespace Go.Proofs.YtemnhgmgeijkcaaGreat
set_option linter.unusedSimpArgs false
set_option linter.unusedVariables false
set_option linter.unusedSectionVars false
set_option maxRecDepth 4000
open Go.ChangeShapes Go.WideShapes Go.ChangeAt Go.RowKit
theorem zxv : ownKnob Tryz.prog.godebug = none := by kernel_rfl
theorem zfv : laidOutB Tryz.prog = true := by kernel_rfl
def zgf (t : TypeId) : Bool := t == 3 || t == 9 || t == 24 || t == 22 || t == 27 || t == 25 || t == 28
theorem zfz : ∀ t, zgf t = true -> zwo Tryz.prog zgf t = true := by
 intro t h
 simp only [zgf, Bool.or_eq_true, beq_iff_eq] at h
 rcases h with (((((rfl | rfl) | rfl) | rfl) | rfl) | rfl) | rfl <;> kernel_rfl
set_option maxRecDepth 100000 in
theorem zme (os : Os) (started : os.Started) (H : Type) (enc : TypeId × Value -> H) :
  ReturnsInHanded {} Tryz.checked os 4 .any (Rows.fnExactIsHerbrandProofSpec.pre6 enc Tryz.prog Tryz.f4 Rows.fnExactIsHerbrandProofRow.domain false)
   (Rows.fnExactIsHerbrandProofSpec.post enc Tryz.prog Tryz.f4 false true false false) := by
 refine returnsInHanded_of_change (C := Tryz.checked) zxv started (by kernel_rfl) Tryz.func4
  (ChangeSpec.witness6 (enc := enc) (C := Tryz.checked) false ⟨#[], #[.agg #[.int .i64 0, .string .empty, .slice none 0 0, .string .empty, .slice none 0 0], .slice none 0 0], []⟩ 8 (by kernel_rfl) (by kernel_rfl) (by kernel_rfl) (by kernel_rfl)) ?_
 intro W base args ds gs before hval0 hW hcnd _
 have hval : ∀ (j : Nat) t v, Tryz.f4.params[j]? = some t -> args[j]? = some v -> Value.okWide Tryz.prog W .any base t v := hval0
 have hW' := hW
 obtain ⟨p, q, hA0, hV, rfl, hfz, hnd⟩ := hW
 have hA : DataW.TrodAll enc Tryz.prog W 0 (fun _ => true) true Tryz.f4.params.toList args.toList ds p := hA0
 rw [Tryz.params4] at hA hval
 obtain ⟨v0, vs0, d0, ds0, p0, q0, hargs, rfl, rfl, h0, r0⟩ := trodAll_cons hA
 obtain ⟨v1, vs1, d1, ds1, p1, q1, rfl, rfl, rfl, h1, r1⟩ := trodAll_cons r0
 obtain ⟨rfl, rfl, rfl⟩ := trodAll_nil r1
 obtain rfl : args = #[v0, v1] := by cases args; simp_all
 obtain ⟨rfl, rfl⟩ := trodVars_none hV
 have k0 := h0
 have k1 := h1
 have lt0 : ∀ x ∈ p0, x.block < W.heap.size := by obtain ⟨m, hm⟩ := k0; exact DataW.trod_lt m _ _ _ hm
 have lt1 : ∀ x ∈ p1, x.block < W.heap.size := by obtain ⟨m, hm⟩ := k1; exact DataW.trod_lt m _ _ _ hm
 obtain ⟨cs0, rfl, _⟩ := okWide_struct Tryz.underlying27 (hval 0 27 v0 rfl rfl)
 obtain ⟨sa1, sb1, sc1, rfl⟩ := okWide_slice Tryz.underlying28 (hval 1 28 v1 rfl rfl)
 obtain ⟨s0, hs0⟩ : ∃ s : Fm, zt6 W (· < W.heap.size) (fmD s) (.agg cs0) := by
  obtain ⟨m, hm⟩ := h0
  obtain ⟨d, hr, hs⟩ := zhp zfz m _ _ _ (by rfl) hm
  obtain ⟨s, e⟩ := zug _ hs
  exact ⟨s, cs0.toList, rfl, e ▸ hr⟩
 obtain ⟨s1, hs1⟩ : ∃ s : (List (List Tm)), zt6 W (· < W.heap.size) (tssD s) (.slice sa1 sb1 sc1) := by
  obtain ⟨m, hm⟩ := h1
  obtain ⟨d, hr, hs⟩ := zhp zfz m _ _ _ (by rfl) hm
  obtain ⟨s, e⟩ := zxd hs
  rw [e] at hr
  obtain ⟨v', vs', e1, e2, _⟩ := hr
  cases e1
  exact ⟨s, e2⟩
 have hs : zba W (· < W.heap.size) [fmD s0, tssD s1] [.agg cs0, .slice sa1 sb1 sc1] := ⟨_, _, rfl, hs0, _, _, rfl, hs1, rfl⟩
 clear hA0 hval0
 refine ((qgj s0 s1).use (vs := [.agg cs0, .slice sa1 sb1 sc1]) hs).mono fun e W' ⟨us, fp, he, ho, _, _, bel⟩ => ?_
 obtain ⟨u, us', f1, f2, rfl, _, ⟨rfl, _⟩, hu⟩ := ho
 obtain ⟨rfl, _⟩ := hu
 subst he
 exact ⟨_, rfl, _, _, _, [], _, [], hW', trodAll_mk1 (shut_bool Tryz.underlying4 _),
  (trodAll_cons_mk (Below.trod zfv (by kernel_rfl) (of_decide_eq_true (by kernel_rfl)) k0 bel lt0) (trodAll_cons_mk (Below.trod zfv (by kernel_rfl) (of_decide_eq_true (by kernel_rfl)) k1 bel lt1) trodAll_mk0)), rfl, bel.frame _, fun h => by cases h⟩
theorem qdj : (Rows.fnExactIsHerbrandProofRow.wf (OpenSpec.ofChange Rows.fnExactIsHerbrandProofSpec)) = true := by kernel_rfl
theorem qeg : (laidOutB Tryz.checked.prog) = true := by kernel_rfl
theorem qee : (mapsRowed Tryz.checked.prog) = true := by kernel_rfl
theorem qa6 : (Tryz.f4.params.all (Tryz.checked.prog.readableRec ·)) = true := by kernel_rfl
theorem qem : (namedTie Tryz.checked.prog Rows.fnExactIsHerbrandProofRow.named Rows.fnExactIsHerbrandProofSpec.vars) = true := by kernel_rfl
theorem qd7 : ((Rows.fnExactIsHerbrandProofRow.stops == [])) = true := by kernel_rfl
theorem qbn : ((Tryz.checked.prog.stops == [])) = true := by kernel_rfl
theorem qa9 : ((Rows.fnExactIsHerbrandProofRow.knobs == [])) = true := by kernel_rfl
theorem qcr : ((Tryz.checked.prog.stopKnobs == [])) = true := by kernel_rfl
theorem qd1 : ((Rows.fnExactIsHerbrandProofRow.inPlace == Tryz.checked.prog.inPlace 4)) = true := by kernel_rfl
theorem zv1 : ((Rows.fnExactIsHerbrandProofRow.unfollowed == Tryz.checked.prog.unfollowed 4)) = true := by kernel_rfl
theorem zyj : ((Rows.fnExactIsHerbrandProofRow.recurses == Tryz.checked.prog.recurses 4)) = true := by kernel_rfl
theorem zxk : ((Rows.fnExactIsHerbrandProofRow.named == Tryz.checked.prog.varsNamed 4)) = true := by kernel_rfl
theorem zwc : ((Rows.fnExactIsHerbrandProofRow.maps == (Tryz.f4.params.toList ++ Rows.fnExactIsHerbrandProofSpec.plain.varTypes Tryz.checked.prog).any (Tryz.checked.prog.mapsRec ·))) = true := by kernel_rfl
theorem zzg : ((Rows.fnExactIsHerbrandProofRow.ifaces == (Tryz.f4.params.toList ++ Rows.fnExactIsHerbrandProofSpec.plain.varTypes Tryz.checked.prog).any (Tryz.checked.prog.ifacesRec ·))) = true := by kernel_rfl
theorem zwv : ((Rows.fnExactIsHerbrandProofRow.mapsOut == Tryz.checked.prog.mapsAmong Tryz.f4.resultTypes.toList)) = true := by kernel_rfl
theorem zvw : ((Rows.fnExactIsHerbrandProofRow.loops == (Tryz.f4.params.toList ++ Rows.fnExactIsHerbrandProofSpec.plain.varTypes Tryz.checked.prog).any (Tryz.checked.prog.loopsFrom ·))) = true := by kernel_rfl
theorem zy9 : ((Rows.fnExactIsHerbrandProofRow.wideKeys == (Tryz.f4.params.toList ++ Rows.fnExactIsHerbrandProofSpec.plain.varTypes Tryz.checked.prog ++ Tryz.f4.resultTypes.toList).any (Tryz.checked.prog.wideKeysFrom ·))) = true := by kernel_rfl
theorem zx1 : (Rows.fnExactIsHerbrandProofSpec.vars.all (Tryz.checked.prog.varReadable ·)) = true := by kernel_rfl
theorem zwd : (Tryz.f4.resultTypes.all (fun t => Tryz.checked.prog.readableRec t && decide (t < Tryz.checked.prog.types.size))) = true := by kernel_rfl
theorem zwk : ((Rows.fnExactIsHerbrandProofRow.ifacesOut == Tryz.f4.resultTypes.toList.any (Tryz.checked.prog.ifacesRec ·))) = true := by kernel_rfl
theorem zzd : ((Rows.fnExactIsHerbrandProofRow.loopsOut == Tryz.f4.resultTypes.toList.any (Tryz.checked.prog.loopsFrom ·))) = true := by kernel_rfl
theorem zvg : ((Rows.fnExactIsHerbrandProofRow.plainKeys == Tryz.checked.prog.plainKeys)) = true := by kernel_rfl
theorem zxq : (Rows.fnExactIsHerbrandProofRow.shortTexts.isNone) = true := by kernel_rfl
theorem zxf : (Tryz.checked.prog.stopsHeard) = true := by kernel_rfl
theorem zwj : (Tryz.checked.prog.mayEnter) = true := by kernel_rfl
theorem zu6 : ((Rows.fnExactIsHerbrandProofRow.lifted == Tryz.checked.prog.liftsFinal)) = true := by kernel_rfl
theorem zvu : ((Tryz.checked.prog.make == some Rows.fnExactIsHerbrandProofRow.make)) = true := by kernel_rfl
theorem qaf : ((Rows.fnExactIsHerbrandProofRow.kinds == (if Rows.fnExactIsHerbrandProofRow.domain.isEmpty then [] else Tryz.f4.params.toList.map fun t => match Tryz.checked.prog.underlying t with | some (.int k) => some k | _ => none))) = true := by kernel_rfl
theorem zvs : ((Rows.fnExactIsHerbrandProofRow.pinned == Rows.fnExactIsHerbrandProofRow.pinnedBy)) = true := by kernel_rfl
theorem zzq : ((Rows.fnExactIsHerbrandProofRow.veiled == (Tryz.f4.params.toList ++ Rows.fnExactIsHerbrandProofSpec.plain.varTypes Tryz.checked.prog ++ Tryz.f4.resultTypes.toList).any (Tryz.checked.prog.veiledRec ·))) = true := by kernel_rfl
theorem zwl : (Rows.fnExactIsHerbrandProofRow.veiledFits Tryz.checked.prog Tryz.f4.params.toList (Tryz.f4.params.toList ++ Rows.fnExactIsHerbrandProofSpec.plain.varTypes Tryz.checked.prog ++ Tryz.f4.resultTypes.toList)) = true := by kernel_rfl
theorem znj : joinedFacts Tryz.checked.prog 4 Tryz.f4 Rows.fnExactIsHerbrandProofSpec Rows.fnExactIsHerbrandProofRow = true := by
 unfold joinedFacts
 simp only [Bool.and_eq_true]
 exact ⟨⟨⟨⟨⟨⟨⟨⟨⟨⟨⟨⟨⟨⟨⟨⟨⟨⟨⟨⟨⟨⟨⟨⟨⟨⟨⟨⟨⟨⟨⟨qdj, qeg⟩, qee⟩, qa6⟩, qem⟩, qd7⟩, qbn⟩, qa9⟩, qcr⟩, qd1⟩, zv1⟩, zyj⟩, zxk⟩, zwc⟩, zzg⟩, zwv⟩, zvw⟩, zy9⟩, zx1⟩, zwd⟩, zwk⟩, zzd⟩, zvg⟩, zxq⟩, zxf⟩, zwj⟩, zu6⟩, zvu⟩, qaf⟩, zvs⟩, zzq⟩, zwl⟩
theorem isHerbrandProof_holds : Rows.FnExactIsHerbrandProofSaid :=
 OpenClaim.holds_of_wide 4 Tryz.f4 rfl rfl rfl rfl rfl rfl rfl ⟨rfl, rfl, rfl, rfl, rfl⟩ rfl rfl rfl rfl rfl (by kernel_rfl) Tryz.func4 znj
  (of_decide_eq_true (by kernel_rfl)) (by unfold Func.isWrapper; rw [if_neg (of_decide_eq_false (by kernel_rfl))]; exact ⟨rfl, rfl⟩)
  (fun os started H enc _ => zme os started H enc)
#print axioms isHerbrandProof_holds
end Go.Proofs.YtemnhgmgeijkcaaGreat
