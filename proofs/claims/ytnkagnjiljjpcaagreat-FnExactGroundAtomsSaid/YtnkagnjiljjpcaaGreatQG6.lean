/-
  The walk over plain data, and contracts of functions of the program and of its laws.
  Conditions: those that each theorem names.
-/
import Derived.Test.YtnkagnjiljjpcaaGreatQG5
import Derived.Shelf.GgSortFunc.InsertionK
import Derived.Lone
import Derived.Calls
import Derived.Shelf.SlSortCmp.NoneTotal
import Derived.Test.YtnkagnjiljjpcaaGreatQG4
namespace Go.Proofs.YtnkagnjiljjpcaaGreat
set_option linter.unusedSimpArgs false
set_option linter.unusedVariables false
set_option linter.unusedSectionVars false
set_option maxRecDepth 4000
open Go.RowKit
theorem zn5 (x : Int) : FC Tryz.prog 150 [iD x] [bD false] := by
 refine zap Tryz.call150 Tryz.func150 rfl (by kernel_rfl) (za2 (by kernel_rfl)) ?_
 simp -implicitDefEqProofs only [go_sem, Tryz.results150]
 simp
def zvz (a b : Int) : Int := if a < b then -1 else if b < a then 1 else 0
theorem zoi (x y : Int) : FC Tryz.prog 93 [iD x, iD y] [iD (zvz x y)] := by
 have hc : zvz x y = if x < y then -1 else if y < x then 1 else 0 := rfl
 refine zap Tryz.call93 Tryz.func93 rfl (by kernel_rfl) (za2 (by kernel_rfl)) ?_
 simp -implicitDefEqProofs only [go_sem, Tryz.results93]
 refine callF (zn5 x) (by simp -implicitDefEqProofs only [go_sem]) ?_
 simp -implicitDefEqProofs only [go_sem]
 refine callF (zn5 y) (by simp -implicitDefEqProofs only [go_sem]) ?_
 simp -implicitDefEqProofs only [go_sem]
 refine ⟨fun h => ?_, fun h => ⟨fun h2 => ?_, fun h2 => ?_⟩⟩
 ·rw [hc, if_pos (by simpa using h)]
 ·rw [hc, if_neg (by simpa using h), if_pos (by simpa using h2)]
 ·rw [hc, if_neg (by simpa using h), if_neg (by simpa using h2)]
theorem zwi (m n : Nat) : zvz (m : Int) (n : Int) = qap m n := by
 unfold zvz qap
 simp only [Int.ofNat_lt]
theorem zuq (x y : Int) : FC Tryz.prog 91 [.one (.sl 1 [[.int .i64 x], [.int .i64 y]])] [iD (orE x y)] := by
 have hv : orE x y = if x = 0 then y else x := rfl
 refine zap Tryz.call91 Tryz.func91 rfl (by kernel_rfl) (za2 (by kernel_rfl)) ?_
 simp -implicitDefEqProofs only [go_sem, Tryz.results91]
 refine zag (fun k : Nat => hd [(3, vI 0), (6, vT (.sl 1 [[.int .i64 x], [.int .i64 y]])), (7, vI (2 : Nat)), (8, vI k)] [] []) (fun k => k = 0 \/ (k = 1 /\ x = 0) \/ (k = 2 /\ x = 0 /\ y = 0)) (fun k => 2 - k) 0 (zab ?_) (Or.inl rfl) ?_
 ·simp -implicitDefEqProofs only [go_sem]
 ·rintro k (rfl | ⟨rfl, hx⟩ | ⟨rfl, hx, hy⟩)
  ·simp -implicitDefEqProofs only [go_sem, List.getD_cons_zero, List.length_cons, List.length_nil]
   refine ⟨fun h => ?_, fun h => ?_⟩
   ·rw [hv, if_neg (by simpa using h)]
   ·refine ⟨1, Or.inr (Or.inl ⟨rfl, by simpa using h⟩), by omega, zab ?_⟩
    simp -implicitDefEqProofs only [go_sem]
    rfl
  ·simp -implicitDefEqProofs only [go_sem, List.getD_cons_zero, List.getD_cons_succ, List.length_cons, List.length_nil]
   refine ⟨fun h => ?_, fun h => ?_⟩
   ·rw [hv, if_pos hx]
   ·refine ⟨2, Or.inr (Or.inr ⟨rfl, hx, by simpa using h⟩), by omega, zab ?_⟩
    simp -implicitDefEqProofs only [go_sem]
    rfl
  ·simp -implicitDefEqProofs only [go_sem, List.length_cons, List.length_nil]
   rw [hv, if_pos hx, hy]
theorem zit (xs ys : List Tm) (hl : xs.length = ys.length) (H : ∀ x ∈ xs, ∀ y ∈ ys, FC Tryz.prog 39 [tmD x, tmD y] [iD (zcb x y)]) : FC Tryz.prog 94 [.one (tmS xs), .one (tmS ys), .one (.fn 39 [])] [iD (zcv xs ys)] := by
 refine zbw (fun hw => ?_) Tryz.call94
 have hm : xs.length <= 9223372036854775807 := by simpa [zee, wfT] using hw.1.1
 have hlt0 : ((xs.length : Int) < (ys.length : Int)) = False := eq_false (by omega)
 refine zap Tryz.call94 Tryz.func94 rfl (by kernel_rfl) (za2 (by kernel_rfl)) ?_
 simp -implicitDefEqProofs only [go_sem, Tryz.results94]
 refine zag (fun k : Nat => hd [(0, vT (tmS xs)), (1, vT (tmS ys)), (2, vT (.fn 39 [])), (11, vT (tmS xs)), (12, vI xs.length), (13, vI k)] [] []) (fun k => k <= xs.length /\ zcv xs ys = zcv (xs.drop k) (ys.drop k)) (fun k => xs.length - k) 0 (zab ?_) ⟨Nat.zero_le _, by simp⟩ ?_
 ·simp -implicitDefEqProofs only [go_sem]
 ·intro k ⟨hk, hr⟩
  by_cases hlt : k < xs.length
  ·have hk2 : k < ys.length := by omega
   have hk3 : ((ys.length : Int) <= (k : Int)) = False := eq_false (by omega)
   have HC := H xs[k] (List.getElem_mem hlt) ys[k] (List.getElem_mem hk2)
   rw [List.drop_eq_getElem_cons hlt, List.drop_eq_getElem_cons hk2, zcv] at hr
   generalize zcb xs[k] ys[k] = c at HC hr
   simp only [tmD, zaa xs[k], zaa ys[k]] at HC
   simp -implicitDefEqProofs only [go_sem, hlt, hk2, hk3, zah, zaa xs[k], zaa ys[k]]
   refine callF (HC) (by simp -implicitDefEqProofs only [go_sem]) ?_
   simp -implicitDefEqProofs only [go_sem]
   refine ⟨fun h => ?_, fun h => ?_⟩
   ·have : c ≠ 0 := by simpa using h
    unfold orE at hr
    rw [if_neg this] at hr
    rw [hr]
   ·have : c = 0 := by simpa using h
    unfold orE at hr
    rw [if_pos this] at hr
    refine ⟨k + 1, ⟨hlt, hr⟩, by omega, zab ?_⟩
    simp -implicitDefEqProofs only [go_sem]
    rw [zas (by omega)]
  ·rw [List.drop_of_length_le (by omega), List.drop_of_length_le (by omega), zcv] at hr
   rw [hr]
   simp -implicitDefEqProofs only [go_sem, hlt, hlt0]
theorem zm1 {a : Tm} (h : upT a = true) : 0 < a.name.length /\ ze9 (a.name.getD 0 0) = za3 a.name /\ ∀ x ∈ a.args, upT x = true := by
 rw [zue, Bool.and_eq_true, Bool.and_eq_true, decide_eq_true_eq, beq_iff_eq, List.all_eq_true] at h
 exact ⟨h.1.1, h.1.2, h.2⟩
set_option maxHeartbeats 1000000 in
theorem zgo (a b : Tm) (ha : upT a = true) (hb : upT b = true) (H : ∀ x ∈ a.args, ∀ y, upT y = true -> FC Tryz.prog 39 [tmD x, tmD y] [iD (zcb x y)]) : FC Tryz.prog 39 [tmD a, tmD b] [iD (zcb a b)] := by
 obtain ⟨na, ua, ra⟩ := zm1 ha
 obtain ⟨nb, ub, rb⟩ := zm1 hb
 have HV1 := zl8 a na
 have HV2 := zl8 b nb
 rw [ua] at HV1
 rw [ub] at HV2
 have hv := zin a b
 have HS := zx7 a.name b.name
 have HI := zoi (a.args.length : Int) (b.args.length : Int)
 have HO := zuq (zj0 a.name b.name) (zvz (a.args.length : Int) (b.args.length : Int))
 have hh : hdT a b = orE (zir (za3 a.name) (za3 b.name)) (orE (zj0 a.name b.name) (zvz (a.args.length : Int) (b.args.length : Int))) := by rw [zwi]; rfl
 rw [hh] at hv
 have hz : orE (zj0 a.name b.name) (zvz (a.args.length : Int) (b.args.length : Int)) = 0 -> a.args.length = b.args.length := fun h => by
  have h2 := (zwc.1 h).2
  unfold zvz at h2
  split at h2
  ·omega
  ·split at h2 <;> omega
 have HC := fun (h : a.args.length = b.args.length) => zit a.args b.args h fun x hx y hy => H x hx y (rb y hy)
 generalize zj0 a.name b.name = s at HS HO hv hz
 generalize zvz (a.args.length : Int) (b.args.length : Int) = z at HI HO hv hz
 generalize orE s z = r at HO hv hz
 generalize zcv a.args b.args = q at HC hv
 simp only [tmD, zaa a, zaa b] at HV1 HV2 ⊢
 generalize za3 a.name = x at HV1 hv
 generalize za3 b.name = y at HV2 hv
 cases x <;> cases y
 ·have hv : zcb a b = if r = 0 then q else r := hv
  refine zap Tryz.call39 Tryz.func39 rfl (by kernel_rfl) (za2 (by kernel_rfl)) ?_
  simp -implicitDefEqProofs only [go_sem, Tryz.results39]
  refine drawn (by kernel_rfl) ?_
  simp -implicitDefEqProofs only [go_sem]
  refine zaz (HV1) (by simp -implicitDefEqProofs only [go_sem]) ?_
  simp -implicitDefEqProofs only [go_sem]
  refine zaz (HV2) (by simp -implicitDefEqProofs only [go_sem]) ?_
  simp -implicitDefEqProofs only [go_sem]
  refine ⟨by kernel_rfl, ?_⟩
  refine drawn (by kernel_rfl) ?_
  simp -implicitDefEqProofs only [go_sem]
  refine zaz (HS) (by simp -implicitDefEqProofs only [go_sem]) ?_
  simp -implicitDefEqProofs only [go_sem]
  refine zaz (HI) (by simp -implicitDefEqProofs only [go_sem]) ?_
  simp -implicitDefEqProofs only [go_sem]
  refine znh (by simp -implicitDefEqProofs only [go_sem]) ?_
  simp -implicitDefEqProofs only [go_sem]
  refine zaz (HO) (by simp -implicitDefEqProofs only [go_sem]) ?_
  simp -implicitDefEqProofs only [go_sem]
  refine ⟨by kernel_rfl, fun h => ?_, fun h => ?_⟩
  ·rw [hv, if_neg (by simpa using h)]
  ·have h0 : r = 0 := by simpa using h
   rw [hv, if_pos h0]
   refine callF (HC (hz h0)) (by simp -implicitDefEqProofs only [go_sem]) ?_
   simp -implicitDefEqProofs only [go_sem]
 ·have hv : zcb a b = 1 := hv
  rw [hv]
  refine zap Tryz.call39 Tryz.func39 rfl (by kernel_rfl) (za2 (by kernel_rfl)) ?_
  simp -implicitDefEqProofs only [go_sem, Tryz.results39]
  refine drawn (by kernel_rfl) ?_
  simp -implicitDefEqProofs only [go_sem]
  refine zaz (HV1) (by simp -implicitDefEqProofs only [go_sem]) ?_
  simp -implicitDefEqProofs only [go_sem]
  refine zaz (HV2) (by simp -implicitDefEqProofs only [go_sem]) ?_
  simp -implicitDefEqProofs only [go_sem]
  kernel_rfl
 ·have hv : zcb a b = -1 := hv
  rw [hv]
  refine zap Tryz.call39 Tryz.func39 rfl (by kernel_rfl) (za2 (by kernel_rfl)) ?_
  simp -implicitDefEqProofs only [go_sem, Tryz.results39]
  refine drawn (by kernel_rfl) ?_
  simp -implicitDefEqProofs only [go_sem]
  refine zaz (HV1) (by simp -implicitDefEqProofs only [go_sem]) ?_
  simp -implicitDefEqProofs only [go_sem]
  refine zaz (HV2) (by simp -implicitDefEqProofs only [go_sem]) ?_
  simp -implicitDefEqProofs only [go_sem]
  kernel_rfl
 ·have hv : zcb a b = if r = 0 then q else r := hv
  refine zap Tryz.call39 Tryz.func39 rfl (by kernel_rfl) (za2 (by kernel_rfl)) ?_
  simp -implicitDefEqProofs only [go_sem, Tryz.results39]
  refine drawn (by kernel_rfl) ?_
  simp -implicitDefEqProofs only [go_sem]
  refine zaz (HV1) (by simp -implicitDefEqProofs only [go_sem]) ?_
  simp -implicitDefEqProofs only [go_sem]
  refine zaz (HV2) (by simp -implicitDefEqProofs only [go_sem]) ?_
  simp -implicitDefEqProofs only [go_sem]
  refine ⟨by kernel_rfl, ?_⟩
  refine drawn (by kernel_rfl) ?_
  simp -implicitDefEqProofs only [go_sem]
  refine zaz (HS) (by simp -implicitDefEqProofs only [go_sem]) ?_
  simp -implicitDefEqProofs only [go_sem]
  refine zaz (HI) (by simp -implicitDefEqProofs only [go_sem]) ?_
  simp -implicitDefEqProofs only [go_sem]
  refine znh (by simp -implicitDefEqProofs only [go_sem]) ?_
  simp -implicitDefEqProofs only [go_sem]
  refine zaz (HO) (by simp -implicitDefEqProofs only [go_sem]) ?_
  simp -implicitDefEqProofs only [go_sem]
  refine ⟨by kernel_rfl, fun h => ?_, fun h => ?_⟩
  ·rw [hv, if_neg (by simpa using h)]
  ·have h0 : r = 0 := by simpa using h
   rw [hv, if_pos h0]
   refine callF (HC (hz h0)) (by simp -implicitDefEqProofs only [go_sem]) ?_
   simp -implicitDefEqProofs only [go_sem]
theorem zdx : ∀ a b : Tm, upT a = true -> upT b = true -> FC Tryz.prog 39 [tmD a, tmD b] [iD (zcb a b)] := za9 fun n xs ih b ha hb => zgo (.mk n xs) b ha hb fun x hx y hy => ih x hx y ((zm1 ha).2.2 x hx) hy
theorem zuw (b : Bool) : FC Tryz.prog 169 [bD b] [iD (if b = true then 1 else 0)] := by
 cases b
 all_goals
  refine zap Tryz.call169 Tryz.func169 rfl (by kernel_rfl) (za2 (by kernel_rfl)) ?_
  simp -implicitDefEqProofs only [go_sem, Tryz.results169]
theorem zul (x y : Bool) : zvz (if x = true then 1 else 0) (if y = true then 1 else 0) = zir y x := by cases x <;> cases y <;> rfl
theorem ze3 (a b : Li) (ha : upT a.atom = true) (hb : upT b.atom = true) : FC Tryz.prog 124 [liD a, liD b] [iD (zot a b)] := by
 have HT := zdx a.atom b.atom ha hb
 have HF1 := zuw a.pos
 have HF2 := zuw b.pos
 have HI := zoi (if a.pos = true then 1 else 0) (if b.pos = true then 1 else 0)
 rw [zul] at HI
 have HO := zuq (zcb a.atom b.atom) (zir b.pos a.pos)
 unfold zot
 generalize zcb a.atom b.atom = t at HT HO ⊢
 generalize zir b.pos a.pos = z at HI HO ⊢
 generalize (if a.pos = true then (1 : Int) else 0) = f1 at HF1 HI
 generalize (if b.pos = true then (1 : Int) else 0) = f2 at HF2 HI
 simp only [liD, zal, tmD, zaa a.atom, zaa b.atom] at HT ⊢
 refine zap Tryz.call124 Tryz.func124 rfl (by kernel_rfl) (za2 (by kernel_rfl)) ?_
 simp -implicitDefEqProofs only [go_sem, Tryz.results124]
 refine drawn (by kernel_rfl) ?_
 simp -implicitDefEqProofs only [go_sem]
 refine zaz (HT) (by simp -implicitDefEqProofs only [go_sem]) ?_
 simp -implicitDefEqProofs only [go_sem]
 refine zaz (HF1) (by simp -implicitDefEqProofs only [go_sem]) ?_
 simp -implicitDefEqProofs only [go_sem]
 refine zaz (HF2) (by simp -implicitDefEqProofs only [go_sem]) ?_
 simp -implicitDefEqProofs only [go_sem]
 refine zaz (HI) (by simp -implicitDefEqProofs only [go_sem]) ?_
 simp -implicitDefEqProofs only [go_sem]
 refine znh (by simp -implicitDefEqProofs only [go_sem]) ?_
 simp -implicitDefEqProofs only [go_sem]
 refine zaz (HO) (by simp -implicitDefEqProofs only [go_sem]) ?_
 simp -implicitDefEqProofs only [go_sem]
 kernel_rfl
theorem zkr (a b : Li) : FC Tryz.prog 117 [liD a, liD b] [iD (zot a b)] := by
 have HT := zgp a.atom b.atom
 have hv : zot a b = if zcb a.atom b.atom = 0 then zir b.pos a.pos else zcb a.atom b.atom := rfl
 rw [hv]
 generalize zcb a.atom b.atom = t at HT ⊢
 simp only [liD, zal, tmD, zaa a.atom, zaa b.atom] at HT ⊢
 by_cases h : t = 0
 ·rw [if_pos h]
  subst h
  generalize a.pos = x
  generalize b.pos = y
  cases x <;> cases y
  all_goals
   refine zap Tryz.call117 Tryz.func117 rfl (by kernel_rfl) (za2 (by kernel_rfl)) ?_
   simp -implicitDefEqProofs only [go_sem, Tryz.results117]
   refine callF (HT) (by simp -implicitDefEqProofs only [go_sem]) ?_
   simp -implicitDefEqProofs only [go_sem]
   try rfl
 ·have h2 : (t != 0) = true := by simpa using h
  rw [if_neg h]
  refine zap Tryz.call117 Tryz.func117 rfl (by kernel_rfl) (za2 (by kernel_rfl)) ?_
  simp -implicitDefEqProofs only [go_sem, Tryz.results117]
  refine callF (HT) (by simp -implicitDefEqProofs only [go_sem, h2]) ?_
  simp -implicitDefEqProofs only [go_sem, h2]
theorem zfs (l : Li) (hw : l.wt <= 1048576) : FC Tryz.prog 123 [liD l] [bD l.atom.atomOk] := by
 have HA := zji l.atom (by have := l.wt_eq; omega)
 simp only [liD, zal, tmD, zaa l.atom] at HA ⊢
 refine zap Tryz.call123 Tryz.func123 rfl (by kernel_rfl) (za2 (by kernel_rfl)) ?_
 simp -implicitDefEqProofs only [go_sem, Tryz.results123]
 refine callF (HA) (by simp -implicitDefEqProofs only [go_sem]) ?_
 simp -implicitDefEqProofs only [go_sem]
theorem zhe {c : Cq} {l : Li} (h : l ∈ c.lits) : l.wt <= c.wt := by
 have h1 := c.wt_eq
 have h2 : zf1 c.lits = c.lits.length + (c.lits.map Li.wt).sum := rfl
 have := zb2 Li.wt c.lits l h
 omega
theorem zzi {ls : List Li} {k : Nat} (hk : k < ls.length) (h : ¬ (ls[k].atom.atomOk = true /\ (0 < k -> zot (ls[k - 1]'(by omega)) ls[k] < 0))) : dec (okc ls) = false := by
 cases hd : dec (okc ls)
 ·rfl
 ·exact absurd (zcw.1 hd k hk) h
def okb (ls : List Li) (n : Nat) : Prop := ∀ k (h : k < ls.length), k < n -> ls[k].atom.atomOk = true /\ (0 < k -> zot (ls[k - 1]'(by omega)) ls[k] < 0)
theorem zfy {ls : List Li} {k : Nat} (h : okb ls k) (hk : k < ls.length) (h1 : ls[k].atom.atomOk = true) (h2 : 0 < k -> zot (ls[k - 1]'(by omega)) ls[k] < 0) : okb ls (k + 1) := fun j hj hl => by
 by_cases e : j = k
 ·subst e; exact ⟨h1, h2⟩
 ·exact h j hj (by omega)
set_option maxHeartbeats 1000000 in
theorem zhb (c : Cq) (hw : c.wt <= 1048576) : FC Tryz.prog 71 [cqD c] [bD c.ok] := by
 refine zbw (fun hwf => ?_) Tryz.call71
 have hlw := fun l (h : l ∈ c.lits) => Nat.le_trans (zhe h) hw
 have hv : c.ok = (decide (c.lits.length <= 8) && dec (okc c.lits)) := rfl
 have hlen : c.lits.length <= 1048576 := by
  have h1 := c.wt_eq
  have h2 : zf1 c.lits = c.lits.length + (c.lits.map Li.wt).sum := rfl
  omega
 rw [hv]
 simp only [cqD, zav] at hwf ⊢
 generalize c.lits = ls at hlw hlen ⊢
 clear hv
 refine zap Tryz.call71 Tryz.func71 rfl (by kernel_rfl) (za2 (by kernel_rfl)) ?_
 simp -implicitDefEqProofs only [go_sem, Tryz.results71]
 refine zag (fun k : Nat => hd [(1, .one (.bx 1 0)), (6, vT (liS ls)), (7, vI ls.length), (8, vI k)] [(1, [.t (liS ls)])] []) (fun k => k <= ls.length /\ okb ls k) (fun k => ls.length - k) 0 (zab ?_) ⟨Nat.zero_le _, fun j _ h => by omega⟩ ?_
 ·simp -implicitDefEqProofs only [go_sem]
 ·intro k ⟨hk, hr⟩
  by_cases hlt : k < ls.length
  ·have HV := zfs ls[k] (hlw _ (List.getElem_mem hlt))
   have hno := fun h => zzi (ls := ls) hlt h
   cases ha : ls[k].atom.atomOk
   ·rw [ha] at HV
    rw [hno (fun h => by rw [ha] at h; cases h.1), Bool.and_false]
    simp only [liD, zal ls[k]] at HV
    simp -implicitDefEqProofs only [go_sem, hlt, zah, zal ls[k]]
    refine drawn (by kernel_rfl) ?_
    simp -implicitDefEqProofs only [go_sem, hlt]
    refine zaz (HV) (by simp -implicitDefEqProofs only [go_sem]) ?_
    simp -implicitDefEqProofs only [go_sem]
    kernel_rfl
   ·rw [ha] at HV
    by_cases h0 : k = 0
    ·subst h0
     have hlz : ((0 : Int) < (ls.length : Int)) = True := eq_true (by omega)
     simp only [liD, zal ls[0]] at HV
     simp -implicitDefEqProofs only [go_sem, hlt, hlz, zah, zal ls[0]]
     refine drawn (by kernel_rfl) ?_
     simp -implicitDefEqProofs only [go_sem, hlt, hlz]
     refine zaz (HV) (by simp -implicitDefEqProofs only [go_sem]) ?_
     simp -implicitDefEqProofs only [go_sem]
     refine ⟨by kernel_rfl, 1, ⟨hlt, zfy hr hlt ha fun h => by omega⟩, by omega, zab ?_⟩
     simp -implicitDefEqProofs only [go_sem]
     rfl
    ·obtain ⟨j, rfl⟩ : ∃ j, k = j + 1 := ⟨k - 1, by omega⟩
     have hj : j < ls.length := by omega
     have hkp : ((0 : Int) < ((j + 1 : Nat) : Int)) = True := eq_true (by omega)
     have hw1 : IntKind.i64.wrap (((j + 1 : Nat) : Int) - 1) = (j : Int) := by rw [zbr (by omega) (by omega)]; omega
     have hpa := (hr j hj (by omega)).1
     have HC := ze3 ls[j] ls[j + 1] (zmr hpa) (zmr ha)
     have hno2 : 0 <= zot ls[j] ls[j + 1] -> dec (okc ls) = false := fun h => hno fun h2 => by have := h2.2 (by omega); simp only [Nat.add_sub_cancel] at this; omega
     have hyes : zot ls[j] ls[j + 1] < 0 -> okb ls (j + 1 + 1) := fun h => zfy hr hlt ha fun _ => by simpa using h
     generalize zot ls[j] ls[j + 1] = q at HC hno2 hyes
     simp only [liD, zal ls[j], zal ls[j + 1]] at HV HC
     simp -implicitDefEqProofs only [go_sem, hlt, zah, zal ls[j + 1]]
     refine drawn (by kernel_rfl) ?_
     simp -implicitDefEqProofs only [go_sem, hlt, hkp, hw1, hj, zah, zal ls[j]]
     refine zaz (HV) (by simp -implicitDefEqProofs only [go_sem, hkp, hw1, hj, zah, zal ls[j]]) ?_
     simp -implicitDefEqProofs only [go_sem, hkp, hw1, hj, zah, zal ls[j]]
     refine zop (HC) (by simp -implicitDefEqProofs only [go_sem]) ?_
     simp -implicitDefEqProofs only [go_sem]
     refine ⟨by kernel_rfl, fun h => ?_, fun h => ?_⟩
     ·rw [hno2 (by simpa using h), Bool.and_false]
     ·refine ⟨j + 1 + 1, ⟨hlt, hyes (by simpa using h)⟩, by omega, zab ?_⟩
      simp -implicitDefEqProofs only [go_sem]
      rw [zas (by omega)]
  ·have hd : dec (okc ls) = true := zcw.2 fun j hj => hr j hj (by omega)
   simp -implicitDefEqProofs only [go_sem, hlt, hd]
   simp
   omega
end Go.Proofs.YtnkagnjiljjpcaaGreat
namespace Go.Proofs.YtnkagnjiljjpcaaGreat
set_option linter.unusedSimpArgs false
set_option linter.unusedVariables false
set_option linter.unusedSectionVars false
set_option maxRecDepth 4000
open Go.RowKit
set_option maxHeartbeats 1000000 in
theorem zw2 (c : Cq) (hw : c.wt <= 1048576) : FC Tryz.prog 66 [cqD c] [bD c.ok] := by
 have hlw := fun l (h : l ∈ c.lits) => Nat.le_trans (zhe h) hw
 have hv : c.ok = (decide (c.lits.length <= 8) && dec (okc c.lits)) := rfl
 rw [hv]
 simp only [cqD, zav]
 generalize c.lits = ls at hlw ⊢
 clear hv
 by_cases hl8 : ls.length <= 8
 ·have h8 : ((8 : Int) < (ls.length : Int)) = False := eq_false (by omega)
  rw [decide_eq_true hl8, Bool.true_and]
  refine zap Tryz.call66 Tryz.func66 rfl (by kernel_rfl) (za2 (by kernel_rfl)) ?_
  simp -implicitDefEqProofs only [go_sem, Tryz.results66, h8]
  refine zag (fun k : Nat => hd [(1, .one (.bx 1 0)), (3, vI k)] [(1, [.t (liS ls)])] []) (fun k => k <= ls.length /\ okb ls k) (fun k => ls.length - k) 0 (zab ?_) ⟨Nat.zero_le _, fun j _ h => by omega⟩ ?_
  ·simp -implicitDefEqProofs only [go_sem]
  ·intro k ⟨hk, hr⟩
   by_cases hlt : k < ls.length
   ·have HV := zxq ls[k].atom (by have h1 := hlw _ (List.getElem_mem hlt); have h2 := ls[k].wt_eq; omega)
    have hno := fun h => zzi (ls := ls) hlt h
    cases ha : ls[k].atom.atomOk
    ·rw [ha] at HV
     rw [hno (fun h => by rw [ha] at h; cases h.1)]
     simp only [tmD, zaa ls[k].atom] at HV
     simp -implicitDefEqProofs only [go_sem, hlt]
     refine drawn (by kernel_rfl) ?_
     simp -implicitDefEqProofs only [go_sem, hlt, zah, zal ls[k]]
     refine zaz (HV) (by simp -implicitDefEqProofs only [go_sem]) ?_
     simp -implicitDefEqProofs only [go_sem]
     kernel_rfl
    ·rw [ha] at HV
     by_cases h0 : k = 0
     ·subst h0
      have hlz : ((0 : Int) < (ls.length : Int)) = True := eq_true (by omega)
      simp only [tmD, zaa ls[0].atom] at HV
      simp -implicitDefEqProofs only [go_sem, hlt, hlz]
      refine drawn (by kernel_rfl) ?_
      simp -implicitDefEqProofs only [go_sem, hlt, hlz, zah, zal ls[0]]
      refine zaz (HV) (by simp -implicitDefEqProofs only [go_sem]) ?_
      simp -implicitDefEqProofs only [go_sem]
      refine ⟨by kernel_rfl, 1, ⟨hlt, zfy hr hlt ha fun h => by omega⟩, by omega, zab ?_⟩
      simp -implicitDefEqProofs only [go_sem]
      rfl
     ·obtain ⟨j, rfl⟩ : ∃ j, k = j + 1 := ⟨k - 1, by omega⟩
      have hj : j < ls.length := by omega
      have hkp : ((0 : Int) < ((j + 1 : Nat) : Int)) = True := eq_true (by omega)
      have hw1 : IntKind.i64.wrap (((j + 1 : Nat) : Int) - 1) = (j : Int) := by rw [zbr (by omega) (by omega)]; omega
      have hpa := (hr j hj (by omega)).1
      have HC := zkr ls[j] ls[j + 1]
      have hno2 : 0 <= zot ls[j] ls[j + 1] -> dec (okc ls) = false := fun h => hno fun h2 => by have := h2.2 (by omega); simp only [Nat.add_sub_cancel] at this; omega
      have hyes : zot ls[j] ls[j + 1] < 0 -> okb ls (j + 1 + 1) := fun h => zfy hr hlt ha fun _ => by simpa using h
      generalize zot ls[j] ls[j + 1] = q at HC hno2 hyes
      simp only [tmD, zaa ls[j + 1].atom] at HV
      simp only [liD, zal ls[j], zal ls[j + 1]] at HC
      simp -implicitDefEqProofs only [go_sem, hlt]
      refine drawn (by kernel_rfl) ?_
      simp -implicitDefEqProofs only [go_sem, hlt, hkp, hw1, hj, zah, zal ls[j], zal ls[j + 1]]
      refine zaz (HV) (by simp -implicitDefEqProofs only [go_sem, hlt, hkp, hw1, hj, zah, zal ls[j], zal ls[j + 1]]) ?_
      simp -implicitDefEqProofs only [go_sem, hlt, hkp, hw1, hj, zah, zal ls[j], zal ls[j + 1]]
      refine zop (HC) (by simp -implicitDefEqProofs only [go_sem]) ?_
      simp -implicitDefEqProofs only [go_sem]
      refine ⟨by kernel_rfl, fun h => ?_, fun h => ?_⟩
      ·rw [hno2 (by simpa using h)]
      ·refine ⟨j + 1 + 1, ⟨hlt, hyes (by simpa using h)⟩, by omega, zab ?_⟩
       simp -implicitDefEqProofs only [go_sem]
       rw [zas (by omega)]
   ·have hd1 : dec (okc ls) = true := zcw.2 fun j hj => hr j hj (by omega)
    simp -implicitDefEqProofs only [go_sem, hlt, hd1]
 ·have h8 : ((8 : Int) < (ls.length : Int)) = True := eq_true (by omega)
  rw [decide_eq_false hl8, Bool.false_and]
  refine zap Tryz.call66 Tryz.func66 rfl (by kernel_rfl) (za2 (by kernel_rfl)) ?_
  simp -implicitDefEqProofs only [go_sem, Tryz.results66, h8]
def Cq.vi (c : Cq) : List Str := (c.lits.map fun l => voI l.atom).flatten
theorem vi_vo {c : Cq} (h : c.ok = true) : c.vi = c.vo := by
 unfold Cq.vi Cq.vo
 rw [List.map_congr_left fun l hl => (zvs (zmo h l hl)).1]
theorem zz0 (c : Cq) : c.vo.length <= c.wt := by
 have h := zfx (fun l : Li => voS l.atom) (fun l => 1 + l.wt) c.lits fun l _ => by
  have h1 := zxj l.atom
  have h2 := l.wt_eq
  omega
 rw [zjw] at h
 have h1 := c.wt_eq
 have h2 : zf1 c.lits = c.lits.length + (c.lits.map Li.wt).sum := rfl
 unfold Cq.vo
 omega
theorem zqp (f : Li -> List Str) (ls : List Li) (k : Nat) (h : k < ls.length) : zbj (zbj [] ((ls.take k).map f).flatten) (f ls[k]) = zbj [] ((ls.take (k + 1)).map f).flatten := by
 rw [zcq f ls k h, zg6]
theorem zpv (f : Li -> List Str) (ls : List Li) (k : Nat) (h : k < ls.length) : zb0 (zb0 [] ((ls.take k).map f).flatten) (f ls[k]) = zb0 [] ((ls.take (k + 1)).map f).flatten := by
 rw [zcq f ls k h, zkw]
theorem zid (l : List Str) : (zbj [] l).length <= l.length := by
 have := zeh l []
 simpa using this
theorem zqc (l : List Str) : (zb0 [] l).length <= l.length := by rw [<- znk, zlt]; exact zid l
set_option maxHeartbeats 1000000 in
theorem zsw (c : Cq) (hc : c.ok = true) (hw : c.wt <= 1048576) : FC Tryz.prog 84 [cqD c] [.one (zhu (zbj [] c.vi))] := by
 have hn := fun l (h : l ∈ c.lits) => (zvs (zmo hc l h)).2
 have hlw := fun l (h : l ∈ c.lits) => Nat.le_trans (zhe h) hw
 have hlen := zz0 c
 rw [<- vi_vo hc] at hlen
 have hv : c.vi = (c.lits.map fun l => voI l.atom).flatten := rfl
 rw [hv] at hlen ⊢
 have hll : c.lits.length <= 1048576 := by
  have h1 := c.wt_eq
  have h2 : zf1 c.lits = c.lits.length + (c.lits.map Li.wt).sum := rfl
  omega
 simp only [cqD, zav]
 generalize c.lits = ls at hn hlw hlen hll ⊢
 refine zht Tryz.call84 Tryz.func84 rfl (by kernel_rfl) (za2 (by kernel_rfl)) ?_
 simp -implicitDefEqProofs only [go_sem, Tryz.results84]
 refine zcf (by simp -implicitDefEqProofs only [go_sem]) ?_
 simp -implicitDefEqProofs only [go_sem]
 refine zag (fun k : Nat => hd [(3, .one (.ow 192 0)), (8, .one (.rn (liS ls))), (9, vI ls.length), (10, vI k)] [] [(192, ⟨true, 1, (zbj [] ((ls.take k).map fun l => voI l.atom).flatten).map fun s => [T.str s], 0, true⟩)]) (fun k => k <= ls.length) (fun k => ls.length - k) 0 (zab ?_) (Nat.zero_le _) ?_
 ·simp -implicitDefEqProofs only [go_sem]
  rfl
 ·intro k hk
  by_cases hlt : k < ls.length
  ·have h1 := zbv (fun l : Li => voI l.atom) ls k hlt
   have h2 := zid ((ls.take k).map fun l => voI l.atom).flatten
   have h3 := hlw _ (List.getElem_mem hlt)
   have h4 := ls[k].wt_eq
   have HC := ztx ls[k].atom (hn _ (List.getElem_mem hlt)) (by omega) (zbj [] ((ls.take k).map fun l => voI l.atom).flatten) (by omega)
   rw [zqp (fun l : Li => voI l.atom) ls k hlt] at HC
   simp only [tmD, zaa ls[k].atom] at HC
   simp -implicitDefEqProofs only [go_sem, hlt, zah, zal ls[k]]
   refine zhh [8, 9, 10] [14, 16] [] (HC) (by simp -implicitDefEqProofs only [go_sem]) (by simp -implicitDefEqProofs only [go_sem]) (by simp -implicitDefEqProofs only [go_sem]) (by simp -implicitDefEqProofs only [go_sem]) ?_
   simp -implicitDefEqProofs only [go_sem]
   refine ⟨k + 1, hlt, by omega, zdm 192 544 ?_⟩
   simp -implicitDefEqProofs only [go_sem]
   rw [zas (by omega)]
  ·have ht : ls.take k = ls := List.take_of_length_le (by omega)
   simp -implicitDefEqProofs only [go_sem, hlt, ht]
set_option maxHeartbeats 1000000 in
theorem zqk (c : Cq) (hw : c.wt <= 1048576) : FC Tryz.prog 82 [cqD c] [.one (zhu (zb0 [] c.vo))] := by
 have hlw := fun l (h : l ∈ c.lits) => Nat.le_trans (zhe h) hw
 have hlen := zz0 c
 have hv : c.vo = (c.lits.map fun l => voS l.atom).flatten := rfl
 rw [hv] at hlen ⊢
 have hll : c.lits.length <= 1048576 := by
  have h1 := c.wt_eq
  have h2 : zf1 c.lits = c.lits.length + (c.lits.map Li.wt).sum := rfl
  omega
 simp only [cqD, zav]
 generalize c.lits = ls at hlw hlen hll ⊢
 refine zht Tryz.call82 Tryz.func82 rfl (by kernel_rfl) (za2 (by kernel_rfl)) ?_
 simp -implicitDefEqProofs only [go_sem, Tryz.results82]
 refine zcf (by simp -implicitDefEqProofs only [go_sem]) ?_
 simp -implicitDefEqProofs only [go_sem]
 refine zag (fun k : Nat => hd [(1, .one (.bx 1 0)), (3, .one (.ow 160 0)), (4, vI k)] [(1, [.rn (liS ls)])] [(160, ⟨true, 1, (zb0 [] ((ls.take k).map fun l => voS l.atom).flatten).map fun s => [T.str s], 0, true⟩)]) (fun k => k <= ls.length) (fun k => ls.length - k) 0 (zab ?_) (Nat.zero_le _) ?_
 ·simp -implicitDefEqProofs only [go_sem]
  rfl
 ·intro k hk
  by_cases hlt : k < ls.length
  ·have h1 := zbv (fun l : Li => voS l.atom) ls k hlt
   have h2 := zqc ((ls.take k).map fun l => voS l.atom).flatten
   have h3 := hlw _ (List.getElem_mem hlt)
   have h4 := ls[k].wt_eq
   have HC := zv2 ls[k].atom (by omega) (zb0 [] ((ls.take k).map fun l => voS l.atom).flatten) (by omega)
   rw [zpv (fun l : Li => voS l.atom) ls k hlt] at HC
   simp only [tmD, zaa ls[k].atom] at HC
   simp -implicitDefEqProofs only [go_sem, hlt, zah, zal ls[k]]
   refine zhh [1, 4] [13, 19] [] (HC) (by simp -implicitDefEqProofs only [go_sem]) (by simp -implicitDefEqProofs only [go_sem]) (by simp -implicitDefEqProofs only [go_sem]) (by simp -implicitDefEqProofs only [go_sem]) ?_
   simp -implicitDefEqProofs only [go_sem]
   refine ⟨k + 1, hlt, by omega, zdm 160 640 ?_⟩
   simp -implicitDefEqProofs only [go_sem]
   rw [zas (by omega)]
  ·have ht : ls.take k = ls := List.take_of_length_le (by omega)
   simp -implicitDefEqProofs only [go_sem, hlt, ht]
theorem zft (c : Cq) (hw : c.wt <= 1048576) : FC Tryz.prog 36 [cqD c] [bD (grC c)] := by
 have HI := zhb c hw
 have hv : grC c = (c.ok && decide (c.vo = [])) := rfl
 rw [hv]
 cases hg : c.ok
 ·rw [hg] at HI
  rw [Bool.false_and]
  simp only [cqD, zav] at HI ⊢
  refine zap Tryz.call36 Tryz.func36 rfl (by kernel_rfl) (za2 (by kernel_rfl)) ?_
  simp -implicitDefEqProofs only [go_sem, Tryz.results36]
  refine callF (HI) (by simp -implicitDefEqProofs only [go_sem]) ?_
  simp -implicitDefEqProofs only [go_sem]
 ·rw [hg] at HI
  rw [Bool.true_and]
  have HC := zsw c hg hw
  have hd : (((zbj [] c.vi).length : Int) == 0) = decide (c.vo = []) := by
   rw [Bool.eq_iff_iff, beq_iff_eq, decide_eq_true_eq, <- vi_vo hg, <- zkf]
   omega
  generalize zbj [] c.vi = L at HC hd
  simp only [cqD, zav] at HI HC ⊢
  refine zap Tryz.call36 Tryz.func36 rfl (by kernel_rfl) (za2 (by kernel_rfl)) ?_
  simp -implicitDefEqProofs only [go_sem, Tryz.results36]
  refine callF (HI) (by simp -implicitDefEqProofs only [go_sem]) ?_
  simp -implicitDefEqProofs only [go_sem]
  refine callF (HC) (by simp -implicitDefEqProofs only [go_sem, hd]) ?_
  simp -implicitDefEqProofs only [go_sem, hd]
theorem zk5 (c : Cq) (hw : c.wt <= 1048576) : FC Tryz.prog 35 [cqD c] [bD (!grC c)] := by
 have HI := zft c hw
 simp only [cqD, zav] at HI ⊢
 refine zap Tryz.call35 Tryz.func35 rfl (by kernel_rfl) (za2 (by kernel_rfl)) ?_
 simp -implicitDefEqProofs only [go_sem, Tryz.results35]
 refine callF (HI) (by simp -implicitDefEqProofs only [go_sem]) ?_
 simp -implicitDefEqProofs only [go_sem]
end Go.Proofs.YtnkagnjiljjpcaaGreat
namespace Go.Proofs.YtnkagnjiljjpcaaGreat
set_option linter.unusedSimpArgs false
set_option linter.unusedVariables false
set_option linter.unusedSectionVars false
set_option maxRecDepth 4000
open Go.RowKit Go.Sort Go.Proofs
section
variable {A : Type} {c : A -> List T} {G : A -> Prop} {w w' : World} {b : Nat}
structure El (c : A -> List T) (G : A -> Prop) (w : World) (b : Nat) where
 x : A
 vs : List Value
 fp : List Nat
 own : zaq w (c x) vs fp
 nb : b ∉ fp
 good : G x
theorem zzt {cells : Array Value} {sz : Nat} : ∀ {xs : List A} {o : Nat} {fps : List Nat}, zae w cells o sz (xs.map c) fps -> b ∉ fps -> (∀ x ∈ xs, G x) →
  ∃ es : List (El c G w b), es.map El.x = xs /\ (es.map El.fp).flatten = fps /\ (∀ e ∈ es, e.vs.length = sz) /\ ∀ i (h : i < es.length) r u, es[i].vs[r]? = some u -> cells[o + i * sz + r]? = some u
 | [], o, fps, h, _, _ => by
  unfold zae at h
  subst h
  exact ⟨[], rfl, rfl, fun e he => absurd he (by simp), fun i h => absurd h (by simp)⟩
 | x :: xs, o, fps, h, hb, hG => by
  rw [List.map_cons] at h
  unfold zae at h
  obtain ⟨hl, f1, f2, rfl, h1, h2⟩ := h
  obtain ⟨vs, k1, k2, k3⟩ := zaw.vals h1
  obtain ⟨es, e1, e2, e3, e4⟩ := zzt h2 (fun hx => hb (by simp [hx])) fun y hy => hG y (by simp [hy])
  refine ⟨⟨x, vs, f1, k3, fun hx => hb (by simp [hx]), hG x (by simp)⟩ :: es, by simp [e1], by simp [e2], fun e he => ?_, fun i h r u hu => ?_⟩
  ·rcases List.mem_cons.1 he with rfl | he
   ·exact k1.trans hl
   ·exact e3 e he
  ·cases i with
   | zero => simpa using k2 r u hu
   | succ i =>
    have := e4 i (by simpa using h) r u (by simpa using hu)
    rwa [show o + (i + 1) * sz + r = o + sz + i * sz + r from by rw [Nat.add_mul]; omega]
theorem zgk {cells : Array Value} {sz : Nat} : ∀ {es : List (El c G w b)} {o : Nat}, (∀ e ∈ es, (c e.x).length = sz) -> (∀ i (h : i < es.length) r u, es[i].vs[r]? = some u -> cells[o + i * sz + r]? = some u) -> (∀ k, k ∈ (es.map El.fp).flatten -> w'.heap[k]? = w.heap[k]?) →
  zae w' cells o sz ((es.map El.x).map c) (es.map El.fp).flatten
 | [], o, _, _, _ => by simp only [List.map_nil, List.flatten_nil]; unfold zae; rfl
 | e :: es, o, hl, hc, hk => by
  simp only [List.map_cons, List.flatten_cons] at hk ⊢
  unfold zae
  refine ⟨hl e (by simp), e.fp, _, rfl, zaw.of_vals (e.own.keep fun k hk' => hk k (by simp [hk'])) fun j u hu => ?_, zgk (fun e' he => hl e' (by simp [he])) (fun i h r u hu => ?_) fun k hk' => hk k (by simp only [List.mem_append]; exact Or.inr hk')⟩
  ·have := hc 0 (by simp) j u hu
   simpa using this
  ·have := hc (i + 1) (by simpa using h) r u (by simpa using hu)
   rwa [show o + (i + 1) * sz + r = o + sz + i * sz + r from by rw [Nat.add_mul]; omega] at this
theorem zar.oneC {t : T} {v : Value} {fp : List Nat} (h : zar w t v fp) : v.oneCell' = true := by
 cases t <;> unfold zar at h
 case int => rw [h.1]; rfl
 case bool => rw [h.1]; rfl
 case str => rw [h.1]; rfl
 case sl => obtain ⟨ao, cap, rfl, _⟩ := h; rfl
 case vs => rw [h.1]; rfl
 case pin u t => exact zar.oneC h.2
 all_goals exact h.elim
theorem zaq.oneC : ∀ {cs : List T} {vs : List Value} {fp : List Nat}, zaq w cs vs fp -> ∀ v ∈ vs, v.oneCell' = true
 | [], vs, fp, h, v, hv => by rw [h.1] at hv; cases hv
 | t :: cs, vs, fp, h, v, hv => by
  obtain ⟨v1, vs', f1, f2, rfl, rfl, h1, h2⟩ := h
  rcases List.mem_cons.1 hv with rfl | hv
  ·exact h1.oneC
  ·exact zaq.oneC h2 v hv
theorem ztq [Inhabited (El c G w b)] {cells : Array Value} {ty : TypeId} {sz : Nat} {es : List (El c G w b)} (hb : w.heap[b]? = some (.cells cells ty (0, 0))) (hl : ∀ e ∈ es, e.vs.length = sz) (hc : ∀ i (h : i < es.length) r u, es[i].vs[r]? = some u -> cells[0 + i * sz + r]? = some u) :
    HoldsK El.vs sz w b 0 es.toArray := by
  intro j hj
  rw [size_flatK] at hj
  have hj : j < es.length * sz := by simpa using hj
  have hs : 0 < sz := by rcases Nat.eq_zero_or_pos sz with h | h
                         · rw [h] at hj; omega
                         · exact h
  have hi : j / sz < es.length := Nat.div_lt_of_lt_mul (by rw [Nat.mul_comm]; exact hj)
  have hr : j % sz < sz := Nat.mod_lt _ hs
  have hd : 0 + j / sz * sz + j % sz = 0 + j := by have := Nat.div_add_mod' j sz; omega
  have he : es[j / sz].vs.length = sz := hl _ (List.getElem_mem hi)
  have h1 := hc (j / sz) hi (j % sz) _ (List.getElem?_eq_getElem (by rw [he]; exact hr))
  rw [hd] at h1
  refine ⟨?_, by simp [World.frozen?, hb]⟩
  rw [get_flatK _ _ _ _ (by simpa using hj)]
  simp only [World.cell?, hb, Option.isSome_none, Bool.false_eq_true, if_false]
  rw [h1]
  simp only [id, Option.some.injEq]
  rw [getElem!_pos es.toArray (j / sz) (by simpa using hi), List.getElem_toArray, getElem!_pos _ _ (by rw [he]; exact hr)]
theorem zli {B : Type} [Inhabited B] {enc : B -> List Value} {k n : Nat} {os : Array Obj} {cur : Array Value} {e : TypeId} {fr : Nat × Nat} (d : Array B) (hb : w.heap[b]? = some (.cells cur e fr)) :
  (sortWorldK enc k w b 0 n d os).heap[b]? = some (.cells (putCells id 0 (flatK enc k d) cur) e fr) := by
 have hg : b < w.heap.size := (Array.getElem?_eq_some_iff.1 hb).1
 unfold sortWorldK putRowK
 rw [heap_grow_old _ _ (by simpa [putRow, mapBlock] using hg)]
 simp [putRow, mapBlock, Sort.ahead, Array.getElem?_modify, hb, onCells]
theorem zb7 {B : Type} [Inhabited B] {enc : B -> List Value} {k n : Nat} {os : Array Obj} (d : Array B) : w.grownBy (sortWorldK enc k w b 0 n d os) (some b) := by
 unfold sortWorldK putRowK
 refine ⟨rfl, rfl, rfl, by simp, fun k hk hne => ?_⟩
 rw [heap_grow_old _ _ (by simpa [putRow, mapBlock] using hk)]
 have : b ≠ k := fun e => hne (by rw [e])
 simp [putRow, mapBlock, Sort.ahead, Array.getElem?_modify, this]
theorem zu5 [Inhabited (El c G w b)] {cur : Array Value} {sz : Nat} {es : List (El c G w b)} (hl : ∀ e ∈ es, e.vs.length = sz) (hn : es.length * sz <= cur.size) (i : Nat) (h : i < es.length) (r : Nat) (u : Value) (hu : es[i].vs[r]? = some u) :
  (putCells id 0 (flatK El.vs sz es.toArray) cur)[0 + i * sz + r]? = some u := by
 have he : es[i].vs.length = sz := hl _ (List.getElem_mem h)
 obtain ⟨hr, hu⟩ := List.getElem?_eq_some_iff.1 hu
 have hs : 0 < sz := by omega
 have hb : i * sz + r < es.length * sz := by
  have := Nat.mul_le_mul_right sz (show i + 1 <= es.length from h)
  rw [Nat.add_mul] at this
  omega
 have h0 : 0 + i * sz + r = i * sz + r := by omega
 have hd : (i * sz + r) / sz = i := by rw [Nat.add_comm, Nat.add_mul_div_right _ _ hs, Nat.div_eq_of_lt (by omega), Nat.zero_add]
 have hm : (i * sz + r) % sz = r := by rw [Nat.add_comm, Nat.add_mul_mod_self_right, Nat.mod_eq_of_lt (by omega)]
 rw [h0]
 have hlt : i * sz + r < cur.size := by omega
 simp only [putCells, Array.getElem?_mapIdx, Array.getElem?_eq_getElem hlt, Option.map_some, Option.some.injEq]
 rw [if_pos ⟨by omega, by rw [size_flatK]; simpa using hb⟩, Nat.sub_zero, get_flatK _ _ _ _ (by simpa using hb), hd, hm, getElem!_pos es.toArray i (by simpa using h), List.getElem_toArray, getElem!_pos es[i].vs r hr]
 exact hu
end
end Go.Proofs.YtnkagnjiljjpcaaGreat
namespace Go.Proofs.YtnkagnjiljjpcaaGreat
set_option linter.unusedSimpArgs false
set_option linter.unusedVariables false
set_option linter.unusedSectionVars false
set_option maxRecDepth 4000
open Go
def RwD {α : Type} : Result α -> World
 | .ok _ w => w
 | .halt _ w => w
theorem far_dr {P : Program} {w w' : World} {a : Addr} {v : Value} {b : Bool} {l : List Addr} (h : w.farStore P a v b = .ok (w', l)) : w'.drawn = w.drawn := by
 unfold World.farStore at h
 split at h
 ·split at h
  ·rename_i r hr
   cases h
   unfold World.viewStore at hr
   simp only [bind, Except.bind, pure, Except.pure, throw, throwThe, MonadExceptOf.throw] at hr
   repeat' first
    | (cases hr; done)
    | (cases hr; rfl)
    | split at hr
  ·cases h
 ·cases h
theorem zse {α : Type} : ∀ (s : Ask α) (w : World), w.drawn <= (w.ask s).2.drawn
 | .done _, w => Nat.le_refl _
 | .ask what range k, w => by
  unfold World.ask
  simp only []
  split
  ·exact zse _ w
  ·exact Nat.le_trans (Nat.le_succ _) (zse _ { w with drawn := w.drawn + 1 })
theorem sys_dr (w : World) (c : Sys) : w.drawn <= (w.sys c).2.drawn := by
 have h := zse (Kernel.perform c w.os) w
 unfold World.sys
 split
 ·exact Nat.le_refl _
 ·rename_i e
  rw [e] at h
  exact h
theorem zvg (w : World) (a : Addr) (n : Nat) : (w.freeze a n).drawn = w.drawn := by unfold World.freeze; split <;> rfl
theorem znr {α : Type} (P : Program) (s : Sem α) : ∀ w, w.drawn <= (RwD (s.run P w)).drawn := by
  induction s with
  | pure a => exact fun w => Nat.le_refl _
  | load m a k ih =>
    intro w
    simp only [Sem.run]
    split
    · exact ih _ _
    · split
      · exact ih _ _
      · exact Nat.le_refl _
  | store m a v k ih =>
    intro w
    cases v <;> simp only [Sem.run]
    all_goals first
      | exact Nat.le_refl _
      | (split
         · split
           · exact Nat.le_refl _
           · exact Nat.le_trans (Nat.le_of_eq rfl) (ih (w.setCell a _))
         · split
           · rename_i w' l h
             have := ih w'
             rw [far_dr h] at this
             exact this
           · exact Nat.le_refl _)
  | new o k ih => exact fun w => ih _ { w with heap := w.heap.push o }
  | shape r k ih => exact fun w => ih _ w
  | freeze a n k ih => exact fun w => by have := ih (w.freeze a n); rw [zvg] at this; exact this
  | frozen a k ih => exact fun w => ih _ w
  | getObj r k ih =>
    intro w
    simp only [Sem.run]
    split
    · exact Nat.le_refl _
    · exact ih _ _
    · exact Nat.le_refl _
  | setObj r o k ih =>
    intro w
    simp only [Sem.run]
    split
    · exact Nat.le_refl _
    · exact ih { w with heap := w.heap.setIfInBounds r o }
    · exact Nat.le_refl _
  | choose q k ih =>
    intro w
    simp only [Sem.run]
    split
    · exact ih _ w
    · exact Nat.le_trans (Nat.le_succ _) (ih _ { w with drawn := w.drawn + 1 })
  | sys c k ih => exact fun w => Nat.le_trans (sys_dr w c) (ih _ _)
  | program k ih => exact fun w => ih _ w
  | mark m k ih => exact fun w => ih w
  | halt h => exact fun w => Nat.le_refl _
theorem za5 {α : Type} {P : Program} {s : Sem α} {w w' : World} {a : α} (h : s.run P w = .ok a w') : w.drawn <= w'.drawn := by
 have := znr P s w
 rw [h] at this
 exact this
theorem zd6 {α : Type} {P : Program} {s : Sem α} {w w' : World} {x : Halt} (h : s.run P w = .halt x w') : w.drawn <= w'.drawn := by
 have := znr P s w
 rw [h] at this
 exact this
def GdD (w : World) : Go.GStep -> Prop
 | .go _ w' _ => w.drawn <= w'.drawn
 | .comm _ _ _ _ w' _ => w.drawn <= w'.drawn
 | .spawn _ _ w' _ => w.drawn <= w'.drawn
 | .count _ w' _ => w.drawn <= w'.drawn
 | .timer _ _ w' _ => w.drawn <= w'.drawn
 | .alone _ _ w' _ => w.drawn <= w'.drawn
 | .newcoro _ _ _ w' _ => w.drawn <= w'.drawn
 | .coroswitch _ _ _ w' _ => w.drawn <= w'.drawn
 | .collect _ w' _ => w.drawn <= w'.drawn
 | .watch _ w' _ => w.drawn <= w'.drawn
 | .ended _ _ _ => True
theorem GdD.after {w : World} {es : Array Event} {s : Go.GStep} (h : GdD w s) : GdD w (Go.GStep.after es s) := by
 cases s <;> exact h
theorem GdD.mono {w w1 : World} {s : Go.GStep} (h1 : w.drawn <= w1.drawn) (h : GdD w1 s) : GdD w s := by
 cases s <;> first | exact Nat.le_trans h1 h | trivial
theorem zob (fr : Frame) (a : List ByteArray) (m : String) (b : Bool) (w : World) : GdD w (dieOf fr a m b w) := Nat.le_refl _
theorem zcz (fr : Frame) (m : String) (w : World) : GdD w (endThrow fr m w) := zob _ _ _ _ _
theorem zdu (P : Program) (fr : Frame) (v : Value) (w : World) : GdD w (endPrinting P fr v w) := by
 unfold endPrinting
 simp only []
 split
 ·exact zcz _ _ _
 ·trivial
theorem zpp (w w1 : World) (fd : Nat) (t : ByteArray) (o : Outcome) : GdD w (endWith w1 fd t o) := by
 unfold endWith
 simp only []
 split
 ·split <;> trivial
 ·trivial
 ·trivial
theorem zgr (P : Program) (fr : Frame) (cs : List Frame) (d : Option Dying) (m : String) (w : World) : GdD w (endFatal P fr cs d m w) := by
 unfold endFatal
 simp only []
 split
 ·rename_i h
  exact (zob _ _ _ _ _).mono (za5 h)
 ·trivial
 ·trivial
theorem zpu (P : Program) (fr : Frame) (d : Dying) (f : Fatal) (w : World) : GdD w (writeOn P fr d f w) := by
 unfold writeOn
 simp only [Sem.runT_eq]
 split
 ·trivial
 ·split
  ·rename_i h
   simp only [Prod.mk.injEq] at h
   exact za5 h.1
  ·rename_i h
   simp only [Prod.mk.injEq] at h
   exact zd6 h.1
  ·trivial
  ·trivial
theorem die_gd (P : Program) (fr : Frame) (d : Dying) (w : World) : GdD w (die P fr d w) := by
 unfold die
 simp only [Sem.runT_eq]
 split
 ·exact zpu _ _ _ _ _
 ·split
  ·split
   ·exact Nat.le_refl _
   ·exact zpp _ _ _ _ _
  ·split
   ·exact Nat.le_refl _
   ·split
    ·rename_i h
     exact za5 h
    ·trivial
   ·refine GdD.after ?_
    split
    ·rename_i h; exact za5 h
    ·rename_i h; exact za5 h
    ·trivial
    ·rename_i h; exact (zdu _ _ _ _).mono (zd6 h)
    ·trivial
   ·trivial
theorem zc1 (P : Program) (b : Bool) (fr : Frame) (cs : List Frame) (d : Option Dying) (v : Value) (w : World) : GdD w (doReturn P b fr cs d v w) := by
 unfold doReturn
 repeat' first
  | exact Nat.le_refl _
  | trivial
  | split
theorem zzm {w : World} {c : Prop} [Decidable c] {a b : Go.GStep} (ha : GdD w a) (hb : GdD w b) : GdD w (if c then a else b) := by
 split
 ·exact ha
 ·exact hb
theorem zhj (P : Program) (fr : Frame) (cs : List Frame) (dy : Option Dying) (d : Deferred) (w : World) : GdD w (callDeferred P fr cs dy d w) := by
 unfold callDeferred
 simp only [Sem.runT_eq]
 refine zzm trivial ?_
 ·refine GdD.after ?_
  have hd := znr P (invoke d.target d.args) w
  generalize (invoke d.target d.args).run P w = r at hd
  rcases r with ⟨n, w'⟩ | ⟨x, w'⟩
  ·have hd : w.drawn <= w'.drawn := hd
   cases n <;> (try simp only [])
   all_goals
    repeat' first
     | exact hd
     | trivial
     | (rename_i h; cases h; done)
     | (rename_i h; cases h; exact hd)
     | split
  ·have hd : w.drawn <= w'.drawn := hd
   cases x <;> (try simp only [])
   all_goals
    repeat' first
     | exact hd
     | trivial
     | exact (zgr _ _ _ _ _ _).mono hd
     | exact (zcz _ _ _).mono hd
     | (rename_i h; cases h; done)
     | (rename_i h; cases h; exact hd)
     | split
theorem zt3 (P : Program) (b : Bool) (fr : Frame) (cs : List Frame) (dy : Option Dying) (w : World) : GdD w (unwind P b fr cs dy w) := by
 unfold unwind
 simp only [Sem.runT_eq]
 repeat' first
  | exact zhj _ _ _ _ _ _
  | exact zc1 _ _ _ _ _ _ _
  | exact zdu _ _ _ _
  | exact Nat.le_refl _
  | trivial
  | refine GdD.after ?_
  | (rename_i h; exact za5 h)
  | (rename_i h; exact (zc1 _ _ _ _ _ _ _).mono (za5 h))
  | split
theorem zo1 (P : Program) (fr : Frame) (cs : List Frame) (dy : Option Dying) (g : Nat) (w : World) : GdD w (early P fr cs dy g w) := by
 have hn : ∀ w1 : World, w.drawn <= w1.drawn -> GdD w (match w1.heap[g]? with | some (.pending c elem) => .go { frame := fr, callers := cs, status := .running, dying := dy } { w1 with heap := w1.heap.setIfInBounds g (.cells c elem) } | _ => .ended (.stuck "early: the variable does not wait" (fr.pos P)) w1) := fun w1 h1 => by
  split
  ·exact h1
  ·trivial
 unfold early
 simp only []
 repeat' first
  | exact hn _ (Nat.le_refl _)
  | exact Nat.le_refl _
  | trivial
  | (rename_i h; exact hn _ (za5 h))
  | (rename_i h; exact za5 h)
  | split
theorem ziy (P : Program) (l : Bool) (fr : Frame) (cs : List Frame) (dy : Option Dying) (s : Sem Next) (w : World) : GdD w (stepG.apply P l fr cs dy s w) := by
 have hd := znr P s w
 unfold stepG.apply
 have e : (if l = true then s.runT P w #[] else (s.run P w, #[])).1 = s.run P w := by cases l <;> simp
 generalize (if l = true then s.runT P w #[] else (s.run P w, #[])) = q at e
 obtain ⟨r, es⟩ := q
 simp only at e
 subst e
 simp only []
 refine GdD.after ?_
 generalize s.run P w = r at hd
 rcases r with ⟨n, w'⟩ | ⟨x, w'⟩
 ·have hd : w.drawn <= w'.drawn := hd
  cases n <;> (try simp only [])
  all_goals
   repeat' first
    | exact hd
    | trivial
    | exact (zcz _ _ _).mono hd
    | (rename_i h; cases h; done)
    | (rename_i h; cases h; exact hd)
    | split
 ·have hd : w.drawn <= w'.drawn := hd
  cases x <;> (try simp only [])
  all_goals
   repeat' first
    | exact hd
    | trivial
    | exact (zgr _ _ _ _ _ _).mono hd
    | exact (zcz _ _ _).mono hd
    | exact (zo1 _ _ _ _ _ _).mono hd
    | (rename_i h; cases h; done)
    | (rename_i h; cases h; exact hd)
    | (rename_i h; cases h; exact (zo1 _ _ _ _ _ _).mono hd)
    | split
theorem qay (P : Program) (l : Bool) (fr : Frame) (cs : List Frame) (dy : Option Dying) (w : World) : GdD w (stepG.oper P l fr cs dy w) := by
 unfold stepG.oper
 split
 ·trivial
 ·split <;> exact ziy _ _ _ _ _ _ _
theorem zme {α : Type} {w : World} (o : Option α) (a : Go.GStep) (f : α -> Go.GStep) (h0 : GdD w a) (h : ∀ x, GdD w (f x)) : GdD w (o.elim a f) := by
 cases o
 ·exact h0
 ·exact h _
theorem qbg (P : Program) (b l : Bool) (fr : Frame) (cs : List Frame) (dy : Option Dying) (w : World) : GdD w (stepG.exec P b l fr cs dy w) := by
 have hl : ∀ j : Option Code, GdD w (match fr.roundOf with
   | none => if (j matches none | some .ret) then .go { frame := { fr with mode := .returning }, callers := cs, status := .running, dying := dy } w else .ended (.stuck "exit, goto: no such block or label" (fr.pos P)) w
   | some lo => Go.GStep.after (seen P fr.fn ((Instr.endRound lo j).runT P w #[]).2) (match ((Instr.endRound lo j).runT P w #[]).1 with
    | .ok v w => doReturn P b fr cs dy v w
    | .halt _ w => .ended (.stuck "range over a function: no such loop" (fr.pos P)) w)) := fun j => by
  simp only [Sem.runT_eq]
  split
  ·refine zzm (Nat.le_refl _) trivial
  ·refine GdD.after ?_
   split
   ·rename_i h
    exact (zc1 _ _ _ _ _ _ _).mono (za5 h)
   ·trivial
 unfold stepG.exec
 simp only []
 repeat' first
  | exact hl _
  | exact Nat.le_refl _
  | trivial
  | exact ziy _ _ _ _ _ _ _
  | exact qay _ _ _ _ _ _
  | refine zme _ _ _ (hl _) fun _ => ?_
  | refine zme _ _ _ trivial fun _ => ?_
  | refine zme _ _ _ ?_ fun _ => ?_
  | (rename_i h; simp only [Sem.runT_eq] at h; exact za5 h)
  | (rename_i h; exact za5 h)
  | (rename_i h; simp only [Sem.runT_eq] at h; exact zd6 h)
  | (rename_i h; simp only [Sem.runT_eq] at h; exact (ziy _ _ _ _ _ _ _).mono (za5 h))
  | (rename_i h; simp only [Sem.runT_eq] at h; exact (zc1 _ _ _ _ _ _ _).mono (za5 h))
  | refine GdD.after ?_
  | split
theorem zw6 (P : Program) (b l : Bool) (g : Goroutine) (w : World) : GdD w (stepG P b g w l) := by
 obtain ⟨fr, cs, status, dying, offers⟩ := g
 simp only [stepG]
 split
 ·exact die_gd _ _ _ _
 ·exact qbg _ _ _ _ _ _ _
 ·exact zt3 _ _ _ _ _ _
theorem zqu {rest : Rest} {cs : Array CommCase} {w w1 : World} (h : waitingAt rest cs w = some w1) : w.drawn <= w1.drawn := by
 unfold waitingAt at h
 split at h
 ·split at h
  ·cases h; exact Nat.le_refl _
  ·cases h
 ·cases h; exact Nat.le_refl _
theorem qac (p : Program) (rest : Rest) (gs : Array Goroutine) (i : Nat) (g : Goroutine) (cases : Array CommCase) (blocking : Bool)
  (shape : CommShape) (w : World) (m' : Machine) (h : (communicate p rest gs i g cases blocking shape w).1 = .next m') : w.drawn <= m'.world.drawn := by
 unfold communicate at h
 simp only [] at h
 repeat' first
  | (simp at h; done)
  | (simp only [Stepped.next.injEq] at h; subst h; first | exact Nat.le_refl _ | exact zqu ‹_› | (have hx := za5 ‹Sem.run p _ w = Result.ok _ _›; exact hx) | (have hx := za5 ‹Sem.run p _ w = Result.ok _ _›; have hy := zd6 ‹Sem.run p _ _ = Result.halt _ _›; exact Nat.le_trans hx hy) | (have hx := za5 ‹Sem.run p _ w = Result.ok _ _›; have hy := za5 ‹Sem.run p _ _ = Result.ok _ _›; exact Nat.le_trans hx hy))
  | split at h
theorem zru (p : Program) (gs : Array Goroutine) (rest : Rest) (w : World) (m' : Machine)
  (h : look p gs rest w = .next m') : w.drawn <= m'.world.drawn := by
 unfold look at h
 simp only [] at h
 repeat' first
  | (simp at h; done)
  | (simp only [Stepped.next.injEq] at h; subst h; have hx := za5 ‹Sem.run p _ w = Result.ok _ _›; exact hx)
  | split at h
theorem zyv (w : World) (c : Nat) : (drain w c).2.drawn = w.drawn := by
 unfold drain
 split <;> rfl
theorem zj2 (m : Machine) (k : Nat) (t : Timer) (a b : Nat) : (retime m k t a b).2.world.drawn = m.world.drawn := by
 unfold retime
 simp only []
 split
 ·exact zyv _ _
 ·rfl
theorem zo3 {m m' : Machine} {var : Addr} {f : Nat -> Timer -> Value × Machine} {v : Value} (hf : ∀ k t, (f k t).2.world.drawn = m.world.drawn) (h : timerOp.named m var f = .ok (v, m')) : m.world.drawn <= m'.world.drawn := by
 unfold timerOp.named at h
 split at h
 ·rename_i k _
  have := hf k (m.rest.timers.getD k default)
  simp only [Except.ok.injEq] at h
  rw [h] at this
  exact Nat.le_of_eq this.symm
 ·cases h
theorem zyk {m m' : Machine} {op : TimerOp} {v : Value} (h : timerOp m op = .ok (v, m')) : m.world.drawn <= m'.world.drawn := by
 unfold timerOp at h
 split at h
 ·split at h
  ·simp only [Except.ok.injEq, Prod.mk.injEq] at h
   obtain ⟨_, rfl⟩ := h
   exact Nat.le_refl _
  ·split at h
   ·split at h
    ·cases h
    ·simp only [Except.ok.injEq, Prod.mk.injEq] at h
     obtain ⟨_, rfl⟩ := h
     exact Nat.le_refl _
   ·cases h
 ·exact zo3 (fun k t => zj2 _ _ _ _ _) h
 ·split at h
  ·rename_i m1 h1
   have h2 : m1.world.drawn = m.world.drawn := by
    unfold timerOp.opened at h1
    split at h1
    ·split at h1
     ·cases h1; rfl
     ·cases h1
    ·cases h1; rfl
   exact zo3 (fun k t => (zj2 _ _ _ _ _).trans h2) h
  ·cases h
 ·simp only [Except.ok.injEq, Prod.mk.injEq] at h
  obtain ⟨_, rfl⟩ := h
  exact Nat.le_refl _
theorem zyr {fr : Frame} {m : String} {w w' : World} {g : Goroutine} {es : Array Event} (h : endThrow fr m w = .go g w' es) : w.drawn <= w'.drawn := by
 unfold endThrow dieOf at h
 cases h
 exact Nat.le_refl _
theorem qam (p : Program) (m m' : Machine) (i : Nat) (b : Bool) (h : (runT p m i b).1 = .next m') : m.world.drawn <= m'.world.drawn := by
 simp only [runT] at h
 revert h
 generalize m.gs.swapAt! _ _ = gg
 have hs := zw6 p (i == 0) b gg.1 m.world
 generalize stepG p _ gg.1 m.world b = s at hs ⊢
 intro h
 cases s <;> simp only [] at h
 all_goals first
  | (simp at h; done)
  | (have := qac _ _ _ _ _ _ _ _ _ _ h; exact Nat.le_trans hs this)
  | (have := zru _ _ _ _ _ h; exact Nat.le_trans hs this)
  | (simp only [Stepped.next.injEq] at h; subst h; exact hs)
  | (repeat' first
    | (simp at h; done)
    | (simp only [Stepped.next.injEq] at h; subst h; exact hs)
    | (simp only [Stepped.next.injEq] at h; subst h; have := zyk ‹_›; exact Nat.le_trans hs this)
    | (simp only [Stepped.next.injEq] at h; subst h; have hx := zyr ‹endThrow _ _ _ = _›; exact Nat.le_trans hs hx)
    | split at h)
theorem zwd (p : Program) (m m' : Machine) (k : Nat) (h : serve p m k = .next m') : m.world.drawn <= m'.world.drawn := by
 unfold serve at h
 simp only [] at h
 repeat' first
  | (simp at h; done)
  | (simp only [Stepped.next.injEq] at h; subst h; exact Nat.le_refl _)
  | split at h
def MvD (w : World) : Move -> Prop
 | .goroutine m _ => w.drawn <= m.world.drawn
 | .machine (.next m) _ => w.drawn <= m.world.drawn
 | .machine (.ended _ _) _ => True
theorem MvD.mono {w w1 : World} {s : Move} (h1 : w.drawn <= w1.drawn) (h : MvD w1 s) : MvD w s := by
 rcases s with ⟨m, i⟩ | ⟨m | ⟨o, w⟩, ops⟩
 ·exact Nat.le_trans h1 h
 ·exact Nat.le_trans h1 h
 ·trivial
theorem zyy (p : Program) (m : Machine) (k : Nat) (ops : Array MemOp) : MvD m.world (.machine (serve p m k) ops) := by
 cases h : serve p m k with
 | next m' => exact zwd p m m' k h
 | ended o w => trivial
theorem adv_ok {α : Type} {P : Program} {s : Sem α} {m : Machine} {n : Nat} {w' : World} {a : α} (h : s.run P (m.advanceTo n).world = .ok a w') : m.world.drawn <= w'.drawn := by
 have hx := za5 h
 exact hx
theorem zil (p : Program) (m : Machine) : MvD m.world (askOn p m) := by
 unfold askOn
 simp only []
 repeat' first
  | exact Nat.le_refl _
  | trivial
  | (rename_i h; refine MvD.mono (za5 h) ?_; clear h)
  | (rename_i h; refine MvD.mono (adv_ok h) ?_; clear h)
  | exact zyy _ _ _ _
  | split
theorem ask_mv (p : Program) (m : Machine) : MvD m.world (ask p m) := by
 unfold ask
 split
 ·split
  ·trivial
  ·rename_i w h
   refine MvD.mono (za5 h) ?_
   cases hl : look p m.gs m.rest w with
   | next m₂ => exact MvD.mono (zru _ _ _ _ _ hl) (zil p m₂)
   | ended o w => trivial
  ·rename_i h
   exact MvD.mono (za5 h) (zil p _)
 ·exact zil p m
theorem qa4 (p : Program) (m : Machine) : MvD m.world (move p m) := by
 unfold move
 repeat' first
  | exact Nat.le_refl _
  | trivial
  | exact ask_mv p _
  | split
theorem qcd {p : Program} {m m' : Machine} (h : step p m = .next m') : m.world.drawn <= m'.world.drawn := by
 have hm := qa4 p m
 unfold step stepT at h
 generalize move p m = v at h hm
 rcases v with ⟨m1, i⟩ | ⟨s, ops⟩
 ·exact Nat.le_trans hm (qam p m1 m' i true h)
 ·simp only [] at h
  subst h
  exact hm
theorem zyb {p : Program} {m m' : Machine} (h : Steps p m m') : m.world.drawn <= m'.world.drawn := by
 obtain ⟨n, hn⟩ := h
 induction n generalizing m with
 | zero => cases hn; exact Nat.le_refl _
 | succ n ih =>
  rw [runN] at hn
  split at hn
  ·rename_i m1 h1
   exact Nat.le_trans (qcd h1) (ih hn)
  ·rename_i h1
   exact absurd hn (h1 _)
theorem zwy {P : Program} {f : FuncId} {args : Array Value} {w : World} {R : Ending -> World -> Prop} (h : Calls P f args w R) : Calls P f args w fun e w' => R e w' /\ ((∃ v, e = .returned v) -> w.drawn <= w'.drawn) := fun cs => by
 obtain ⟨e, w', fr, h1, h2, h3⟩ := h cs
 refine ⟨e, w', fr, ⟨h1, ?_⟩, h2, h3⟩
 rintro ⟨v, rfl⟩
 exact zyb h2
end Go.Proofs.YtnkagnjiljjpcaaGreat
namespace Go.Proofs.YtnkagnjiljjpcaaGreat
set_option linter.unusedSimpArgs false
set_option linter.unusedVariables false
set_option linter.unusedSectionVars false
set_option maxRecDepth 4000
open Go.RowKit Go.Sort Go.Proofs Go.Shelf
theorem zt1 {B : Type} {f : B -> List Nat} : ∀ {l l' : List B}, l.Perm l' -> (l.map f).flatten.Perm (l'.map f).flatten := fun h => by
 induction h with
 | nil => exact .refl _
 | cons x _ ih => simp only [List.map_cons, List.flatten_cons]; exact ih.append_left _
 | swap x y l =>
  simp only [List.map_cons, List.flatten_cons, <- List.append_assoc]
  exact (List.perm_append_comm).append_right _
 | trans _ _ i1 i2 => exact i1.trans i2
theorem zr6 {B A : Type} [Inhabited B] {p : B -> A} {cf : A -> A -> Int} (hO : SWO (ltOf cf)) (hT : ∀ x y, ltOf cf x y = false -> ltOf cf y x = false -> x = y) {es : List B} {ys : List A} {d' : Array B} (hp : PermIn 0 es.toArray.size es.toArray d') (hs : SortedIn (ltOf fun x y => cf (p x) (p y)) 0 es.toArray.size d') (hxy : (es.map p).Perm ys) (hy : ys.Pairwise fun a b => cf a b < 0) :
  d'.size = es.length /\ d'.toList.Perm es /\ d'.toList.map p = ys := by
 obtain ⟨p1, _, p3⟩ := hp
 have hsz : d'.size = es.length := by rw [p1]; simp
 have e1 : (d'.extract 0 es.toArray.size).toList = d'.toList := by simp [<- p1]
 have e2 : (es.toArray.extract 0 es.toArray.size).toList = es := by simp
 rw [e1, e2] at p3
 refine ⟨hsz, p3, ?_⟩
 have hpy : (d'.toList.map p).Perm ys := (p3.map p).trans hxy
 refine List.Perm.eq_of_pairwise (le := fun a b => ltOf cf b a = false) (fun a b _ _ h1 h2 => hT a b h2 h1) ?_ ?_ hpy
 ·refine List.pairwise_iff_getElem.2 fun i j hi hj hij => ?_
  have hj' : j < d'.size := by simpa using hj
  have hi' : i < d'.size := by simpa using hi
  have h := hs i j (Nat.zero_le _) hij (by rw [<- p1]; exact hj')
  rw [getElem!_pos d' j hj', getElem!_pos d' i hi'] at h
  rw [List.getElem_map, List.getElem_map, Array.getElem_toList, Array.getElem_toList]
  exact h
 ·refine hy.imp fun {a b} h => ?_
  have h1 : ltOf cf a b = true := by unfold ltOf; exact decide_eq_true h
  cases hb : ltOf cf b a
  ·rfl
  ·have := hO.trans a b a h1 hb
   rw [hO.irrefl] at this
   cases this
theorem zxo {W w' : World} (h : Below W.heap.size W w') (hd : W.drawn <= w'.drawn) : ∃ q os', w' = grow (W.drewN q) os' := by
 refine ⟨w'.drawn - W.drawn, w'.heap.extract W.heap.size w'.heap.size, ?_⟩
 have hh : w'.heap = W.heap ++ w'.heap.extract W.heap.size w'.heap.size := by
  apply Array.ext_getElem?
  intro i
  by_cases hi : i < W.heap.size
  ·rw [Array.getElem?_append_left hi, h.block i hi]
  ·rw [Array.getElem?_append_right (by omega), Array.getElem?_extract]
   by_cases h2 : i < w'.heap.size
   ·rw [if_pos (by omega), show W.heap.size + (i - W.heap.size) = i by omega]
   ·rw [if_neg (by omega), Array.getElem?_eq_none (by omega)]
 obtain ⟨hp', tp', dr', os', ou'⟩ := w'
 have h1 := h.os
 have h2 := h.tape
 have h3 := h.output
 simp only at h1 h2 h3 hh hd
 unfold grow World.drewN
 subst h1 h2 h3
 simp only [World.mk.injEq, and_true, true_and]
 exact ⟨hh, by omega⟩
theorem zyf {P : Program} {g : FuncId} {ds : List D} {n : Int} (H : FC P g ds [.one (.int .i64 n)]) {W : World} {vs : List Value} (hr : za7 W (fun b => b < W.heap.size) ds vs) : Calls P g ⟨vs⟩ W fun e w' => e = .returned (.int .i64 n) /\ ∃ q os', w' = grow (W.drewN q) os' := by
 refine (zwy (H.use hr)).mono ?_
 rintro e w' ⟨⟨us, fp, he, ho, _, _, bel⟩, hd⟩
 obtain ⟨u, us', f1, f2, rfl, _, hu, hus⟩ := ho
 obtain ⟨rfl, _⟩ := hus
 have hu : zar w' (.int .i64 n) u f1 := hu
 unfold zar at hu
 obtain ⟨rfl, _⟩ := hu
 exact ⟨he, zxo bel (hd ⟨_, he⟩)⟩
set_option maxHeartbeats 1000000 in
theorem qbl {P : Program} {ρ : Ren} (L : SlLaysF0.n6 P ρ) {A : Type} {c : A -> List T} {G : A -> Prop} {cf : A -> A -> Int} {sz : Nat} {g : FuncId} (hf : zba P (ρ.f 6)) (aE : ∀ w, (isAgg (ρ.t 24)).run P w = .ok true w) (zE : ∀ w, (Go.sizeOf (ρ.t 24)).run P w = .ok sz w)
  (eg : zba P g) (hc : ∀ x, (c x).length = sz) (hO : SWO (ltOf cf)) (hT : ∀ x y, ltOf cf x y = false -> ltOf cf y x = false -> x = y)
  (hcmp : ∀ x y : A, G x -> G y -> FC P g [.agg (c x), .agg (c y)] [.one (.int .i64 (cf x y))])
  (xs ys : List A) (hp : xs.Perm ys) (hr : ys.Pairwise fun a b => cf a b < 0) (hg : ∀ x ∈ xs, G x) (hl : xs.length < 4611686018427387904) : IC P (ρ.f 6) [] (.one (.sl sz (xs.map c))) [.one (.fn g [])] (.one (.sl sz (ys.map c))) [] := by
 refine ⟨hf, fun w us1 v us2 fp tp h1 hgd h2 hn => ?_⟩
 rw [show us1 = [] from h1]
 obtain ⟨u, us, e0, h2, h3⟩ := h2
 rw [show us = [] from h3] at e0
 subst e0
 have h2 : zak w _ (T.fn g []) u := h2
 unfold zak at h2
 obtain ⟨cs, rfl, h4⟩ := h2
 rw [show cs = [] by unfold zac at h4; exact h4]
 have hlen : ys.length = xs.length := hp.length_eq.symm
 obtain ⟨hgd, htp⟩ := hgd
 unfold zar at hgd
 obtain ⟨ao, cap, rfl, q1, q2, q3⟩ := hgd
 rw [List.length_map] at q1 ⊢
 rcases q3 with ⟨rfl, rfl, q3, rfl⟩ | ⟨b, cells, ty, fps, rfl, rfl, q3, q4, q5⟩
 ·have hs : xs = [] := List.map_eq_nil_iff.1 q3
  subst hs
  have hy : ys = [] := List.length_eq_zero_iff.1 hlen
  subst hy
  refine (AnyF.slices_SortFunc_none L none 0 _ w).mono ?_
  rintro e w' ⟨rfl, rfl⟩
  refine ⟨[], [], [], rfl, ⟨_, [], [], [], [], [], rfl, rfl, rfl, ⟨?_, rfl⟩, rfl, rfl, rfl⟩, List.nodup_nil, by simp, Bk.refl _ _⟩
  unfold zar
  exact ⟨none, 0, by simp, by simp, by simp, Or.inl ⟨rfl, rfl, by simp, rfl⟩⟩
 ·by_cases h0 : xs = []
  ·subst h0
   have hy : ys = [] := List.length_eq_zero_iff.1 hlen
   subst hy
   refine (AnyF.slices_SortFunc_none L (some ⟨b, 0, none⟩) cap _ w).mono ?_
   rintro e w' ⟨rfl, rfl⟩
   refine ⟨[], b :: fps, tp, rfl, ⟨_, [], b :: fps, [], tp, [], rfl, by simp, by simp, ⟨?_, htp⟩, rfl, rfl, rfl⟩, hn, fun x hx => Or.inl hx, Bk.refl _ _⟩
   unfold zar
   exact ⟨_, cap, rfl, q1, q2, Or.inr ⟨b, cells, ty, fps, rfl, rfl, q3, q4, q5⟩⟩
  have hnb : b ∉ fps := (List.nodup_cons.1 hn).1
  obtain ⟨es, e1, e2, e3, e4⟩ := zzt (G := G) (b := b) q5 hnb hg
  have hne : es ≠ [] := fun e => h0 (by rw [<- e1, e]; rfl)
  letI : Inhabited (El c G w b) := ⟨es.head hne⟩
  have hel : es.length = xs.length := by rw [<- e1, List.length_map]
  have hH := ztq q3 e3 e4
  have hsz2 : es.toArray.size = xs.length := by simpa using hel
  have hvl : ∀ x : El c G w b, x.vs.length = sz := fun x => x.own.len.trans (hc _)
  have hblk : b < w.heap.size := (Array.getElem?_eq_some_iff.1 q3).1
  have hkeep : ∀ (W : World), w.grownBy W (some b) -> ∀ x : El c G w b, zaq W (c x.x) x.vs x.fp := fun W hW x => x.own.keep fun k hk => hW.block k (x.own.lt k hk) fun e => x.nb (by cases e; exact hk)
  have hcl : CmpLays P g #[] El.vs sz (fun x y : El c G w b => cf x.x y.x) b 0 es.toArray.size w := fun m os dk _ x y => by
   have h1 := hkeep _ (zb7 (w := w) (b := b) (enc := El.vs) (k := sz) (n := m) (os := os) dk) x
   have h2 := hkeep _ (zb7 (w := w) (b := b) (enc := El.vs) (k := sz) (n := m) (os := os) dk) y
   exact (zyf (hcmp x.x y.x x.good y.good) (vs := [.agg ⟨x.vs⟩, .agg ⟨y.vs⟩]) ⟨_, _, rfl, ⟨_, rfl, h1.rep h1.lt⟩, _, _, rfl, ⟨_, rfl, h2.rep h2.lt⟩, rfl⟩)
  have hO2 : SWO (ltOf fun x y : El c G w b => cf x.x y.x) := ⟨fun x => hO.irrefl x.x, fun x y z => hO.trans x.x y.x z.x, fun x y z => hO.ntrans x.x y.x z.x⟩
  have hC := AnyQ.slices_SortFunc L sz aE zE El.vs hvl (fun x v hv => x.own.oneC v hv) (fun x y : El c G w b => cf x.x y.x) hO2 g #[] b 0 cap es.toArray w eg hcl hH hblk (by rw [hsz2]; exact hl)
  rw [hsz2] at hC
  refine Calls.mono (show Calls P (ρ.f 6) _ w _ from hC) ?_
  rintro e w' ⟨rfl, d', n, os, hp', hs', rfl⟩
  rw [<- hsz2] at hp' hs'
  obtain ⟨z1, z2, z3⟩ := zr6 (p := El.x) hO hT hp' hs' (by rw [e1]; exact hp) hr
  have hgr := zb7 (w := w) (b := b) (enc := El.vs) (k := sz) (n := n) (os := os) d'
  have hpm := zt1 (f := El.fp) z2
  rw [e2] at hpm
  refine ⟨[], b :: (d'.toList.map El.fp).flatten, zf7 (.sl sz (ys.map c)) (b :: (d'.toList.map El.fp).flatten), rfl, ⟨_, [], b :: (d'.toList.map El.fp).flatten, [], zf7 (.sl sz (ys.map c)) (b :: (d'.toList.map El.fp).flatten), [], rfl, by simp, by simp, ⟨?_, rfl⟩, rfl, rfl, rfl⟩, ?_, fun x hx => Or.inl ?_, ⟨hgr.os, hgr.tape, hgr.output, hgr.size, fun k hk => hgr.block k hk.1 fun e => hk.2 (by cases e; simp)⟩⟩
  ·unfold zar
   refine ⟨_, cap, by rw [List.length_map, hlen], by rw [List.length_map, hlen]; exact q1, q2, Or.inr ⟨b, _, ty, (d'.toList.map El.fp).flatten, rfl, rfl, zli d' q3, by simp [putCells, q4], ?_⟩⟩
   have hcs : es.length * sz <= cells.size := by
    rw [q4, hel]
    exact Nat.mul_le_mul_right sz q1
   have := zgk (w' := sortWorldK El.vs sz w b 0 n d' os) (cells := putCells id 0 (flatK El.vs sz d') cells) (sz := sz) (es := d'.toList) (o := 0) (fun e _ => hc _) (fun i h r u hu => by
    have k := zu5 (cur := cells) (sz := sz) (es := d'.toList) (fun e _ => hvl e) (by rw [Array.length_toList, z1]; exact hcs) i h r u hu
    simpa using k) fun k hk => hgr.block k (by
     have : k ∈ fps := hpm.mem_iff.1 hk
     exact zae.lt _ _ _ _ _ q5 k this) fun e => hnb (by cases e; exact hpm.mem_iff.1 hk)
   rw [z3] at this
   exact this
  ·exact (List.Perm.nodup_iff (hpm.cons b)).2 hn
  ·rcases List.mem_cons.1 hx with rfl | hx
   ·simp
   ·exact List.mem_cons_of_mem _ (hpm.mem_iff.1 hx)
end Go.Proofs.YtnkagnjiljjpcaaGreat
namespace Go.Proofs
open Go.Shelf
set_option maxRecDepth 100000
def Tryz.laysST_ren : Go.Shelf.Ren := ⟨fun | 6 => 38 | 15 => 89 | 14 => 88 | 28 => 146 | 29 => 147 | 20 => 138 | 21 => 139 | 22 => 140 | 23 => 141 | 24 => 142 | 25 => 143 | 26 => 144 | 27 => 145 | 46 => 179 | 47 => 180 | 48 => 181 | 49 => 182 | 50 => 183 | 57 => 202 | n => n, fun | 22 => 24 | 24 => 58 | 25 => 66 | 3 => 3 | 39 => 111 | 0 => 0 | 53 => 157 | 55 => 159 | 4 => 4 | 46 => 150 | 45 => 149 | 50 => 154 | 5 => 5 | 9 => 9 | 66 => 180 | 70 => 184 | 76 => 198 | 77 => 199 | n => n, fun | n => n⟩
theorem Tryz.laysST : Go.Proofs.SlLaysF0.n6 Tryz.prog Tryz.laysST_ren := {
 mixed := by kernel_rfl
 f6 := ⟨Tryz.f38.name, by decide, Tryz.func38.trans (congrArg some (by kernel_rfl))⟩
 f14 := ⟨Tryz.f88.name, by decide, Tryz.func88.trans (congrArg some (by kernel_rfl))⟩
 f15 := Tryz.func89.trans (congrArg some (by kernel_rfl))
 f20 := ⟨Tryz.f138.name, by decide, Tryz.func138.trans (congrArg some (by kernel_rfl))⟩
 f21 := ⟨Tryz.f139.name, by decide, Tryz.func139.trans (congrArg some (by kernel_rfl))⟩
 f22 := ⟨Tryz.f140.name, by decide, Tryz.func140.trans (congrArg some (by kernel_rfl))⟩
 f23 := ⟨Tryz.f141.name, by decide, Tryz.func141.trans (congrArg some (by kernel_rfl))⟩
 f24 := ⟨Tryz.f142.name, by decide, Tryz.func142.trans (congrArg some (by kernel_rfl))⟩
 f25 := ⟨Tryz.f143.name, by decide, Tryz.func143.trans (congrArg some (by kernel_rfl))⟩
 f26 := ⟨Tryz.f144.name, by decide, Tryz.func144.trans (congrArg some (by kernel_rfl))⟩
 f27 := ⟨Tryz.f145.name, by decide, Tryz.func145.trans (congrArg some (by kernel_rfl))⟩
 f28 := Tryz.func146.trans (congrArg some (by kernel_rfl))
 f29 := Tryz.func147.trans (congrArg some (by kernel_rfl))
 f46 := ⟨Tryz.f179.name, by decide, Tryz.func179.trans (congrArg some (by kernel_rfl))⟩
 f47 := Tryz.func180.trans (congrArg some (by kernel_rfl))
 f48 := Tryz.func181.trans (congrArg some (by kernel_rfl))
 f49 := ⟨Tryz.f182.name, by decide, Tryz.func182.trans (congrArg some (by kernel_rfl))⟩
 f50 := ⟨Tryz.f183.name, by decide, Tryz.func183.trans (congrArg some (by kernel_rfl))⟩
 f57 := ⟨Tryz.f202.name, by decide, Tryz.func202.trans (congrArg some (by kernel_rfl))⟩
 t0 := Tryz.underlying0
 a0 := Tryz.isAgg0
 z0 := Tryz.sizeOf0
 v0 := Tryz.zeroValue0
 t3 := Tryz.underlying3
 a3 := Tryz.isAgg3
 z3 := Tryz.sizeOf3
 v3 := Tryz.zeroValue3
 t4 := Tryz.underlying4
 a4 := Tryz.isAgg4
 z4 := Tryz.sizeOf4
 v4 := Tryz.zeroValue4
 t5 := Tryz.underlying5
 a5 := Tryz.isAgg5
 z5 := Tryz.sizeOf5
 v5 := Tryz.zeroValue5
 t9 := Tryz.underlying9
 a9 := Tryz.isAgg9
 z9 := Tryz.sizeOf9
 v9 := Tryz.zeroValue9
 t22 := Tryz.underlying24
 a22 := Tryz.isAgg24
 z22 := Tryz.sizeOf24
 v22 := Tryz.zeroValue24
 t25 := Tryz.underlying66
 a25 := Tryz.isAgg66
 z25 := Tryz.sizeOf66
 v25 := Tryz.zeroValue66
 t39 := Tryz.underlying111
 a39 := Tryz.isAgg111
 z39 := Tryz.sizeOf111
 v39 := Tryz.zeroValue111
 t45 := Tryz.underlying149
 a45 := Tryz.isAgg149
 z45 := Tryz.sizeOf149
 v45 := Tryz.zeroValue149
 t46 := Tryz.underlying150
 a46 := Tryz.isAgg150
 z46 := Tryz.sizeOf150
 v46 := Tryz.zeroValue150
 t50 := Tryz.underlying154
 a50 := Tryz.isAgg154
 z50 := Tryz.sizeOf154
 v50 := Tryz.zeroValue154
 t53 := Tryz.underlying157
 a53 := Tryz.isAgg157
 z53 := Tryz.sizeOf157
 v53 := Tryz.zeroValue157
 t55 := Tryz.underlying159
 a55 := Tryz.isAgg159
 z55 := Tryz.sizeOf159
 v55 := Tryz.zeroValue159
 t66 := Tryz.underlying180
 a66 := Tryz.isAgg180
 z66 := Tryz.sizeOf180
 v66 := Tryz.zeroValue180
 t70 := Tryz.underlying184
 a70 := Tryz.isAgg184
 z70 := Tryz.sizeOf184
 v70 := Tryz.zeroValue184
 t76 := Tryz.underlying198
 a76 := Tryz.isAgg198
 z76 := Tryz.sizeOf198
 v76 := Tryz.zeroValue198
 t77 := Tryz.underlying199
 a77 := Tryz.isAgg199
 z77 := Tryz.sizeOf199
 v77 := Tryz.zeroValue199 }
end Go.Proofs
namespace Go.Proofs.YtnkagnjiljjpcaaGreat
set_option linter.unusedSimpArgs false
set_option linter.unusedVariables false
set_option linter.unusedSectionVars false
set_option maxRecDepth 4000
open Go.RowKit Go.Sort
theorem zew (xs : List Cq) (p : Cq -> Bool) (g : FuncId) (caps : List T) (H : ∀ x ∈ xs, FC Tryz.prog g (cqD x :: caps.map .one) [bD (p x)]) : FC Tryz.prog 83 [.one (cqS xs), .one (.fn g caps)] [iD (zzj xs p)] := by
 refine zbw (fun hw => ?_) Tryz.call83
 have hl : xs.length <= 9223372036854775807 := by simpa [zee, wfT] using hw.1.1
 refine zap Tryz.call83 Tryz.func83 rfl (by kernel_rfl) (za2 (by kernel_rfl)) ?_
 simp -implicitDefEqProofs only [go_sem, Tryz.results83]
 refine zag (fun k : Nat => hd [(0, vT (cqS xs)), (1, vT (.fn g caps)), (7, vI xs.length), (8, vI k)] [] []) (fun k => k <= xs.length /\ ∀ x ∈ xs.take k, p x = false) (fun k => xs.length - k) 0 (zab ?_) ?_ ?_
 ·simp -implicitDefEqProofs only [go_sem]
 ·simp
 ·intro k ⟨hk, hr⟩
  by_cases hlt : k < xs.length
  ·simp -implicitDefEqProofs only [go_sem, zah, hlt, zav]
   refine callF (H xs[k] (List.getElem_mem hlt)) (by simp -implicitDefEqProofs only [go_sem, zav]) ?_
   simp -implicitDefEqProofs only [go_sem, zav]
   refine ⟨fun h => ?_, fun h => ⟨k + 1, ⟨hlt, zd7 hlt hr h⟩, by omega, zab (by simp -implicitDefEqProofs only [go_sem]; rw [zas (by omega)])⟩⟩
   rw [zh4 hlt hr h]
  ·simp -implicitDefEqProofs only [go_sem, hlt]
   rw [List.take_of_length_le (by omega)] at hr
   rw [zkk hr]
theorem zdr (xs : List Cq) (p : Cq -> Bool) (g : FuncId) (caps : List T) (H : ∀ x ∈ xs, FC Tryz.prog g (cqD x :: caps.map .one) [bD (p x)]) : FC Tryz.prog 34 [.one (cqS xs), .one (.fn g caps)] [bD (xs.any p)] := by
 refine zap Tryz.call34 Tryz.func34 rfl (by kernel_rfl) (za2 (by kernel_rfl)) ?_
 simp -implicitDefEqProofs only [go_sem, Tryz.results34]
 refine callF (zew xs p g caps H) (by simp -implicitDefEqProofs only [go_sem]) ?_
 simp -implicitDefEqProofs only [go_sem]
 rw [zn2]
theorem swo_of {α : Type} {c : α -> α -> Int} (h : GCmp c) : SWO (ltOf c) where
 irrefl x := by have := h.self x; simp [ltOf, this]
 trans x y z h1 h2 := by
  have n1 := h.neg x y
  have n2 := h.neg y z
  have n3 := h.neg x z
  have t1 := h.tr x y z
  have t2 := h.tr z x y
  have t3 := h.tr y z x
  simp only [ltOf, decide_eq_true_eq] at *
  omega
 ntrans x y z h1 h2 := by
  have n1 := h.neg x y
  have n2 := h.neg y z
  have n3 := h.neg x z
  have t1 := h.tr z y x
  simp only [ltOf, decide_eq_false_iff_not] at *
  omega
theorem znf (xs ys : List Tm) (hp : xs.Perm ys) (hr : zzn ys) (hg : ∀ x ∈ xs, upT x = true) (hl : xs.length < 4611686018427387904) : IC Tryz.prog 38 [] (.one (tmS xs)) [.one (.fn 39 [])] (.one (tmS ys)) [] :=
 qbl (G := fun x => upT x = true) (cf := zcb) Tryz.laysST Tryz.call38 (fun w => Tryz.isAgg58 w) (fun w => Tryz.sizeOf58 w) Tryz.call39 (fun x => by rw [zaa]; rfl) (swo_of zlg)
  (fun x y h1 h2 => by
   have n1 := zdo x y
   unfold ltOf at h1 h2
   rw [decide_eq_false_iff_not] at h1 h2
   exact (zks x y).1 (by omega)) (fun x y h1 h2 => zdx x y h1 h2) xs ys hp hr hg hl
theorem zsq {cs : List Cq} {c : Cq} (h : c ∈ cs) : c.wt <= zhp cs := by
 have h2 : zhp cs = cs.length + (cs.map Cq.wt).sum := rfl
 have := zb2 Cq.wt cs c h
 omega
theorem zs0 (cs : List Cq) : (atC cs).length <= zhp cs := by
 have h := zfx (fun c : Cq => atL c.lits) (fun c => 1 + c.wt) cs fun c _ => by
  have h1 := c.wt_eq
  have h2 : zf1 c.lits = c.lits.length + (c.lits.map Li.wt).sum := rfl
  show ((c.lits.map Li.atom).length) <= _
  rw [List.length_map]
  omega
 rw [zjw] at h
 have h2 : zhp cs = cs.length + (cs.map Cq.wt).sum := rfl
 unfold atC
 omega
theorem atC_wt {cs : List Cq} {t : Tm} (h : t ∈ atC cs) : t.wt <= zhp cs := by
 obtain ⟨c, hc, l, hl, rfl⟩ := zrs.1 h
 have h1 := zsq hc
 have h2 := zhe hl
 have h3 := l.wt_eq
 omega
theorem zi6 {cs : List Cq} {k : Nat} (h : k < cs.length) : atC (cs.take (k + 1)) = atC (cs.take k) ++ atL cs[k].lits := by
 unfold atC
 rw [List.take_succ_eq_append_getElem h, List.map_append, List.flatten_append]
 simp
theorem znl {ls : List Li} {k : Nat} (h : k < ls.length) : atL (ls.take (k + 1)) = atL (ls.take k) ++ [ls[k].atom] := by
 unfold atL
 rw [List.take_succ_eq_append_getElem h, List.map_append, List.map_singleton]
theorem zu0 {cs : List Cq} {k j : Nat} (h : k < cs.length) : (atC (cs.take k)).length + (atL (cs[k].lits.take j)).length <= (atC cs).length := by
 have h1 : (atL (cs[k].lits.take j)).length <= (atL cs[k].lits).length := by
  unfold atL
  rw [List.length_map, List.length_map, List.length_take]
  omega
 have h2 := zi6 h
 have h3 : (atC (cs.take (k + 1))).length <= (atC cs).length := by
  unfold atC
  rw [List.map_take]
  exact zvt _ _
 rw [h2, List.length_append] at h3
 omega
set_option maxHeartbeats 2000000 in
theorem zey (cs : List Cq) (hw : zhp cs <= 1048576) : FC Tryz.prog 10 [.one (cqS cs)] [.one (tmS (gaR cs)), bD (zvx cs)] := by
 have hcw := fun c (h : c ∈ cs) => Nat.le_trans (zsq h) hw
 have HF := zdr cs (fun c => !grC c) 35 [] fun c hc => zk5 c (hcw c hc)
 have hv1 : zvx cs = (decide (cs.length <= 40) && cs.all grC && decide ((gaL cs).length <= 12)) := rfl
 have hv2 : gaR cs = if zvx cs = true then gaL cs else [] := rfl
 have hal := zs0 cs
 have hln : cs.length <= 1048576 := by have h2 : zhp cs = cs.length + (cs.map Cq.wt).sum := rfl; omega
 have hpm := qcc (atC cs)
 have hsr := ga_srt cs
 by_cases h40 : cs.length <= 40
 ·have h40' : ((40 : Int) < (cs.length : Int)) = False := eq_false (by omega)
  rw [decide_eq_true h40, Bool.true_and] at hv1
  cases hg : cs.all grC
  ·have hany : (cs.any fun c => !grC c) = true := by
    rw [List.any_eq_true]
    rw [List.all_eq_false] at hg
    obtain ⟨c, h1, h2⟩ := hg
    exact ⟨c, h1, by simpa using h2⟩
   rw [hg, Bool.false_and] at hv1
   rw [hany] at HF
   rw [hv1, if_neg (by simp)] at hv2
   rw [hv2, hv1]
   refine zht Tryz.call10 Tryz.func10 rfl (by kernel_rfl) (za2 (by kernel_rfl)) ?_
   simp -implicitDefEqProofs only [go_sem, Tryz.results10, h40']
   refine callF (HF) (by simp -implicitDefEqProofs only [go_sem]) ?_
   simp -implicitDefEqProofs only [go_sem]
  ·have hany : (cs.any fun c => !grC c) = false := by
    rw [List.any_eq_false]
    rw [List.all_eq_true] at hg
    intro c hc
    simp [hg c hc]
   rw [hany] at HF
   have hup : ∀ t ∈ atC cs, upT t = true := fun t ht => by
    obtain ⟨c, hc, l, hl, rfl⟩ := zrs.1 ht
    exact zmr (zmo (gr_ok (List.all_eq_true.1 hg c hc)) l hl)
   have hupD : ∀ t ∈ (atC cs).foldl zd9 [], upT t = true := fun t ht => hup t (by rw [zhf] at ht; simpa using ht)
   have hdl := zem (atC cs) []
   rw [List.length_nil] at hdl
   have HS := znf ((atC cs).foldl zd9 []) (gaL cs) hpm hsr hupD (by omega)
   rw [hg, Bool.true_and] at hv1
   have hlen : ((atC cs).foldl zd9 []).length = (gaL cs).length := hpm.length_eq
   rw [hv2, hv1]
   refine zht Tryz.call10 Tryz.func10 rfl (by kernel_rfl) (za2 (by kernel_rfl)) ?_
   simp -implicitDefEqProofs only [go_sem, Tryz.results10, h40']
   refine callF (HF) (by simp -implicitDefEqProofs only [go_sem]) ?_
   simp -implicitDefEqProofs only [go_sem]
   refine zcf (by simp -implicitDefEqProofs only [go_sem]) ?_
   simp -implicitDefEqProofs only [go_sem]
   refine zag (fun k : Nat => hd [(4, .one (.ow 512 0)), (17, .one (.rn (cqS cs))), (18, vI cs.length), (19, vI k)] [] [(512, ⟨true, 2, ((atC (cs.take k)).foldl zd9 []).map tmC, 0, true⟩)]) (fun k => k <= cs.length) (fun k => cs.length - k) 0 (zab ?_) (Nat.zero_le _) ?_
   ·simp -implicitDefEqProofs only [go_sem]
    rfl
   ·intro k hk
    by_cases hlt : k < cs.length
    ·have hpre := fun j => zu0 (cs := cs) (k := k) (j := j) hlt
     have hsu := zi6 hlt
     have hdk := zem (atC (cs.take k)) []
     rw [List.length_nil] at hdk
     have hlw := fun l (h : l ∈ cs[k].lits) => Nat.le_trans (zhe h) (hcw _ (List.getElem_mem hlt))
     have hll : cs[k].lits.length <= 1048576 := by
      have h1 := hcw _ (List.getElem_mem hlt)
      have h2 := cs[k].wt_eq
      have h3 : zf1 cs[k].lits = cs[k].lits.length + (cs[k].lits.map Li.wt).sum := rfl
      omega
     simp -implicitDefEqProofs only [go_sem, hlt, zah, zav cs[k]]
     generalize cs[k].lits = ls at hpre hsu hlw hll ⊢
     refine zag (fun j : Nat => hd [(4, .one (.ow 512 0)), (17, .one (.rn (cqS cs))), (18, vI cs.length), (19, vI k), (24, .one (.rn (liS ls))), (25, vI ls.length), (26, vI j)] [] [(512, ⟨true, 2, ((atL (ls.take j)).foldl zd9 ((atC (cs.take k)).foldl zd9 [])).map tmC, 0, true⟩)]) (fun j => j <= ls.length) (fun j => ls.length - j) 0 (zab ?_) (Nat.zero_le _) ?_
     ·simp -implicitDefEqProofs only [go_sem]
      rfl
     ·intro j hj
      by_cases hlj : j < ls.length
      ·have hdj := zem (atL (ls.take j)) ((atC (cs.take k)).foldl zd9 [])
       have hpj := hpre j
       have hlj2 := hlw _ (List.getElem_mem hlj)
       have hlj3 := ls[j].wt_eq
       have HC := zrh ((atL (ls.take j)).foldl zd9 ((atC (cs.take k)).foldl zd9 [])) ls[j].atom (by omega) (by omega)
       rw [show zd9 ((atL (ls.take j)).foldl zd9 ((atC (cs.take k)).foldl zd9 [])) ls[j].atom = (atL (ls.take (j + 1))).foldl zd9 ((atC (cs.take k)).foldl zd9 []) from by rw [znl hlj, List.foldl_append]; rfl] at HC
       simp only [tmD, zaa ls[j].atom] at HC
       simp -implicitDefEqProofs only [go_sem, hlj, zah, zal ls[j]]
       refine zhh [17, 18, 19, 24, 25, 26] [30, 32] [] (HC) (by simp -implicitDefEqProofs only [go_sem]) (by simp -implicitDefEqProofs only [go_sem]) (by simp -implicitDefEqProofs only [go_sem]) (by simp -implicitDefEqProofs only [go_sem]) ?_
       simp -implicitDefEqProofs only [go_sem]
       refine ⟨j + 1, hlj, by omega, zdm 512 1056 ?_⟩
       simp -implicitDefEqProofs only [go_sem]
       rw [zas (by omega)]
      ·have ht : ls.take j = ls := List.take_of_length_le (by omega)
       simp -implicitDefEqProofs only [go_sem, hlj]
       refine ⟨k + 1, hlt, by omega, zab ?_⟩
       simp -implicitDefEqProofs only [go_sem]
       rw [zas (by omega), ht, hsu, List.foldl_append]
       exact ⟨rfl, rfl⟩
    ·have ht : cs.take k = cs := List.take_of_length_le (by omega)
     rw [ht]
     simp -implicitDefEqProofs only [go_sem, hlt]
     by_cases h12 : (gaL cs).length <= 12
     ·have h12' : ((12 : Int) < (((atC cs).foldl zd9 []).length : Int)) = False := eq_false (by omega)
      rw [decide_eq_true h12, if_pos rfl]
      simp -implicitDefEqProofs only [go_sem, h12']
      refine zmq [4, 39] (HS) (by simp -implicitDefEqProofs only [go_sem]) (by simp -implicitDefEqProofs only [go_sem]) (by simp -implicitDefEqProofs only [go_sem]) (by simp -implicitDefEqProofs only [go_sem]) (by simp -implicitDefEqProofs only [go_sem]) rfl ?_
      simp -implicitDefEqProofs only [go_sem]
     ·have h12' : ((12 : Int) < (((atC cs).foldl zd9 []).length : Int)) = True := eq_true (by omega)
      rw [decide_eq_false h12, if_neg (by simp)]
      simp -implicitDefEqProofs only [go_sem, h12']
 ·have h40' : ((40 : Int) < (cs.length : Int)) = True := eq_true (by omega)
  rw [decide_eq_false h40, Bool.false_and, Bool.false_and] at hv1
  rw [hv1, if_neg (by simp)] at hv2
  rw [hv2, hv1]
  refine zht Tryz.call10 Tryz.func10 rfl (by kernel_rfl) (za2 (by kernel_rfl)) ?_
  simp -implicitDefEqProofs only [go_sem, Tryz.results10, h40']
end Go.Proofs.YtnkagnjiljjpcaaGreat
namespace Go.Proofs.YtnkagnjiljjpcaaGreat
set_option linter.unusedSimpArgs false
set_option linter.unusedVariables false
set_option linter.unusedSectionVars false
set_option maxRecDepth 4000
open Go.RowKit
noncomputable def gaP (cs : List Cq) : Bool := decide (cs.length <= 40) && cs.all grC
noncomputable def gaA (cs : List Cq) : List Tm := if gaP cs = true then gaL cs else []
theorem zun (cs : List Cq) : zvx cs = (gaP cs && decide ((gaL cs).length <= 12)) := rfl
theorem zer : ∀ (ts ys : List Tm), (ts.foldl ze5 ys).length <= ys.length + ts.length
 | [], ys => by simp
 | t :: ts, ys => by
  have h1 := zer ts (ze5 ys t)
  have h2 : (ze5 ys t).length <= ys.length + 1 := by
   unfold ze5
   split
   ·omega
   ·have := congrArg List.length (List.takeWhile_append_dropWhile (p := fun x => ltT x t) (l := ys))
    simp only [List.length_append, List.length_cons, List.length_nil] at this ⊢
    omega
  rw [List.foldl_cons, List.length_cons]; omega
set_option maxHeartbeats 2000000 in
theorem zpm (cs : List Cq) (hw : zhp cs <= 1048576) : RC Tryz.prog 32 [.one (cqS cs)] [.one (tmS (gaA cs)), bD (zvx cs)] := by
 have hcw := fun c (h : c ∈ cs) => Nat.le_trans (zsq h) hw
 have hv1 := zun cs
 have hv2 : gaA cs = if gaP cs = true then gaL cs else [] := rfl
 have hv3 : gaP cs = (decide (cs.length <= 40) && cs.all grC) := rfl
 have hal := zs0 cs
 have hln : cs.length <= 1048576 := by have h2 : zhp cs = cs.length + (cs.map Cq.wt).sum := rfl; omega
 by_cases h40 : cs.length <= 40
 ·have h40' : ((40 : Int) < (cs.length : Int)) = False := eq_false (by omega)
  rw [decide_eq_true h40, Bool.true_and] at hv3
  refine zr1 Tryz.call32 Tryz.func32 rfl (by kernel_rfl) (za2 (by kernel_rfl)) ?_
  simp -implicitDefEqProofs only [go_sem, Tryz.results32]
  refine zzl (by simp -implicitDefEqProofs only [go_sem]) ?_
  simp -implicitDefEqProofs only [go_sem]
  simp -implicitDefEqProofs only [go_sem, h40']
  refine zag (fun k : Nat => hd [(0, vT (cqS cs)), (4, vT (tmS ((atC (cs.take k)).foldl ze5 []))), (5, vI k)] [] []) (fun k => k <= cs.length /\ (cs.take k).all grC = true) (fun k => cs.length - k) 0 (zab ?_) ⟨Nat.zero_le _, rfl⟩ ?_
  ·simp -implicitDefEqProofs only [go_sem]
   rfl
  ·intro k ⟨hk, hr⟩
   by_cases hlt : k < cs.length
   ·have hno : grC cs[k] = false -> gaP cs = false := fun h => by
     rw [hv3, List.all_eq_false]
     exact ⟨cs[k], List.getElem_mem hlt, by simp [h]⟩
    have HG := zw2 cs[k] (hcw _ (List.getElem_mem hlt))
    have HN := zqk cs[k] (hcw _ (List.getElem_mem hlt))
    have hgv : grC cs[k] = (cs[k].ok && decide (cs[k].vo = [])) := rfl
    have hd0 : ((0 : Int) < ((zb0 [] cs[k].vo).length : Int)) ↔ cs[k].vo ≠ [] := by
     rw [<- znk, zlt]
     have h1 := zkf cs[k].vo
     constructor
     ·intro h e
      have := h1.2 e
      omega
     ·intro h
      have : (zbj [] cs[k].vo).length ≠ 0 := fun e => h (h1.1 e)
      omega
    cases hg : cs[k].ok
    ·have hp := hno (by rw [hgv, hg, Bool.false_and])
     rw [hp, Bool.false_and] at hv1
     rw [hp, if_neg (by simp)] at hv2
     rw [hg] at HG
     rw [hv1, hv2]
     simp only [cqD, zav cs[k]] at HG
     simp -implicitDefEqProofs only [go_sem, hlt, zah, zav cs[k]]
     refine callF (HG) (by simp -implicitDefEqProofs only [go_sem]) ?_
     simp -implicitDefEqProofs only [go_sem]
     refine zu3 (by simp -implicitDefEqProofs only [go_sem]) ?_
     simp -implicitDefEqProofs only [go_sem]
    ·rw [hg] at HG
     rw [hg, Bool.true_and] at hgv
     generalize zb0 [] cs[k].vo = L at HN hd0
     by_cases hvo : cs[k].vo = []
     ·have hL : ((0 : Int) < (L.length : Int)) = False := by
       rw [eq_iff_iff, hd0]
       simp [hvo]
      have hpre := fun j => zu0 (cs := cs) (k := k) (j := j) hlt
      have hsu := zi6 hlt
      have hdk := zer (atC (cs.take k)) []
      rw [List.length_nil] at hdk
      have hlw := fun l (h : l ∈ cs[k].lits) => Nat.le_trans (zhe h) (hcw _ (List.getElem_mem hlt))
      have hgc : grC cs[k] = true := by rw [hgv, decide_eq_true hvo]
      have hll : cs[k].lits.length <= 1048576 := by
       have h1 := hcw _ (List.getElem_mem hlt)
       have h2 := cs[k].wt_eq
       have h3 : zf1 cs[k].lits = cs[k].lits.length + (cs[k].lits.map Li.wt).sum := rfl
       omega
      have hcq := zav cs[k]
      simp only [cqD, hcq] at HG HN
      generalize cs[k].lits = ls at hpre hsu hlw hll hcq HG HN
      simp -implicitDefEqProofs only [go_sem, hlt, zah, hcq]
      refine callF (HG) (by simp -implicitDefEqProofs only [go_sem, hlt, zah, hcq]) ?_
      simp -implicitDefEqProofs only [go_sem, hlt, zah, hcq]
      refine callF (HN) (by simp -implicitDefEqProofs only [go_sem, hL]) ?_
      simp -implicitDefEqProofs only [go_sem, hL]
      refine zag (fun j : Nat => hd [(0, vT (cqS cs)), (4, vT (tmS ((atL (ls.take j)).foldl ze5 ((atC (cs.take k)).foldl ze5 [])))), (5, vI k), (6, vI j)] [] []) (fun j => j <= ls.length) (fun j => ls.length - j) 0 (zab ?_) (Nat.zero_le _) ?_
      ·simp -implicitDefEqProofs only [go_sem]
       rfl
      ·intro j hj
       by_cases hlj : j < ls.length
       ·have hdj := zer (atL (ls.take j)) ((atC (cs.take k)).foldl ze5 [])
        have hpj := hpre j
        have HC := zxp ((atL (ls.take j)).foldl ze5 ((atC (cs.take k)).foldl ze5 [])) ls[j].atom (by omega)
        rw [show ze5 ((atL (ls.take j)).foldl ze5 ((atC (cs.take k)).foldl ze5 [])) ls[j].atom = (atL (ls.take (j + 1))).foldl ze5 ((atC (cs.take k)).foldl ze5 []) from by rw [znl hlj, List.foldl_append]; rfl] at HC
        simp only [tmD, zaa ls[j].atom] at HC
        simp -implicitDefEqProofs only [go_sem, hlt, zah, hcq, hlj, zal ls[j]]
        refine callR (HC) (by simp -implicitDefEqProofs only [go_sem]) ?_
        simp -implicitDefEqProofs only [go_sem]
        refine ⟨j + 1, hlj, by omega, zab ?_⟩
        simp -implicitDefEqProofs only [go_sem]
        rw [zas (by omega)]
       ·have ht : ls.take j = ls := List.take_of_length_le (by omega)
        simp -implicitDefEqProofs only [go_sem, hlt, zah, hcq, hlj]
        refine ⟨k + 1, ⟨hlt, ?_⟩, by omega, zab ?_⟩
        ·rw [List.take_succ_eq_append_getElem hlt, List.all_append, hr]
         simp [hgc]
        ·simp -implicitDefEqProofs only [go_sem]
         rw [zas (by omega), ht, hsu, List.foldl_append]
         exact ⟨rfl, rfl⟩
     ·have hL : ((0 : Int) < (L.length : Int)) = True := by
       rw [eq_iff_iff, hd0]
       simp [hvo]
      have hp := hno (by rw [hgv, decide_eq_false hvo])
      rw [hp, Bool.false_and] at hv1
      rw [hp, if_neg (by simp)] at hv2
      rw [hv1, hv2]
      simp only [cqD, zav cs[k]] at HG HN
      simp -implicitDefEqProofs only [go_sem, hlt, zah, zav cs[k]]
      refine callF (HG) (by simp -implicitDefEqProofs only [go_sem, hlt, zah, zav cs[k]]) ?_
      simp -implicitDefEqProofs only [go_sem, hlt, zah, zav cs[k]]
      refine callF (HN) (by simp -implicitDefEqProofs only [go_sem, hL]) ?_
      simp -implicitDefEqProofs only [go_sem, hL]
      refine zu3 (by simp -implicitDefEqProofs only [go_sem]) ?_
      simp -implicitDefEqProofs only [go_sem]
   ·have ht : cs.take k = cs := List.take_of_length_le (by omega)
    rw [ht] at hr ⊢
    rw [hr] at hv3
    rw [hv3, Bool.true_and] at hv1
    rw [hv3, if_pos rfl] at hv2
    rw [hv1, hv2, show (atC cs).foldl ze5 [] = gaL cs from rfl]
    by_cases h12 : (gaL cs).length <= 12
    ·have h12' : (((gaL cs).length : Int) <= (12 : Int)) = True := eq_true (by omega)
     rw [decide_eq_true h12]
     simp -implicitDefEqProofs only [go_sem, hlt, h12']
    ·have h12' : (((gaL cs).length : Int) <= (12 : Int)) = False := eq_false (by omega)
     rw [decide_eq_false h12]
     simp -implicitDefEqProofs only [go_sem, hlt, h12']
 ·have h40' : ((40 : Int) < (cs.length : Int)) = True := eq_true (by omega)
  rw [decide_eq_false h40, Bool.false_and] at hv3
  rw [hv3, Bool.false_and] at hv1
  rw [hv3, if_neg (by simp)] at hv2
  rw [hv1, hv2]
  refine zr1 Tryz.call32 Tryz.func32 rfl (by kernel_rfl) (za2 (by kernel_rfl)) ?_
  simp -implicitDefEqProofs only [go_sem, Tryz.results32]
  refine zzl (by simp -implicitDefEqProofs only [go_sem]) ?_
  simp -implicitDefEqProofs only [go_sem]
  simp -implicitDefEqProofs only [go_sem, h40']
  rfl
theorem zzw {cs : List Cq} {t : Tm} (h : t ∈ gaL cs) : t.wt <= zhp cs := atC_wt (ga_mem.1 h)
theorem zes (cs : List Cq) (hw : zhp cs <= 1048576) : FC Tryz.prog 8 [.one (cqS cs)] [.one (tmS (gaR cs)), bD (zvx cs)] := by
 have HA := zpm cs hw
 have hv2 : gaR cs = if zvx cs = true then gaL cs else [] := rfl
 have hv1 := zun cs
 have hv3 : gaA cs = if gaP cs = true then gaL cs else [] := rfl
 have htw := fun t (h : t ∈ gaL cs) => Nat.le_trans (zzw h) hw
 cases hg : zvx cs
 ·rw [hg, if_neg (by simp)] at hv2
  rw [hv2]
  rw [hg] at HA
  refine zap Tryz.call8 Tryz.func8 rfl (by kernel_rfl) (za2 (by kernel_rfl)) ?_
  simp -implicitDefEqProofs only [go_sem, Tryz.results8]
  refine callR (HA) (by simp -implicitDefEqProofs only [go_sem]) ?_
  simp -implicitDefEqProofs only [go_sem]
  refine zcf (by simp -implicitDefEqProofs only [go_sem]) ?_
  simp -implicitDefEqProofs only [go_sem]
 ·rw [hg] at hv1
  have hp := (Bool.and_eq_true _ _).mp hv1.symm
  have hl : (gaL cs).length <= 12 := of_decide_eq_true hp.2
  rw [hp.1, if_pos rfl] at hv3
  rw [hg, if_pos rfl] at hv2
  rw [hv2]
  rw [hg, hv3] at HA
  generalize gaL cs = L at HA htw hl ⊢
  refine zap Tryz.call8 Tryz.func8 rfl (by kernel_rfl) (za2 (by kernel_rfl)) ?_
  simp -implicitDefEqProofs only [go_sem, Tryz.results8]
  refine callR (HA) (by simp -implicitDefEqProofs only [go_sem]) ?_
  simp -implicitDefEqProofs only [go_sem]
  refine zcf (by simp -implicitDefEqProofs only [go_sem]) ?_
  simp -implicitDefEqProofs only [go_sem]
  refine zag (fun k : Nat => hd [(4, vT (tmS L)), (6, .one (.ow 512 0)), (7, vI k)] [] [(512, ⟨true, 2, (L.take k).map tmC, 0, true⟩)]) (fun k => k <= L.length) (fun k => L.length - k) 0 (zab ?_) (Nat.zero_le _) ?_
  ·simp -implicitDefEqProofs only [go_sem]
  ·intro k hk
   by_cases hlt : k < L.length
   ·have HO := qan L[k] (htw _ (List.getElem_mem hlt))
    have ha : k <= 4294967295 := by omega
    have hlk : (L.take k).length = k := by rw [List.length_take]; omega
    simp only [tmD, zaa L[k]] at HO
    simp -implicitDefEqProofs only [go_sem, hlt, zah, zaa L[k]]
    refine callF (HO) (by simp -implicitDefEqProofs only [go_sem]) ?_
    simp -implicitDefEqProofs only [go_sem]
    refine zcf (by simp -implicitDefEqProofs only [go_sem]) ?_
    simp -implicitDefEqProofs only [go_sem]
    refine apD true (by simp -implicitDefEqProofs only [go_sem, ne_eq, List.length_map, hlk, ha]) ?_
    simp -implicitDefEqProofs only [go_sem, ne_eq, List.length_map, hlk, ha]
    refine ⟨k + 1, hlt, by omega, zab ?_⟩
    simp -implicitDefEqProofs only [go_sem]
    rw [zas (by omega), List.take_succ_eq_append_getElem hlt, List.map_append, List.map_singleton, zaa L[k]]
    exact ⟨rfl, rfl⟩
   ·have ht : L.take k = L := List.take_of_length_le (by omega)
    simp -implicitDefEqProofs only [go_sem, hlt, ht]
end Go.Proofs.YtnkagnjiljjpcaaGreat
namespace Go.Proofs.YtnkagnjiljjpcaaGreat
set_option linter.unusedSimpArgs false
set_option linter.unusedVariables false
set_option linter.unusedSectionVars false
set_option maxRecDepth 4000
open Go.RowKit
def zfh : Li -> Nat -> Li × Nat
 | ⟨b0, .mk n0 s0⟩, k => (⟨((((k : Nat) : Int).tmod 3) == 0), .mk (mtx (k + 1)) (za0 s0 ((k + 1) + 1)).1⟩, (za0 s0 ((k + 1) + 1)).2)
def zch : List Li -> Nat -> List Li × Nat
 | [], k => ([], k)
 | a :: xs, k => ((zfh a k).1 :: (zch xs (zfh a k).2).1, (zch xs (zfh a k).2).2)
def zg5 : Li -> Nat
 | ⟨b0, .mk n0 s0⟩ => 1 + 1 + 1 + zby s0
def zet : List Li -> Nat
 | [] => 0
 | a :: xs => zg5 a + zet xs
theorem zvn : ∀ (a : Li) (k : Nat), k <= (zfh a k).2 /\ (zfh a k).2 <= k + zg5 a
 | ⟨b0, .mk n0 s0⟩, k => by have h_s0 := zc4 s0 ((k + 1) + 1); simp only [zfh, zg5]; omega
theorem zjv : ∀ (xs : List Li) (k : Nat), k <= (zch xs k).2 /\ (zch xs k).2 <= k + zet xs
 | [], k => ⟨Nat.le_refl _, Nat.le_refl _⟩
 | a :: xs, k => by have h1 := zvn a k; have h2 := zjv xs (zfh a k).2; simp only [zch, zet]; omega
theorem zk4 : ∀ xs : List Li, xs.length <= zet xs
 | [] => Nat.le_refl _
 | a :: xs => by
  have := zk4 xs
  have : 1 <= zg5 a := by obtain ⟨b0, ⟨n0, s0⟩⟩ := a; simp only [zg5]; omega
  simp only [List.length_cons, zet]; omega
theorem zga (xs : List Li) :
  ∀ k : Nat, 0 < k -> k + zet xs <= 4611686018427387904 -> IC Tryz.prog 41 [] (.one (liS xs)) [iD k] (.one (liS (zch xs k).1)) [iD (zch xs k).2] := by
 intro k h0 hk
 refine zvi Tryz.call41 Tryz.func41 rfl (by kernel_rfl) (by simp only [zds, rd, List.map_cons, List.map_nil, List.nil_append, List.length_cons, List.length_nil, Tryz.ntmps41]; omega) (by simp only [Tryz.ntmps41]; omega) (fun vs => ?_)
 simp -implicitDefEqProofs only [go_sem, Tryz.results41, zx8, zqd, zds, PI]
 refine zag (fun (x : List Li × List Li × Nat) => hd [(0, .one (.ow 0 0)), (1000000, .one (.ow 0 0)), (1, vI x.2.2), (5, vI x.1.length)] [] [(0, ⟨true, 3, x.1.map liC ++ zdq vs x.1.length (x.2.1.map liC), 0, true⟩)])
  (fun x => (zch xs k).1 = x.1 ++ (zch x.2.1 x.2.2).1 /\ (zch xs k).2 = (zch x.2.1 x.2.2).2 /\ 0 < x.2.2 /\ x.2.2 + zet x.2.1 <= 4611686018427387904 /\ x.1.length + x.2.1.length = xs.length /\ ∀ a ∈ x.2.1, a ∈ xs) (fun x => x.2.1.length) ([], xs, k) (zab ?_) ?_ ?_
 ·simp -implicitDefEqProofs only [go_sem]
 ·exact ⟨rfl, rfl, h0, hk, by simp, fun _ h => h⟩
 ·intro ⟨dn, rest, kk⟩ ⟨h1, h2, h3, h4, h6, h5⟩
  simp only at h1 h2 h3 h4 h5 h6
  cases rest with
  | nil =>
   simp only [zch, List.append_nil] at h1 h2
   simp -implicitDefEqProofs only [go_sem, h1, h2]
  | cons a rest =>
   obtain ⟨b0, ⟨n0, s0⟩⟩ := a
   simp only [zch, zfh, zet, zg5] at h1 h2 h4
   have hc_s0 := zc4 s0 ((kk + 1) + 1)
   have w0 : IntKind.i64.wrap (((kk : Nat) : Int) + 1) = ((kk + 1 : Nat) : Int) := zas (by omega)
   have m1 : (((kk : Nat) : Int)).tmod 3 = ((kk % 3 : Nat) : Int) := by rw [Int.tmod_eq_emod_of_nonneg (by omega)]; omega
   have w1 : IntKind.i64.wrap ((((kk + 1) : Nat) : Int) + 1) = (((kk + 1) + 1 : Nat) : Int) := zas (by omega)
   have hln := zk4 xs
   rw [List.length_cons] at h6
   have wl : IntKind.i64.wrap ((dn.length : Int) + 1) = ((dn.length + 1 : Nat) : Int) := zas (by omega)
   simp -implicitDefEqProofs only [go_sem, zal, Tm.name, Tm.args]
   refine ⟨by omega, ?_⟩
   refine zgl (by simp -implicitDefEqProofs only [go_sem, implies_true, w0, w1]) ?_
   simp -implicitDefEqProofs only [go_sem, implies_true, w0, w1]
   refine callF (ze7 (kk + 1) (by omega) (by omega)) (by simp -implicitDefEqProofs only [go_sem, w0, w1]) ?_
   simp -implicitDefEqProofs only [go_sem, w0, w1]
   refine zgl (by simp -implicitDefEqProofs only [go_sem, implies_true, w0, w1]) ?_
   simp -implicitDefEqProofs only [go_sem, implies_true, w0, w1]
   refine qck (l := [(0, .one (.ow 0 0)), (1000000, .one (.ow 0 0)), (5, vI dn.length), (35, .one (.cv (vs dn.length 2))), (36, vI (((kk + 1) + 1) : Nat))]) (bl := []) (el := [(0, ⟨true, 3, dn.map liC ++ [.bool ((((kk : Nat) : Int).tmod 3) == 0), .str (mtx (kk + 1)), .pin (vs dn.length 2) (tmS s0)] :: zdq vs (dn.length + 1) (rest.map liC), 0, true⟩)]) 0 dn.length 2 (zgs s0 ((kk + 1) + 1) (by omega) (by omega)) (by simp -implicitDefEqProofs only [go_sem, w0, w1, tmS]) rfl rfl rfl (by simp -implicitDefEqProofs only [go_sem, tmS, Tm.name, Tm.args]) rfl ?_
   simp -implicitDefEqProofs only [go_sem, w0, w1, Tm.name, Tm.args]
   refine ⟨(dn ++ [⟨((((kk : Nat) : Int).tmod 3) == 0), .mk (mtx (kk + 1)) (za0 s0 ((kk + 1) + 1)).1⟩], rest, (za0 s0 ((kk + 1) + 1)).2), ⟨by simpa using h1, h2, by show 0 < (za0 s0 ((kk + 1) + 1)).2; omega, by show (za0 s0 ((kk + 1) + 1)).2 + zet rest <= _; omega, by simp; omega, fun b hb => h5 b (by simp [hb])⟩, by simp, zab ?_⟩
   simp -implicitDefEqProofs only [go_sem, wl, zal, Tm.name, Tm.args, List.map_append, List.append_assoc]
theorem zhr (xs : List Li) (k : Nat) (h0 : 0 < k) (hk : k + zet xs <= 4611686018427387904) : IC Tryz.prog 41 [] (.one (liS xs)) [iD k] (.one (liS (zch xs k).1)) [iD (zch xs k).2] := zga xs k h0 hk
def zfp : Cq -> Nat -> Cq × Nat
 | ⟨l0⟩, k => (⟨(zch l0 k).1⟩, (zch l0 k).2)
def zdb : List Cq -> Nat -> List Cq × Nat
 | [], k => ([], k)
 | a :: xs, k => ((zfp a k).1 :: (zdb xs (zfp a k).2).1, (zdb xs (zfp a k).2).2)
def zhg : Cq -> Nat
 | ⟨l0⟩ => 1 + zet l0
def zfr : List Cq -> Nat
 | [] => 0
 | a :: xs => zhg a + zfr xs
theorem zry : ∀ (a : Cq) (k : Nat), k <= (zfp a k).2 /\ (zfp a k).2 <= k + zhg a
 | ⟨l0⟩, k => by have h_l0 := zjv l0 k; simp only [zfp, zhg]; omega
theorem zo2 : ∀ (xs : List Cq) (k : Nat), k <= (zdb xs k).2 /\ (zdb xs k).2 <= k + zfr xs
 | [], k => ⟨Nat.le_refl _, Nat.le_refl _⟩
 | a :: xs, k => by have h1 := zry a k; have h2 := zo2 xs (zfp a k).2; simp only [zdb, zfr]; omega
theorem zki : ∀ xs : List Cq, xs.length <= zfr xs
 | [] => Nat.le_refl _
 | a :: xs => by
  have := zki xs
  have : 1 <= zhg a := by obtain ⟨l0⟩ := a; simp only [zhg]; omega
  simp only [List.length_cons, zfr]; omega
theorem zhs (xs : List Cq) :
  ∀ k : Nat, 0 < k -> k + zfr xs <= 4611686018427387904 -> IC Tryz.prog 13 [] (.one (cqS xs)) [iD k] (.one (cqS (zdb xs k).1)) [iD (zdb xs k).2] := by
 intro k h0 hk
 refine zvi Tryz.call13 Tryz.func13 rfl (by kernel_rfl) (by simp only [zds, rd, List.map_cons, List.map_nil, List.nil_append, List.length_cons, List.length_nil, Tryz.ntmps13]; omega) (by simp only [Tryz.ntmps13]; omega) (fun vs => ?_)
 simp -implicitDefEqProofs only [go_sem, Tryz.results13, zx8, zqd, zds, PI]
 refine zag (fun (x : List Cq × List Cq × Nat) => hd [(0, .one (.ow 0 0)), (1000000, .one (.ow 0 0)), (1, vI x.2.2), (5, vI x.1.length)] [] [(0, ⟨true, 1, x.1.map cqC ++ zdq vs x.1.length (x.2.1.map cqC), 0, true⟩)])
  (fun x => (zdb xs k).1 = x.1 ++ (zdb x.2.1 x.2.2).1 /\ (zdb xs k).2 = (zdb x.2.1 x.2.2).2 /\ 0 < x.2.2 /\ x.2.2 + zfr x.2.1 <= 4611686018427387904 /\ x.1.length + x.2.1.length = xs.length /\ ∀ a ∈ x.2.1, a ∈ xs) (fun x => x.2.1.length) ([], xs, k) (zab ?_) ?_ ?_
 ·simp -implicitDefEqProofs only [go_sem]
 ·exact ⟨rfl, rfl, h0, hk, by simp, fun _ h => h⟩
 ·intro ⟨dn, rest, kk⟩ ⟨h1, h2, h3, h4, h6, h5⟩
  simp only at h1 h2 h3 h4 h5 h6
  cases rest with
  | nil =>
   simp only [zdb, List.append_nil] at h1 h2
   simp -implicitDefEqProofs only [go_sem, h1, h2]
  | cons a rest =>
   obtain ⟨l0⟩ := a
   simp only [zdb, zfp, zfr, zhg] at h1 h2 h4
   have hc_l0 := zjv l0 kk
   have hln := zki xs
   rw [List.length_cons] at h6
   have wl : IntKind.i64.wrap ((dn.length : Int) + 1) = ((dn.length + 1 : Nat) : Int) := zas (by omega)
   simp -implicitDefEqProofs only [go_sem, zav]
   refine qck (l := [(0, .one (.ow 0 0)), (1000000, .one (.ow 0 0)), (5, vI dn.length), (16, .one (.cv (vs dn.length 0))), (17, vI (kk : Nat))]) (bl := []) (el := [(0, ⟨true, 1, dn.map cqC ++ [.pin (vs dn.length 0) (liS l0)] :: zdq vs (dn.length + 1) (rest.map cqC), 0, true⟩)]) 0 dn.length 0 (zhr l0 kk (by omega) (by omega)) (by simp -implicitDefEqProofs only [go_sem, liS]) rfl rfl rfl (by simp -implicitDefEqProofs only [go_sem, liS]) rfl ?_
   simp -implicitDefEqProofs only [go_sem, wl]
   refine ⟨(dn ++ [⟨(zch l0 kk).1⟩], rest, (zch l0 kk).2), ⟨by simpa using h1, h2, by show 0 < (zch l0 kk).2; omega, by show (zch l0 kk).2 + zfr rest <= _; omega, by simp; omega, fun b hb => h5 b (by simp [hb])⟩, by simp, zab ?_⟩
   simp -implicitDefEqProofs only [go_sem, wl, zav, List.map_append, List.append_assoc]
theorem zi8 (xs : List Cq) (k : Nat) (h0 : 0 < k) (hk : k + zfr xs <= 4611686018427387904) : IC Tryz.prog 13 [] (.one (cqS xs)) [iD k] (.one (cqS (zdb xs k).1)) [iD (zdb xs k).2] := zhs xs k h0 hk
end Go.Proofs.YtnkagnjiljjpcaaGreat
namespace Go.Proofs.YtnkagnjiljjpcaaGreat
set_option linter.unusedSimpArgs false
set_option linter.unusedVariables false
set_option linter.unusedSectionVars false
set_option maxRecDepth 4000
open Go.RowKit
theorem zny : ∀ xs : List Li, zet xs <= 3 * zf1 xs
 | [] => Nat.zero_le _
 | a :: xs => by
  obtain ⟨b, n, s⟩ := a
  have h1 := zny xs
  have h2 := zf0 s
  have h3 : (Li.mk b (.mk n s)).wt = (Tm.mk n s).wt := rfl
  have h4 := Tm.wt_eq (.mk n s)
  simp only [Tm.name, Tm.args] at h4
  unfold zf1 at h1 ⊢
  unfold zm3 at h2
  rw [zet, zg5, List.length_cons, List.map_cons, List.sum_cons]
  omega
theorem zn0 : ∀ xs : List Cq, zfr xs <= 3 * zhp xs
 | [] => Nat.zero_le _
 | a :: xs => by
  obtain ⟨l⟩ := a
  have h1 := zn0 xs
  have h2 := zny l
  have h3 : (Cq.mk l).wt = zf1 l := rfl
  unfold zhp at h1 ⊢
  rw [zfr, zhg, List.length_cons, List.map_cons, List.sum_cons]
  omega
theorem zzp {α : Type} (f : α -> Nat) (B : Nat) : ∀ xs : List α, (∀ x ∈ xs, f x <= B) -> (xs.map f).sum <= xs.length * B
 | [], _ => by simp
 | a :: xs, h => by
  have h1 := zzp f B xs fun x hx => h x (by simp [hx])
  have h2 := h a (by simp)
  rw [List.map_cons, List.sum_cons, List.length_cons, Nat.add_mul]
  omega
theorem gaR_wt (cs : List Cq) (hw : zhp cs <= 1048576) : zm3 (gaR cs) <= 12 + 12 * 1048576 := by
 unfold gaR
 split
 ·rename_i h
  rw [zun, Bool.and_eq_true] at h
  have hl : (gaL cs).length <= 12 := of_decide_eq_true h.2
  have h1 := zzp Tm.wt 1048576 (gaL cs) fun t ht => Nat.le_trans (zzw ht) hw
  have h2 := Nat.mul_le_mul_right 1048576 hl
  unfold zm3
  omega
 ·exact Nat.zero_le _
set_option maxHeartbeats 4000000 in
theorem qb9 (cs : List Cq) : FC Tryz.prog 3 [.one (cqS cs)] [bD true] := by
 have HZ := zmc cs 1048576 (by omega) (by omega)
 refine zht Tryz.call3 Tryz.func3 rfl (by kernel_rfl) (za2 (by kernel_rfl)) ?_
 simp -implicitDefEqProofs only [go_sem, Tryz.results3]
 refine callF (HZ) (by simp -implicitDefEqProofs only [go_sem]) ?_
 simp -implicitDefEqProofs only [go_sem]
 refine ⟨fun h => trivial, fun h => ?_⟩
 obtain ⟨hw1, hw2⟩ := zd1 (show ¬ szR (zhp cs) 1048576 < 0 by simpa using h)
 have hw : zhp cs <= 1048576 := by omega
 have HS := zes cs hw
 have HI := zey cs hw
 have HT := zmg cs hw
 have HE := zma cs cs
 have hRw := gaR_wt cs hw
 generalize gaR cs = R at HS HI hRw
 generalize zvx cs = G at HS HI
 have HF := zu7 R R
 have n2 : ∀ b : Bool, (b != b) = false := by decide
 refine callF (HT) (by simp -implicitDefEqProofs only [go_sem]) ?_
 simp -implicitDefEqProofs only [go_sem]
 refine callF (HS) (by simp -implicitDefEqProofs only [go_sem]) ?_
 simp -implicitDefEqProofs only [go_sem]
 refine callF (HT) (by simp -implicitDefEqProofs only [go_sem]) ?_
 simp -implicitDefEqProofs only [go_sem]
 refine callF (HI) (by simp -implicitDefEqProofs only [go_sem]) ?_
 simp -implicitDefEqProofs only [go_sem]
 refine callF (HF) (by simp -implicitDefEqProofs only [go_sem, za6, beq_self_eq_true, bne_self_eq_false, Bool.not_true, n2]) ?_
 simp -implicitDefEqProofs only [go_sem, za6, beq_self_eq_true, bne_self_eq_false, Bool.not_true, n2]
 refine callF (HT) (by simp -implicitDefEqProofs only [go_sem]) ?_
 simp -implicitDefEqProofs only [go_sem]
 refine callF (HE) (by simp -implicitDefEqProofs only [go_sem, za6]) ?_
 simp -implicitDefEqProofs only [go_sem, za6]
 have hc1 := zn0 cs
 have hcR := zf0 R
 have HM := zi8 cs 1 (by omega) (by omega)
 have hm := zo2 cs 1
 have HM2 := zgs R 1 (by omega) (by omega)
 have HL := zmu R 1 (by omega) (by omega)
 have hmR := (zc4 R 1).1
 generalize (zdb cs 1).2 = k1 at HM hm
 generalize (zdb cs 1).1 = f2 at HM
 generalize (za0 R 1).2 = k2 at HM2 HL hmR
 generalize (za0 R 1).1 = r1 at HM2 HL
 refine zmq [0, 4, 5, 7, 8, 46, 47] (HM) (by simp -implicitDefEqProofs only [go_sem]) (by simp -implicitDefEqProofs only [go_sem]) (by simp -implicitDefEqProofs only [go_sem]) (by simp -implicitDefEqProofs only [go_sem]) (by simp -implicitDefEqProofs only [go_sem]) rfl ?_
 simp -implicitDefEqProofs only [go_sem]
 refine callF (HF) (by simp -implicitDefEqProofs only [go_sem, za6, beq_self_eq_true, bne_self_eq_false, Bool.not_true, n2]) ?_
 simp -implicitDefEqProofs only [go_sem, za6, beq_self_eq_true, bne_self_eq_false, Bool.not_true, n2]
 refine zmq [0, 4, 5, 7, 62, 63] (HM2) (by simp -implicitDefEqProofs only [go_sem]) (by simp -implicitDefEqProofs only [go_sem]) (by simp -implicitDefEqProofs only [go_sem]) (by simp -implicitDefEqProofs only [go_sem]) (by simp -implicitDefEqProofs only [go_sem]) rfl ?_
 simp -implicitDefEqProofs only [go_sem]
 refine callF (HL) (by simp -implicitDefEqProofs only [go_sem]) ?_
 simp -implicitDefEqProofs only [go_sem]
 refine ⟨fun h => by simp at h, fun _ => ?_⟩
 refine callF (HT) (by simp -implicitDefEqProofs only [go_sem]) ?_
 simp -implicitDefEqProofs only [go_sem]
 refine callF (HI) (by simp -implicitDefEqProofs only [go_sem]) ?_
 simp -implicitDefEqProofs only [go_sem]
 refine callF (HF) (by simp -implicitDefEqProofs only [go_sem, za6, beq_self_eq_true, bne_self_eq_false, Bool.not_true, n2]) ?_
 simp -implicitDefEqProofs only [go_sem, za6, beq_self_eq_true, bne_self_eq_false, Bool.not_true, n2]
 refine callF (HL) (by simp -implicitDefEqProofs only [go_sem]) ?_
 simp -implicitDefEqProofs only [go_sem]
 refine ⟨fun h => by simp at h, fun _ => trivial⟩
end Go.Proofs.YtnkagnjiljjpcaaGreat
