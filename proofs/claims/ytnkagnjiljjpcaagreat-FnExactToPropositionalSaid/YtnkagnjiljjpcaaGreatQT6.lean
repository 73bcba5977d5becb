/-
  The walk over plain data, and contracts of functions of the program and of its laws.
  Conditions: those that each theorem names.
-/
import Derived.Test.YtnkagnjiljjpcaaGreatQT5
import Derived.Shelf.GgSortFunc.InsertionK
import Derived.Lone
import Derived.Calls
import Derived.Shelf.SlSortCmp.NoneTotal
import Derived.Test.YtnkagnjiljjpcaaGreatQT4
import Derived.Lib.SliceRun
import Derived.Deep.LoopGhost
namespace Go.Proofs.YtnkagnjiljjpcaaGreat
set_option linter.unusedSimpArgs false
set_option linter.unusedVariables false
set_option linter.unusedSectionVars false
set_option maxRecDepth 4000
open Go.RowKit
variable {P : Program}
theorem qc2 {σ : St} {g : Gh} {w : World} {e : Nat} {x : Ev} (he : σ.ev e = none) : ∀ {c : C} {v : Value}, CR σ g w c v -> C.fs e x c = c := fun {c v} hc => by
 have key : ∀ e' n, σ.has e' n -> e' ≠ e := fun e' n ⟨y, hy, _⟩ h => by
  rw [h, he] at hy; cases hy
 cases c with
 | ow e' n =>
  show (if e' = e then (if n = x.gen then C.t (.sl x.sz x.rows) else .any) else .ow e' n) = _
  rw [if_neg (key e' n hc.2)]
 | eo e' s sz i o =>
  obtain ⟨b, n, c, h1, h2, h3, h4⟩ := hc
  show (if e' = e then C.any else .eo e' s sz i o) = _
  rw [if_neg (key e' s h4)]
 | _ => rfl
theorem zqt {σ : St} {g : Gh} {w : World} {e : Nat} {x : Ev} (he : σ.ev e = none) : ∀ {cs : List C} {vs : List Value}, CRs σ g w cs vs -> cs.map (C.fs e x) = cs
 | [], _, _ => rfl
 | c :: cs, _, h => by
  obtain ⟨v, vs', rfl, h1, h2⟩ := h
  rw [List.map_cons, qc2 he h1, zqt he h2]
theorem nor_t {σ : St} {g : Gh} {w : World} {e : Nat} {x : Ev} (he : σ.ev e = none) : ∀ {xs : List (Bool × List C)} {vs : List Value}, CRt σ g w xs vs -> xs.map (fun y => (y.1, y.2.map (C.fs e x))) = xs
 | [], _, _ => rfl
 | y :: ys, _, h => by
  obtain ⟨v, vs', rfl, h1, h2⟩ := h
  rw [List.map_cons, nor_t he h2]
  obtain ⟨b, cs⟩ := y
  unfold CRx at h1
  simp only at h1 ⊢
  split at h1
  ·obtain ⟨a, _, h1⟩ := h1
   rw [zqt he h1]
  ·obtain ⟨c, rfl, h1⟩ := h1
   rw [List.map_cons, qc2 he h1, List.map_nil]
theorem nor_v {σ : St} {g : Gh} {w : World} {e : Nat} {x : Ev} (he : σ.ev e = none) {y : V} {v : Value} (h : VR σ g w y v) : V.map (C.fs e x) y = y := by
 cases y with
 | one c => exact congrArg V.one (qc2 he h)
 | agg cs => obtain ⟨a, _, h⟩ := h; exact congrArg V.agg (zqt he h)
 | tup xs => obtain ⟨vs, _, h⟩ := h; exact congrArg V.tup (nor_t he h)
section
variable {ks : List Fr} {Q : Exit -> St -> Prop} {σ : St} {ops : Array Oper} {os : List Oper} {L : List (List Ky × List Ky)} {d : Nat} {t : TypeId} {ty : TypeId} {ps : String} {af : Array Edge} {len : Nat} {parts : Array (Nat × Operand)} {n : Nat} {rs : List (List C)} {rows : List (List T)}
theorem zps (h : zh1 P (σ.get P) t len parts = some (n, rs) /\ znk σ rs = some rows /\ σ.ev (d * 32) = none) : zae P ⟨some d, .buildSlice t len parts, ty, ps, af, none⟩ σ (σ.put (some d) (.one (.t (.sl n rows)))) := fun n0 N g a w hR hn hdN => by
 refine Oper.wp_mono ?_ (zjc (P := P) (ty := ty) (ps := ps) (af := af) h n0 N g a w hR hn hdN)
 rintro a' w' ⟨g', r1, r2, r3, r4⟩
 have he := h.2.2
 obtain ⟨g2, s1, s2, s3⟩ := fs_wk (σ := (σ.apd (d * 32) [] ⟨false, n, rows, 0, true⟩).put (some d) (.one (.ow (d * 32) 0))) (e := d * 32) (x := ⟨false, n, rows, 0, true⟩) (zah _ _ _) rfl rfl n0 N g' a' w' r1
 refine ⟨g2, ?_, r2, s2.trans r3, s3.trans r4⟩
 have e1 : ((σ.apd (d * 32) [] ⟨false, n, rows, 0, true⟩).put (some d) (.one (.ow (d * 32) 0))).fs (d * 32) ⟨false, n, rows, 0, true⟩ = σ.put (some d) (.one (.t (.sl n rows))) := by
  have q1 : fsS (upd σ.sl d (.one (.ow (d * 32) 0))) (d * 32) ⟨false, n, rows, 0, true⟩ = upd σ.sl d (.one (.t (.sl n rows))) := funext fun i => by
   show V.map _ (upd σ.sl d _ i) = _
   by_cases hi : i = d
   ·subst hi
    rw [zah, zah]
    show V.one (C.fs _ _ (.ow _ 0)) = _
    simp [C.fs]
   ·rw [zal _ _ hi, zal _ _ hi]
    exact nor_v he (hR.slots i)
  have q2 : fsB σ.bx (d * 32) ⟨false, n, rows, 0, true⟩ = σ.bx := funext fun b => by
   show (σ.bx b).map _ = _
   cases hb : σ.bx b with
   | none => rfl
   | some cs =>
    obtain ⟨vs, ty', k1, k2⟩ := hR.boxes b cs hb
    exact congrArg some (zqt he k2)
  have q3 : fsE (upd σ.ev (d * 32) (some ⟨false, n, rows, 0, true⟩)) (d * 32) = σ.ev := funext fun k => by
   show (if k = d * 32 then none else upd σ.ev (d * 32) _ k) = _
   by_cases hk : k = d * 32
   ·rw [if_pos hk, hk, he]
   ·rw [if_neg hk, zal _ _ hk]
  show St.mk (fsS (upd σ.sl d (.one (.ow (d * 32) 0))) (d * 32) ⟨false, n, rows, 0, true⟩) (fsB σ.bx (d * 32) ⟨false, n, rows, 0, true⟩) (fsE (upd σ.ev (d * 32) (some ⟨false, n, rows, 0, true⟩)) (d * 32)) = _
  rw [q1, q2, q3]
  rfl
 rw [e1] at s1
 exact s1
def slOf : Option (Ev × List (Nat × Ev)) -> T
 | some (x, _) => .sl x.sz x.rows
 | none => .sl 0 []
theorem qbn (h : zap (blS P σ t len parts) fun _ => σ.ev (d * 32) = none) (k : exo P ops os ks Q (σ.put (some d) (.one (.t (slOf (blS P σ t len parts)))))) : exo P ops (⟨some d, .buildSlice t len parts, ty, ps, af, none⟩ :: os) ks Q σ := by
 obtain ⟨⟨x, cons⟩, h1, h2⟩ := zao h
 rw [h1] at k
 unfold blS at h1
 obtain ⟨p, e1, h1⟩ := Option.bind_eq_some_iff.1 h1
 obtain ⟨q, e2, h1⟩ := Option.map_eq_some_iff.1 h1
 simp only [Prod.mk.injEq] at h1
 obtain ⟨rfl, rfl⟩ := h1
 exact zcf rfl rfl (zps ⟨e1, e2, h2⟩) k
theorem zm5 (h : zap (blS P σ t len parts) fun _ => σ.ev (d * 32) = none)
  (k : exd P ops os (L ++ [(zaq (parts.toList.map (·.2)) ++ (rK (zy3 (zh1 P (σ.get P) t len parts)) ++ [(2, d * 32)]), dK (some d) ++ eK [])]) ks Q (σ.put (some d) (.one (.t (slOf (blS P σ t len parts)))))) :
  exd P ops (⟨some d, .buildSlice t len parts, ty, ps, af, none⟩ :: os) L ks Q σ := by
 obtain ⟨⟨x, cons⟩, h1, h2⟩ := zao h
 rw [h1] at k
 unfold blS at h1
 obtain ⟨p, e1, h1⟩ := Option.bind_eq_some_iff.1 h1
 obtain ⟨q, e2, h1⟩ := Option.map_eq_some_iff.1 h1
 simp only [Prod.mk.injEq] at h1
 obtain ⟨rfl, rfl⟩ := h1
 rw [e1] at k
 refine zf2 rfl rfl ?_ k
 have := zh3.of (P := P) (σ := σ) (o := ⟨some d, .buildSlice t len parts, ty, ps, af, none⟩) (l := []) (v := .one (.t (.sl p.1 q))) (R := zaq (parts.toList.map (·.2)) ++ (rK p.2 ++ [(2, d * 32)])) (za9 (zbo _) (za9 (zxu _) rfl)) fun σ1 h1 => ?_
 ·exact this
 ·have e3 : zh1 P (σ1.get P) t len parts = zh1 P (σ.get P) t len parts := zkg fun t x hx => zb6 (fun k hk => h1 k (by simp [hk])) hx t
  have e4 : znk σ1 p.2 = znk σ p.2 := zjk fun k hk => h1 k (by simp [hk])
  exact zps ⟨e3.trans e1, e4.trans e2, (Eq.symm (h1 (2, d * 32) (by simp))).trans h2⟩
end
attribute [go_sem] slOf
end Go.Proofs.YtnkagnjiljjpcaaGreat
namespace Go.Proofs.YtnkagnjiljjpcaaGreat
set_option linter.unusedSimpArgs false
set_option linter.unusedVariables false
set_option linter.unusedSectionVars false
set_option maxRecDepth 4000
open Go.RowKit
theorem zoy (x : Int) : FC Tryz.prog 150 [iD x] [bD false] := by
 refine zan Tryz.call150 Tryz.func150 rfl (by kernel_rfl) (za3 (by kernel_rfl)) ?_
 simp -implicitDefEqProofs only [go_sem, Tryz.results150]
 simp
def zxq (a b : Int) : Int := if a < b then -1 else if b < a then 1 else 0
theorem zph (x y : Int) : FC Tryz.prog 93 [iD x, iD y] [iD (zxq x y)] := by
 have hc : zxq x y = if x < y then -1 else if y < x then 1 else 0 := rfl
 refine zan Tryz.call93 Tryz.func93 rfl (by kernel_rfl) (za3 (by kernel_rfl)) ?_
 simp -implicitDefEqProofs only [go_sem, Tryz.results93]
 refine callF (zoy x) (by simp -implicitDefEqProofs only [go_sem]) ?_
 simp -implicitDefEqProofs only [go_sem]
 refine callF (zoy y) (by simp -implicitDefEqProofs only [go_sem]) ?_
 simp -implicitDefEqProofs only [go_sem]
 refine ⟨fun h => ?_, fun h => ⟨fun h2 => ?_, fun h2 => ?_⟩⟩
 ·rw [hc, if_pos (by simpa using h)]
 ·rw [hc, if_neg (by simpa using h), if_pos (by simpa using h2)]
 ·rw [hc, if_neg (by simpa using h), if_neg (by simpa using h2)]
theorem qau (m n : Nat) : zxq (m : Int) (n : Int) = qcu m n := by
 unfold zxq qcu
 simp only [Int.ofNat_lt]
theorem zv2 (x y : Int) : FC Tryz.prog 91 [.one (.sl 1 [[.int .i64 x], [.int .i64 y]])] [iD (orE x y)] := by
 have hv : orE x y = if x = 0 then y else x := rfl
 refine zan Tryz.call91 Tryz.func91 rfl (by kernel_rfl) (za3 (by kernel_rfl)) ?_
 simp -implicitDefEqProofs only [go_sem, Tryz.results91]
 refine zag (fun k : Nat => hd [(3, vI 0), (6, vT (.sl 1 [[.int .i64 x], [.int .i64 y]])), (7, vI (2 : Nat)), (8, vI k)] [] []) (fun k => k = 0 \/ (k = 1 /\ x = 0) \/ (k = 2 /\ x = 0 /\ y = 0)) (fun k => 2 - k) 0 (zab ?_) (Or.inl rfl) ?_
 ·simp -implicitDefEqProofs only [go_sem]
 ·rintro k (rfl | ⟨rfl, hx⟩ | ⟨rfl, hx, hy⟩)
  ·simp -implicitDefEqProofs only [go_sem, List.getD_cons_zero, List.length_cons, List.length_nil]
   refine ⟨fun h => ?_, fun h => ?_⟩
   ·rw [hv, if_neg (by simpa using h)]
   ·refine ⟨1, Or.inr (Or.inl ⟨rfl, by simpa using h⟩), by omega, zab ?_⟩
    simp -implicitDefEqProofs only [go_sem]
    rfl
  ·simp -implicitDefEqProofs only [go_sem, List.getD_cons_zero, List.getD_cons_succ, List.length_cons, List.length_nil]
   refine ⟨fun h => ?_, fun h => ?_⟩
   ·rw [hv, if_pos hx]
   ·refine ⟨2, Or.inr (Or.inr ⟨rfl, hx, by simpa using h⟩), by omega, zab ?_⟩
    simp -implicitDefEqProofs only [go_sem]
    rfl
  ·simp -implicitDefEqProofs only [go_sem, List.length_cons, List.length_nil]
   rw [hv, if_pos hx, hy]
theorem zi7 (xs ys : List Tm) (hl : xs.length = ys.length) (H : ∀ x ∈ xs, ∀ y ∈ ys, FC Tryz.prog 39 [tmD x, tmD y] [iD (zb9 x y)]) : FC Tryz.prog 94 [.one (tmS xs), .one (tmS ys), .one (.fn 39 [])] [iD (zdc xs ys)] := by
 refine zbw (fun hw => ?_) Tryz.call94
 have hm : xs.length <= 9223372036854775807 := by simpa [zd3, wfT] using hw.1.1
 have hlt0 : ((xs.length : Int) < (ys.length : Int)) = False := eq_false (by omega)
 refine zan Tryz.call94 Tryz.func94 rfl (by kernel_rfl) (za3 (by kernel_rfl)) ?_
 simp -implicitDefEqProofs only [go_sem, Tryz.results94]
 refine zag (fun k : Nat => hd [(0, vT (tmS xs)), (1, vT (tmS ys)), (2, vT (.fn 39 [])), (11, vT (tmS xs)), (12, vI xs.length), (13, vI k)] [] []) (fun k => k <= xs.length /\ zdc xs ys = zdc (xs.drop k) (ys.drop k)) (fun k => xs.length - k) 0 (zab ?_) ⟨Nat.zero_le _, by simp⟩ ?_
 ·simp -implicitDefEqProofs only [go_sem]
 ·intro k ⟨hk, hr⟩
  by_cases hlt : k < xs.length
  ·have hk2 : k < ys.length := by omega
   have hk3 : ((ys.length : Int) <= (k : Int)) = False := eq_false (by omega)
   have HC := H xs[k] (List.getElem_mem hlt) ys[k] (List.getElem_mem hk2)
   rw [List.drop_eq_getElem_cons hlt, List.drop_eq_getElem_cons hk2, zdc] at hr
   generalize zb9 xs[k] ys[k] = c at HC hr
   simp only [tmD, zaa xs[k], zaa ys[k]] at HC
   simp -implicitDefEqProofs only [go_sem, hlt, hk2, hk3, zaf, zaa xs[k], zaa ys[k]]
   refine callF (HC) (by simp -implicitDefEqProofs only [go_sem]) ?_
   simp -implicitDefEqProofs only [go_sem]
   refine ⟨fun h => ?_, fun h => ?_⟩
   ·have : c ≠ 0 := by simpa using h
    unfold orE at hr
    rw [if_neg this] at hr
    rw [hr]
   ·have : c = 0 := by simpa using h
    unfold orE at hr
    rw [if_pos this] at hr
    refine ⟨k + 1, ⟨hlt, hr⟩, by omega, zab ?_⟩
    simp -implicitDefEqProofs only [go_sem]
    rw [zam (by omega)]
  ·rw [List.drop_of_length_le (by omega), List.drop_of_length_le (by omega), zdc] at hr
   rw [hr]
   simp -implicitDefEqProofs only [go_sem, hlt, hlt0]
theorem zn6 {a : Tm} (h : upT a = true) : 0 < a.name.length /\ zfw (a.name.getD 0 0) = za7 a.name /\ ∀ x ∈ a.args, upT x = true := by
 rw [zso, Bool.and_eq_true, Bool.and_eq_true, decide_eq_true_eq, beq_iff_eq, List.all_eq_true] at h
 exact ⟨h.1.1, h.1.2, h.2⟩
set_option maxHeartbeats 1000000 in
theorem zgp (a b : Tm) (ha : upT a = true) (hb : upT b = true) (H : ∀ x ∈ a.args, ∀ y, upT y = true -> FC Tryz.prog 39 [tmD x, tmD y] [iD (zb9 x y)]) : FC Tryz.prog 39 [tmD a, tmD b] [iD (zb9 a b)] := by
 obtain ⟨na, ua, ra⟩ := zn6 ha
 obtain ⟨nb, ub, rb⟩ := zn6 hb
 have HV1 := zm4 a na
 have HV2 := zm4 b nb
 rw [ua] at HV1
 rw [ub] at HV2
 have hv := zj3 a b
 have HS := zy6 a.name b.name
 have HI := zph (a.args.length : Int) (b.args.length : Int)
 have HO := zv2 (zkl a.name b.name) (zxq (a.args.length : Int) (b.args.length : Int))
 have hh : hdT a b = orE (zjq (za7 a.name) (za7 b.name)) (orE (zkl a.name b.name) (zxq (a.args.length : Int) (b.args.length : Int))) := by rw [qau]; rfl
 rw [hh] at hv
 have hz : orE (zkl a.name b.name) (zxq (a.args.length : Int) (b.args.length : Int)) = 0 -> a.args.length = b.args.length := fun h => by
  have h2 := (zyf.1 h).2
  unfold zxq at h2
  split at h2
  ·omega
  ·split at h2 <;> omega
 have HC := fun (h : a.args.length = b.args.length) => zi7 a.args b.args h fun x hx y hy => H x hx y (rb y hy)
 generalize zkl a.name b.name = s at HS HO hv hz
 generalize zxq (a.args.length : Int) (b.args.length : Int) = z at HI HO hv hz
 generalize orE s z = r at HO hv hz
 generalize zdc a.args b.args = q at HC hv
 simp only [tmD, zaa a, zaa b] at HV1 HV2 ⊢
 generalize za7 a.name = x at HV1 hv
 generalize za7 b.name = y at HV2 hv
 cases x <;> cases y
 ·have hv : zb9 a b = if r = 0 then q else r := hv
  refine zan Tryz.call39 Tryz.func39 rfl (by kernel_rfl) (za3 (by kernel_rfl)) ?_
  simp -implicitDefEqProofs only [go_sem, Tryz.results39]
  refine drawn (by kernel_rfl) ?_
  simp -implicitDefEqProofs only [go_sem]
  refine za0 (HV1) (by simp -implicitDefEqProofs only [go_sem]) ?_
  simp -implicitDefEqProofs only [go_sem]
  refine za0 (HV2) (by simp -implicitDefEqProofs only [go_sem]) ?_
  simp -implicitDefEqProofs only [go_sem]
  refine ⟨by kernel_rfl, ?_⟩
  refine drawn (by kernel_rfl) ?_
  simp -implicitDefEqProofs only [go_sem]
  refine za0 (HS) (by simp -implicitDefEqProofs only [go_sem]) ?_
  simp -implicitDefEqProofs only [go_sem]
  refine za0 (HI) (by simp -implicitDefEqProofs only [go_sem]) ?_
  simp -implicitDefEqProofs only [go_sem]
  refine zm5 (by simp -implicitDefEqProofs only [go_sem]) ?_
  simp -implicitDefEqProofs only [go_sem]
  refine za0 (HO) (by simp -implicitDefEqProofs only [go_sem]) ?_
  simp -implicitDefEqProofs only [go_sem]
  refine ⟨by kernel_rfl, fun h => ?_, fun h => ?_⟩
  ·rw [hv, if_neg (by simpa using h)]
  ·have h0 : r = 0 := by simpa using h
   rw [hv, if_pos h0]
   refine callF (HC (hz h0)) (by simp -implicitDefEqProofs only [go_sem]) ?_
   simp -implicitDefEqProofs only [go_sem]
 ·have hv : zb9 a b = 1 := hv
  rw [hv]
  refine zan Tryz.call39 Tryz.func39 rfl (by kernel_rfl) (za3 (by kernel_rfl)) ?_
  simp -implicitDefEqProofs only [go_sem, Tryz.results39]
  refine drawn (by kernel_rfl) ?_
  simp -implicitDefEqProofs only [go_sem]
  refine za0 (HV1) (by simp -implicitDefEqProofs only [go_sem]) ?_
  simp -implicitDefEqProofs only [go_sem]
  refine za0 (HV2) (by simp -implicitDefEqProofs only [go_sem]) ?_
  simp -implicitDefEqProofs only [go_sem]
  kernel_rfl
 ·have hv : zb9 a b = -1 := hv
  rw [hv]
  refine zan Tryz.call39 Tryz.func39 rfl (by kernel_rfl) (za3 (by kernel_rfl)) ?_
  simp -implicitDefEqProofs only [go_sem, Tryz.results39]
  refine drawn (by kernel_rfl) ?_
  simp -implicitDefEqProofs only [go_sem]
  refine za0 (HV1) (by simp -implicitDefEqProofs only [go_sem]) ?_
  simp -implicitDefEqProofs only [go_sem]
  refine za0 (HV2) (by simp -implicitDefEqProofs only [go_sem]) ?_
  simp -implicitDefEqProofs only [go_sem]
  kernel_rfl
 ·have hv : zb9 a b = if r = 0 then q else r := hv
  refine zan Tryz.call39 Tryz.func39 rfl (by kernel_rfl) (za3 (by kernel_rfl)) ?_
  simp -implicitDefEqProofs only [go_sem, Tryz.results39]
  refine drawn (by kernel_rfl) ?_
  simp -implicitDefEqProofs only [go_sem]
  refine za0 (HV1) (by simp -implicitDefEqProofs only [go_sem]) ?_
  simp -implicitDefEqProofs only [go_sem]
  refine za0 (HV2) (by simp -implicitDefEqProofs only [go_sem]) ?_
  simp -implicitDefEqProofs only [go_sem]
  refine ⟨by kernel_rfl, ?_⟩
  refine drawn (by kernel_rfl) ?_
  simp -implicitDefEqProofs only [go_sem]
  refine za0 (HS) (by simp -implicitDefEqProofs only [go_sem]) ?_
  simp -implicitDefEqProofs only [go_sem]
  refine za0 (HI) (by simp -implicitDefEqProofs only [go_sem]) ?_
  simp -implicitDefEqProofs only [go_sem]
  refine zm5 (by simp -implicitDefEqProofs only [go_sem]) ?_
  simp -implicitDefEqProofs only [go_sem]
  refine za0 (HO) (by simp -implicitDefEqProofs only [go_sem]) ?_
  simp -implicitDefEqProofs only [go_sem]
  refine ⟨by kernel_rfl, fun h => ?_, fun h => ?_⟩
  ·rw [hv, if_neg (by simpa using h)]
  ·have h0 : r = 0 := by simpa using h
   rw [hv, if_pos h0]
   refine callF (HC (hz h0)) (by simp -implicitDefEqProofs only [go_sem]) ?_
   simp -implicitDefEqProofs only [go_sem]
theorem zd8 : ∀ a b : Tm, upT a = true -> upT b = true -> FC Tryz.prog 39 [tmD a, tmD b] [iD (zb9 a b)] := zbd fun n xs ih b ha hb => zgp (.mk n xs) b ha hb fun x hx y hy => ih x hx y ((zn6 ha).2.2 x hx) hy
theorem zwd (b : Bool) : FC Tryz.prog 169 [bD b] [iD (if b = true then 1 else 0)] := by
 cases b
 all_goals
  refine zan Tryz.call169 Tryz.func169 rfl (by kernel_rfl) (za3 (by kernel_rfl)) ?_
  simp -implicitDefEqProofs only [go_sem, Tryz.results169]
theorem zs2 (x y : Bool) : zxq (if x = true then 1 else 0) (if y = true then 1 else 0) = zjq y x := by cases x <;> cases y <;> rfl
theorem ze9 (a b : Li) (ha : upT a.atom = true) (hb : upT b.atom = true) : FC Tryz.prog 124 [liD a, liD b] [iD (zoa a b)] := by
 have HT := zd8 a.atom b.atom ha hb
 have HF1 := zwd a.pos
 have HF2 := zwd b.pos
 have HI := zph (if a.pos = true then 1 else 0) (if b.pos = true then 1 else 0)
 rw [zs2] at HI
 have HO := zv2 (zb9 a.atom b.atom) (zjq b.pos a.pos)
 unfold zoa
 generalize zb9 a.atom b.atom = t at HT HO ⊢
 generalize zjq b.pos a.pos = z at HI HO ⊢
 generalize (if a.pos = true then (1 : Int) else 0) = f1 at HF1 HI
 generalize (if b.pos = true then (1 : Int) else 0) = f2 at HF2 HI
 simp only [liD, zai, tmD, zaa a.atom, zaa b.atom] at HT ⊢
 refine zan Tryz.call124 Tryz.func124 rfl (by kernel_rfl) (za3 (by kernel_rfl)) ?_
 simp -implicitDefEqProofs only [go_sem, Tryz.results124]
 refine drawn (by kernel_rfl) ?_
 simp -implicitDefEqProofs only [go_sem]
 refine za0 (HT) (by simp -implicitDefEqProofs only [go_sem]) ?_
 simp -implicitDefEqProofs only [go_sem]
 refine za0 (HF1) (by simp -implicitDefEqProofs only [go_sem]) ?_
 simp -implicitDefEqProofs only [go_sem]
 refine za0 (HF2) (by simp -implicitDefEqProofs only [go_sem]) ?_
 simp -implicitDefEqProofs only [go_sem]
 refine za0 (HI) (by simp -implicitDefEqProofs only [go_sem]) ?_
 simp -implicitDefEqProofs only [go_sem]
 refine zm5 (by simp -implicitDefEqProofs only [go_sem]) ?_
 simp -implicitDefEqProofs only [go_sem]
 refine za0 (HO) (by simp -implicitDefEqProofs only [go_sem]) ?_
 simp -implicitDefEqProofs only [go_sem]
 kernel_rfl
theorem zk4 (a b : Li) : FC Tryz.prog 117 [liD a, liD b] [iD (zoa a b)] := by
 have HT := zg1 a.atom b.atom
 have hv : zoa a b = if zb9 a.atom b.atom = 0 then zjq b.pos a.pos else zb9 a.atom b.atom := rfl
 rw [hv]
 generalize zb9 a.atom b.atom = t at HT ⊢
 simp only [liD, zai, tmD, zaa a.atom, zaa b.atom] at HT ⊢
 by_cases h : t = 0
 ·rw [if_pos h]
  subst h
  generalize a.pos = x
  generalize b.pos = y
  cases x <;> cases y
  all_goals
   refine zan Tryz.call117 Tryz.func117 rfl (by kernel_rfl) (za3 (by kernel_rfl)) ?_
   simp -implicitDefEqProofs only [go_sem, Tryz.results117]
   refine callF (HT) (by simp -implicitDefEqProofs only [go_sem]) ?_
   simp -implicitDefEqProofs only [go_sem]
   try rfl
 ·have h2 : (t != 0) = true := by simpa using h
  rw [if_neg h]
  refine zan Tryz.call117 Tryz.func117 rfl (by kernel_rfl) (za3 (by kernel_rfl)) ?_
  simp -implicitDefEqProofs only [go_sem, Tryz.results117]
  refine callF (HT) (by simp -implicitDefEqProofs only [go_sem, h2]) ?_
  simp -implicitDefEqProofs only [go_sem, h2]
theorem zf6 (l : Li) (hw : l.wt <= 1048576) : FC Tryz.prog 123 [liD l] [bD l.atom.atomOk] := by
 have HA := zj4 l.atom (by have := l.wt_eq; omega)
 simp only [liD, zai, tmD, zaa l.atom] at HA ⊢
 refine zan Tryz.call123 Tryz.func123 rfl (by kernel_rfl) (za3 (by kernel_rfl)) ?_
 simp -implicitDefEqProofs only [go_sem, Tryz.results123]
 refine callF (HA) (by simp -implicitDefEqProofs only [go_sem]) ?_
 simp -implicitDefEqProofs only [go_sem]
theorem zio {c : Cq} {l : Li} (h : l ∈ c.lits) : l.wt <= c.wt := by
 have h1 := c.wt_eq
 have h2 : zgf c.lits = c.lits.length + (c.lits.map Li.wt).sum := rfl
 have := zb8 Li.wt c.lits l h
 omega
theorem qbd {ls : List Li} {k : Nat} (hk : k < ls.length) (h : ¬ (ls[k].atom.atomOk = true /\ (0 < k -> zoa (ls[k - 1]'(by omega)) ls[k] < 0))) : dec (okc ls) = false := by
 cases hd : dec (okc ls)
 ·rfl
 ·exact absurd (zb0.1 hd k hk) h
def okb (ls : List Li) (n : Nat) : Prop := ∀ k (h : k < ls.length), k < n -> ls[k].atom.atomOk = true /\ (0 < k -> zoa (ls[k - 1]'(by omega)) ls[k] < 0)
theorem zgd {ls : List Li} {k : Nat} (h : okb ls k) (hk : k < ls.length) (h1 : ls[k].atom.atomOk = true) (h2 : 0 < k -> zoa (ls[k - 1]'(by omega)) ls[k] < 0) : okb ls (k + 1) := fun j hj hl => by
 by_cases e : j = k
 ·subst e; exact ⟨h1, h2⟩
 ·exact h j hj (by omega)
set_option maxHeartbeats 1000000 in
theorem zhr (c : Cq) (hw : c.wt <= 1048576) : FC Tryz.prog 71 [cqD c] [bD c.ok] := by
 refine zbw (fun hwf => ?_) Tryz.call71
 have hlw := fun l (h : l ∈ c.lits) => Nat.le_trans (zio h) hw
 have hv : c.ok = (decide (c.lits.length <= 8) && dec (okc c.lits)) := rfl
 have hlen : c.lits.length <= 1048576 := by
  have h1 := c.wt_eq
  have h2 : zgf c.lits = c.lits.length + (c.lits.map Li.wt).sum := rfl
  omega
 rw [hv]
 simp only [cqD, zat] at hwf ⊢
 generalize c.lits = ls at hlw hlen ⊢
 clear hv
 refine zan Tryz.call71 Tryz.func71 rfl (by kernel_rfl) (za3 (by kernel_rfl)) ?_
 simp -implicitDefEqProofs only [go_sem, Tryz.results71]
 refine zag (fun k : Nat => hd [(1, .one (.bx 1 0)), (6, vT (liS ls)), (7, vI ls.length), (8, vI k)] [(1, [.t (liS ls)])] []) (fun k => k <= ls.length /\ okb ls k) (fun k => ls.length - k) 0 (zab ?_) ⟨Nat.zero_le _, fun j _ h => by omega⟩ ?_
 ·simp -implicitDefEqProofs only [go_sem]
 ·intro k ⟨hk, hr⟩
  by_cases hlt : k < ls.length
  ·have HV := zf6 ls[k] (hlw _ (List.getElem_mem hlt))
   have hno := fun h => qbd (ls := ls) hlt h
   cases ha : ls[k].atom.atomOk
   ·rw [ha] at HV
    rw [hno (fun h => by rw [ha] at h; cases h.1), Bool.and_false]
    simp only [liD, zai ls[k]] at HV
    simp -implicitDefEqProofs only [go_sem, hlt, zaf, zai ls[k]]
    refine drawn (by kernel_rfl) ?_
    simp -implicitDefEqProofs only [go_sem, hlt]
    refine za0 (HV) (by simp -implicitDefEqProofs only [go_sem]) ?_
    simp -implicitDefEqProofs only [go_sem]
    kernel_rfl
   ·rw [ha] at HV
    by_cases h0 : k = 0
    ·subst h0
     have hlz : ((0 : Int) < (ls.length : Int)) = True := eq_true (by omega)
     simp only [liD, zai ls[0]] at HV
     simp -implicitDefEqProofs only [go_sem, hlt, hlz, zaf, zai ls[0]]
     refine drawn (by kernel_rfl) ?_
     simp -implicitDefEqProofs only [go_sem, hlt, hlz]
     refine za0 (HV) (by simp -implicitDefEqProofs only [go_sem]) ?_
     simp -implicitDefEqProofs only [go_sem]
     refine ⟨by kernel_rfl, 1, ⟨hlt, zgd hr hlt ha fun h => by omega⟩, by omega, zab ?_⟩
     simp -implicitDefEqProofs only [go_sem]
     rfl
    ·obtain ⟨j, rfl⟩ : ∃ j, k = j + 1 := ⟨k - 1, by omega⟩
     have hj : j < ls.length := by omega
     have hkp : ((0 : Int) < ((j + 1 : Nat) : Int)) = True := eq_true (by omega)
     have hw1 : IntKind.i64.wrap (((j + 1 : Nat) : Int) - 1) = (j : Int) := by rw [za4 (by omega) (by omega)]; omega
     have hpa := (hr j hj (by omega)).1
     have HC := ze9 ls[j] ls[j + 1] (zn8 hpa) (zn8 ha)
     have hno2 : 0 <= zoa ls[j] ls[j + 1] -> dec (okc ls) = false := fun h => hno fun h2 => by have := h2.2 (by omega); simp only [Nat.add_sub_cancel] at this; omega
     have hyes : zoa ls[j] ls[j + 1] < 0 -> okb ls (j + 1 + 1) := fun h => zgd hr hlt ha fun _ => by simpa using h
     generalize zoa ls[j] ls[j + 1] = q at HC hno2 hyes
     simp only [liD, zai ls[j], zai ls[j + 1]] at HV HC
     simp -implicitDefEqProofs only [go_sem, hlt, zaf, zai ls[j + 1]]
     refine drawn (by kernel_rfl) ?_
     simp -implicitDefEqProofs only [go_sem, hlt, hkp, hw1, hj, zaf, zai ls[j]]
     refine za0 (HV) (by simp -implicitDefEqProofs only [go_sem, hkp, hw1, hj, zaf, zai ls[j]]) ?_
     simp -implicitDefEqProofs only [go_sem, hkp, hw1, hj, zaf, zai ls[j]]
     refine zba (HC) (by simp -implicitDefEqProofs only [go_sem]) ?_
     simp -implicitDefEqProofs only [go_sem]
     refine ⟨by kernel_rfl, fun h => ?_, fun h => ?_⟩
     ·rw [hno2 (by simpa using h), Bool.and_false]
     ·refine ⟨j + 1 + 1, ⟨hlt, hyes (by simpa using h)⟩, by omega, zab ?_⟩
      simp -implicitDefEqProofs only [go_sem]
      rw [zam (by omega)]
  ·have hd : dec (okc ls) = true := zb0.2 fun j hj => hr j hj (by omega)
   simp -implicitDefEqProofs only [go_sem, hlt, hd]
   simp
   omega
end Go.Proofs.YtnkagnjiljjpcaaGreat
namespace Go.Proofs.YtnkagnjiljjpcaaGreat
set_option linter.unusedSimpArgs false
set_option linter.unusedVariables false
set_option linter.unusedSectionVars false
set_option maxRecDepth 4000
open Go.RowKit
set_option maxHeartbeats 1000000 in
theorem qaw (c : Cq) (hw : c.wt <= 1048576) : FC Tryz.prog 66 [cqD c] [bD c.ok] := by
 have hlw := fun l (h : l ∈ c.lits) => Nat.le_trans (zio h) hw
 have hv : c.ok = (decide (c.lits.length <= 8) && dec (okc c.lits)) := rfl
 rw [hv]
 simp only [cqD, zat]
 generalize c.lits = ls at hlw ⊢
 clear hv
 by_cases hl8 : ls.length <= 8
 ·have h8 : ((8 : Int) < (ls.length : Int)) = False := eq_false (by omega)
  rw [decide_eq_true hl8, Bool.true_and]
  refine zan Tryz.call66 Tryz.func66 rfl (by kernel_rfl) (za3 (by kernel_rfl)) ?_
  simp -implicitDefEqProofs only [go_sem, Tryz.results66, h8]
  refine zag (fun k : Nat => hd [(1, .one (.bx 1 0)), (3, vI k)] [(1, [.t (liS ls)])] []) (fun k => k <= ls.length /\ okb ls k) (fun k => ls.length - k) 0 (zab ?_) ⟨Nat.zero_le _, fun j _ h => by omega⟩ ?_
  ·simp -implicitDefEqProofs only [go_sem]
  ·intro k ⟨hk, hr⟩
   by_cases hlt : k < ls.length
   ·have HV := zx5 ls[k].atom (by have h1 := hlw _ (List.getElem_mem hlt); have h2 := ls[k].wt_eq; omega)
    have hno := fun h => qbd (ls := ls) hlt h
    cases ha : ls[k].atom.atomOk
    ·rw [ha] at HV
     rw [hno (fun h => by rw [ha] at h; cases h.1)]
     simp only [tmD, zaa ls[k].atom] at HV
     simp -implicitDefEqProofs only [go_sem, hlt]
     refine drawn (by kernel_rfl) ?_
     simp -implicitDefEqProofs only [go_sem, hlt, zaf, zai ls[k]]
     refine za0 (HV) (by simp -implicitDefEqProofs only [go_sem]) ?_
     simp -implicitDefEqProofs only [go_sem]
     kernel_rfl
    ·rw [ha] at HV
     by_cases h0 : k = 0
     ·subst h0
      have hlz : ((0 : Int) < (ls.length : Int)) = True := eq_true (by omega)
      simp only [tmD, zaa ls[0].atom] at HV
      simp -implicitDefEqProofs only [go_sem, hlt, hlz]
      refine drawn (by kernel_rfl) ?_
      simp -implicitDefEqProofs only [go_sem, hlt, hlz, zaf, zai ls[0]]
      refine za0 (HV) (by simp -implicitDefEqProofs only [go_sem]) ?_
      simp -implicitDefEqProofs only [go_sem]
      refine ⟨by kernel_rfl, 1, ⟨hlt, zgd hr hlt ha fun h => by omega⟩, by omega, zab ?_⟩
      simp -implicitDefEqProofs only [go_sem]
      rfl
     ·obtain ⟨j, rfl⟩ : ∃ j, k = j + 1 := ⟨k - 1, by omega⟩
      have hj : j < ls.length := by omega
      have hkp : ((0 : Int) < ((j + 1 : Nat) : Int)) = True := eq_true (by omega)
      have hw1 : IntKind.i64.wrap (((j + 1 : Nat) : Int) - 1) = (j : Int) := by rw [za4 (by omega) (by omega)]; omega
      have hpa := (hr j hj (by omega)).1
      have HC := zk4 ls[j] ls[j + 1]
      have hno2 : 0 <= zoa ls[j] ls[j + 1] -> dec (okc ls) = false := fun h => hno fun h2 => by have := h2.2 (by omega); simp only [Nat.add_sub_cancel] at this; omega
      have hyes : zoa ls[j] ls[j + 1] < 0 -> okb ls (j + 1 + 1) := fun h => zgd hr hlt ha fun _ => by simpa using h
      generalize zoa ls[j] ls[j + 1] = q at HC hno2 hyes
      simp only [tmD, zaa ls[j + 1].atom] at HV
      simp only [liD, zai ls[j], zai ls[j + 1]] at HC
      simp -implicitDefEqProofs only [go_sem, hlt]
      refine drawn (by kernel_rfl) ?_
      simp -implicitDefEqProofs only [go_sem, hlt, hkp, hw1, hj, zaf, zai ls[j], zai ls[j + 1]]
      refine za0 (HV) (by simp -implicitDefEqProofs only [go_sem, hlt, hkp, hw1, hj, zaf, zai ls[j], zai ls[j + 1]]) ?_
      simp -implicitDefEqProofs only [go_sem, hlt, hkp, hw1, hj, zaf, zai ls[j], zai ls[j + 1]]
      refine zba (HC) (by simp -implicitDefEqProofs only [go_sem]) ?_
      simp -implicitDefEqProofs only [go_sem]
      refine ⟨by kernel_rfl, fun h => ?_, fun h => ?_⟩
      ·rw [hno2 (by simpa using h)]
      ·refine ⟨j + 1 + 1, ⟨hlt, hyes (by simpa using h)⟩, by omega, zab ?_⟩
       simp -implicitDefEqProofs only [go_sem]
       rw [zam (by omega)]
   ·have hd1 : dec (okc ls) = true := zb0.2 fun j hj => hr j hj (by omega)
    simp -implicitDefEqProofs only [go_sem, hlt, hd1]
 ·have h8 : ((8 : Int) < (ls.length : Int)) = True := eq_true (by omega)
  rw [decide_eq_false hl8, Bool.false_and]
  refine zan Tryz.call66 Tryz.func66 rfl (by kernel_rfl) (za3 (by kernel_rfl)) ?_
  simp -implicitDefEqProofs only [go_sem, Tryz.results66, h8]
def Cq.vi (c : Cq) : List Str := (c.lits.map fun l => voI l.atom).flatten
theorem vi_vo {c : Cq} (h : c.ok = true) : c.vi = c.vo := by
 unfold Cq.vi Cq.vo
 rw [List.map_congr_left fun l hl => (zth (zhx h l hl)).1]
theorem qbg (c : Cq) : c.vo.length <= c.wt := by
 have h := zgh (fun l : Li => voS l.atom) (fun l => 1 + l.wt) c.lits fun l _ => by
  have h1 := qa7 l.atom
  have h2 := l.wt_eq
  omega
 rw [zj5] at h
 have h1 := c.wt_eq
 have h2 : zgf c.lits = c.lits.length + (c.lits.map Li.wt).sum := rfl
 unfold Cq.vo
 omega
theorem zq6 (f : Li -> List Str) (ls : List Li) (k : Nat) (h : k < ls.length) : zbn (zbn [] ((ls.take k).map f).flatten) (f ls[k]) = zbn [] ((ls.take (k + 1)).map f).flatten := by
 rw [zc2 f ls k h, zgn]
theorem zrn (f : Li -> List Str) (ls : List Li) (k : Nat) (h : k < ls.length) : zb7 (zb7 [] ((ls.take k).map f).flatten) (f ls[k]) = zb7 [] ((ls.take (k + 1)).map f).flatten := by
 rw [zc2 f ls k h, zku]
theorem zin (l : List Str) : (zbn [] l).length <= l.length := by
 have := zew l []
 simpa using this
theorem zra (l : List Str) : (zb7 [] l).length <= l.length := by rw [<- zpt, zmn]; exact zin l
set_option maxHeartbeats 1000000 in
theorem zuq (c : Cq) (hc : c.ok = true) (hw : c.wt <= 1048576) : FC Tryz.prog 84 [cqD c] [.one (zix (zbn [] c.vi))] := by
 have hn := fun l (h : l ∈ c.lits) => (zth (zhx hc l h)).2
 have hlw := fun l (h : l ∈ c.lits) => Nat.le_trans (zio h) hw
 have hlen := qbg c
 rw [<- vi_vo hc] at hlen
 have hv : c.vi = (c.lits.map fun l => voI l.atom).flatten := rfl
 rw [hv] at hlen ⊢
 have hll : c.lits.length <= 1048576 := by
  have h1 := c.wt_eq
  have h2 : zgf c.lits = c.lits.length + (c.lits.map Li.wt).sum := rfl
  omega
 simp only [cqD, zat]
 generalize c.lits = ls at hn hlw hlen hll ⊢
 refine zig Tryz.call84 Tryz.func84 rfl (by kernel_rfl) (za3 (by kernel_rfl)) ?_
 simp -implicitDefEqProofs only [go_sem, Tryz.results84]
 refine zbt (by simp -implicitDefEqProofs only [go_sem]) ?_
 simp -implicitDefEqProofs only [go_sem]
 refine zag (fun k : Nat => hd [(3, .one (.ow 192 0)), (8, .one (.rn (liS ls))), (9, vI ls.length), (10, vI k)] [] [(192, ⟨true, 1, (zbn [] ((ls.take k).map fun l => voI l.atom).flatten).map fun s => [T.str s], 0, true⟩)]) (fun k => k <= ls.length) (fun k => ls.length - k) 0 (zab ?_) (Nat.zero_le _) ?_
 ·simp -implicitDefEqProofs only [go_sem]
  rfl
 ·intro k hk
  by_cases hlt : k < ls.length
  ·have h1 := zb4 (fun l : Li => voI l.atom) ls k hlt
   have h2 := zin ((ls.take k).map fun l => voI l.atom).flatten
   have h3 := hlw _ (List.getElem_mem hlt)
   have h4 := ls[k].wt_eq
   have HC := zww ls[k].atom (hn _ (List.getElem_mem hlt)) (by omega) (zbn [] ((ls.take k).map fun l => voI l.atom).flatten) (by omega)
   rw [zq6 (fun l : Li => voI l.atom) ls k hlt] at HC
   simp only [tmD, zaa ls[k].atom] at HC
   simp -implicitDefEqProofs only [go_sem, hlt, zaf, zai ls[k]]
   refine zhl [8, 9, 10] [14, 16] [] (HC) (by simp -implicitDefEqProofs only [go_sem]) (by simp -implicitDefEqProofs only [go_sem]) (by simp -implicitDefEqProofs only [go_sem]) (by simp -implicitDefEqProofs only [go_sem]) ?_
   simp -implicitDefEqProofs only [go_sem]
   refine ⟨k + 1, hlt, by omega, zco 192 544 ?_⟩
   simp -implicitDefEqProofs only [go_sem]
   rw [zam (by omega)]
  ·have ht : ls.take k = ls := List.take_of_length_le (by omega)
   simp -implicitDefEqProofs only [go_sem, hlt, ht]
set_option maxHeartbeats 1000000 in
theorem zq7 (c : Cq) (hw : c.wt <= 1048576) : FC Tryz.prog 82 [cqD c] [.one (zix (zb7 [] c.vo))] := by
 have hlw := fun l (h : l ∈ c.lits) => Nat.le_trans (zio h) hw
 have hlen := qbg c
 have hv : c.vo = (c.lits.map fun l => voS l.atom).flatten := rfl
 rw [hv] at hlen ⊢
 have hll : c.lits.length <= 1048576 := by
  have h1 := c.wt_eq
  have h2 : zgf c.lits = c.lits.length + (c.lits.map Li.wt).sum := rfl
  omega
 simp only [cqD, zat]
 generalize c.lits = ls at hlw hlen hll ⊢
 refine zig Tryz.call82 Tryz.func82 rfl (by kernel_rfl) (za3 (by kernel_rfl)) ?_
 simp -implicitDefEqProofs only [go_sem, Tryz.results82]
 refine zbt (by simp -implicitDefEqProofs only [go_sem]) ?_
 simp -implicitDefEqProofs only [go_sem]
 refine zag (fun k : Nat => hd [(1, .one (.bx 1 0)), (3, .one (.ow 160 0)), (4, vI k)] [(1, [.rn (liS ls)])] [(160, ⟨true, 1, (zb7 [] ((ls.take k).map fun l => voS l.atom).flatten).map fun s => [T.str s], 0, true⟩)]) (fun k => k <= ls.length) (fun k => ls.length - k) 0 (zab ?_) (Nat.zero_le _) ?_
 ·simp -implicitDefEqProofs only [go_sem]
  rfl
 ·intro k hk
  by_cases hlt : k < ls.length
  ·have h1 := zb4 (fun l : Li => voS l.atom) ls k hlt
   have h2 := zra ((ls.take k).map fun l => voS l.atom).flatten
   have h3 := hlw _ (List.getElem_mem hlt)
   have h4 := ls[k].wt_eq
   have HC := zx7 ls[k].atom (by omega) (zb7 [] ((ls.take k).map fun l => voS l.atom).flatten) (by omega)
   rw [zrn (fun l : Li => voS l.atom) ls k hlt] at HC
   simp only [tmD, zaa ls[k].atom] at HC
   simp -implicitDefEqProofs only [go_sem, hlt, zaf, zai ls[k]]
   refine zhl [1, 4] [13, 19] [] (HC) (by simp -implicitDefEqProofs only [go_sem]) (by simp -implicitDefEqProofs only [go_sem]) (by simp -implicitDefEqProofs only [go_sem]) (by simp -implicitDefEqProofs only [go_sem]) ?_
   simp -implicitDefEqProofs only [go_sem]
   refine ⟨k + 1, hlt, by omega, zco 160 640 ?_⟩
   simp -implicitDefEqProofs only [go_sem]
   rw [zam (by omega)]
  ·have ht : ls.take k = ls := List.take_of_length_le (by omega)
   simp -implicitDefEqProofs only [go_sem, hlt, ht]
theorem zf5 (c : Cq) (hw : c.wt <= 1048576) : FC Tryz.prog 36 [cqD c] [bD (grC c)] := by
 have HI := zhr c hw
 have hv : grC c = (c.ok && decide (c.vo = [])) := rfl
 rw [hv]
 cases hg : c.ok
 ·rw [hg] at HI
  rw [Bool.false_and]
  simp only [cqD, zat] at HI ⊢
  refine zan Tryz.call36 Tryz.func36 rfl (by kernel_rfl) (za3 (by kernel_rfl)) ?_
  simp -implicitDefEqProofs only [go_sem, Tryz.results36]
  refine callF (HI) (by simp -implicitDefEqProofs only [go_sem]) ?_
  simp -implicitDefEqProofs only [go_sem]
 ·rw [hg] at HI
  rw [Bool.true_and]
  have HC := zuq c hg hw
  have hd : (((zbn [] c.vi).length : Int) == 0) = decide (c.vo = []) := by
   rw [Bool.eq_iff_iff, beq_iff_eq, decide_eq_true_eq, <- vi_vo hg, <- zml]
   omega
  generalize zbn [] c.vi = L at HC hd
  simp only [cqD, zat] at HI HC ⊢
  refine zan Tryz.call36 Tryz.func36 rfl (by kernel_rfl) (za3 (by kernel_rfl)) ?_
  simp -implicitDefEqProofs only [go_sem, Tryz.results36]
  refine callF (HI) (by simp -implicitDefEqProofs only [go_sem]) ?_
  simp -implicitDefEqProofs only [go_sem]
  refine callF (HC) (by simp -implicitDefEqProofs only [go_sem, hd]) ?_
  simp -implicitDefEqProofs only [go_sem, hd]
theorem zmd (c : Cq) (hw : c.wt <= 1048576) : FC Tryz.prog 35 [cqD c] [bD (!grC c)] := by
 have HI := zf5 c hw
 simp only [cqD, zat] at HI ⊢
 refine zan Tryz.call35 Tryz.func35 rfl (by kernel_rfl) (za3 (by kernel_rfl)) ?_
 simp -implicitDefEqProofs only [go_sem, Tryz.results35]
 refine callF (HI) (by simp -implicitDefEqProofs only [go_sem]) ?_
 simp -implicitDefEqProofs only [go_sem]
end Go.Proofs.YtnkagnjiljjpcaaGreat
namespace Go.Proofs.YtnkagnjiljjpcaaGreat
set_option linter.unusedSimpArgs false
set_option linter.unusedVariables false
set_option linter.unusedSectionVars false
set_option maxRecDepth 4000
open Go.RowKit Go.Sort Go.Proofs
section
variable {A : Type} {c : A -> List T} {G : A -> Prop} {w w' : World} {b : Nat}
structure El (c : A -> List T) (G : A -> Prop) (w : World) (b : Nat) where
 x : A
 vs : List Value
 fp : List Nat
 own : zar w (c x) vs fp
 nb : b ∉ fp
 good : G x
theorem qbw {cells : Array Value} {sz : Nat} : ∀ {xs : List A} {o : Nat} {fps : List Nat}, zad w cells o sz (xs.map c) fps -> b ∉ fps -> (∀ x ∈ xs, G x) →
  ∃ es : List (El c G w b), es.map El.x = xs /\ (es.map El.fp).flatten = fps /\ (∀ e ∈ es, e.vs.length = sz) /\ ∀ i (h : i < es.length) r u, es[i].vs[r]? = some u -> cells[o + i * sz + r]? = some u
 | [], o, fps, h, _, _ => by
  unfold zad at h
  subst h
  exact ⟨[], rfl, rfl, fun e he => absurd he (by simp), fun i h => absurd h (by simp)⟩
 | x :: xs, o, fps, h, hb, hG => by
  rw [List.map_cons] at h
  unfold zad at h
  obtain ⟨hl, f1, f2, rfl, h1, h2⟩ := h
  obtain ⟨vs, k1, k2, k3⟩ := zay.vals h1
  obtain ⟨es, e1, e2, e3, e4⟩ := qbw h2 (fun hx => hb (by simp [hx])) fun y hy => hG y (by simp [hy])
  refine ⟨⟨x, vs, f1, k3, fun hx => hb (by simp [hx]), hG x (by simp)⟩ :: es, by simp [e1], by simp [e2], fun e he => ?_, fun i h r u hu => ?_⟩
  ·rcases List.mem_cons.1 he with rfl | he
   ·exact k1.trans hl
   ·exact e3 e he
  ·cases i with
   | zero => simpa using k2 r u hu
   | succ i =>
    have := e4 i (by simpa using h) r u (by simpa using hu)
    rwa [show o + (i + 1) * sz + r = o + sz + i * sz + r from by rw [Nat.add_mul]; omega]
theorem zgx {cells : Array Value} {sz : Nat} : ∀ {es : List (El c G w b)} {o : Nat}, (∀ e ∈ es, (c e.x).length = sz) -> (∀ i (h : i < es.length) r u, es[i].vs[r]? = some u -> cells[o + i * sz + r]? = some u) -> (∀ k, k ∈ (es.map El.fp).flatten -> w'.heap[k]? = w.heap[k]?) →
  zad w' cells o sz ((es.map El.x).map c) (es.map El.fp).flatten
 | [], o, _, _, _ => by simp only [List.map_nil, List.flatten_nil]; unfold zad; rfl
 | e :: es, o, hl, hc, hk => by
  simp only [List.map_cons, List.flatten_cons] at hk ⊢
  unfold zad
  refine ⟨hl e (by simp), e.fp, _, rfl, zay.of_vals (e.own.keep fun k hk' => hk k (by simp [hk'])) fun j u hu => ?_, zgx (fun e' he => hl e' (by simp [he])) (fun i h r u hu => ?_) fun k hk' => hk k (by simp only [List.mem_append]; exact Or.inr hk')⟩
  ·have := hc 0 (by simp) j u hu
   simpa using this
  ·have := hc (i + 1) (by simpa using h) r u (by simpa using hu)
   rwa [show o + (i + 1) * sz + r = o + sz + i * sz + r from by rw [Nat.add_mul]; omega] at this
theorem zas.oneC {t : T} {v : Value} {fp : List Nat} (h : zas w t v fp) : v.oneCell' = true := by
 cases t <;> unfold zas at h
 case int => rw [h.1]; rfl
 case bool => rw [h.1]; rfl
 case str => rw [h.1]; rfl
 case sl => obtain ⟨ao, cap, rfl, _⟩ := h; rfl
 case vs => rw [h.1]; rfl
 case pin u t => exact zas.oneC h.2
 all_goals exact h.elim
theorem zar.oneC : ∀ {cs : List T} {vs : List Value} {fp : List Nat}, zar w cs vs fp -> ∀ v ∈ vs, v.oneCell' = true
 | [], vs, fp, h, v, hv => by rw [h.1] at hv; cases hv
 | t :: cs, vs, fp, h, v, hv => by
  obtain ⟨v1, vs', f1, f2, rfl, rfl, h1, h2⟩ := h
  rcases List.mem_cons.1 hv with rfl | hv
  ·exact h1.oneC
  ·exact zar.oneC h2 v hv
theorem zxk [Inhabited (El c G w b)] {cells : Array Value} {ty : TypeId} {sz : Nat} {es : List (El c G w b)} (hb : w.heap[b]? = some (.cells cells ty (0, 0))) (hl : ∀ e ∈ es, e.vs.length = sz) (hc : ∀ i (h : i < es.length) r u, es[i].vs[r]? = some u -> cells[0 + i * sz + r]? = some u) :
    HoldsK El.vs sz w b 0 es.toArray := by
  intro j hj
  rw [size_flatK] at hj
  have hj : j < es.length * sz := by simpa using hj
  have hs : 0 < sz := by rcases Nat.eq_zero_or_pos sz with h | h
                         · rw [h] at hj; omega
                         · exact h
  have hi : j / sz < es.length := Nat.div_lt_of_lt_mul (by rw [Nat.mul_comm]; exact hj)
  have hr : j % sz < sz := Nat.mod_lt _ hs
  have hd : 0 + j / sz * sz + j % sz = 0 + j := by have := Nat.div_add_mod' j sz; omega
  have he : es[j / sz].vs.length = sz := hl _ (List.getElem_mem hi)
  have h1 := hc (j / sz) hi (j % sz) _ (List.getElem?_eq_getElem (by rw [he]; exact hr))
  rw [hd] at h1
  refine ⟨?_, by simp [World.frozen?, hb]⟩
  rw [get_flatK _ _ _ _ (by simpa using hj)]
  simp only [World.cell?, hb, Option.isSome_none, Bool.false_eq_true, if_false]
  rw [h1]
  simp only [id, Option.some.injEq]
  rw [getElem!_pos es.toArray (j / sz) (by simpa using hi), List.getElem_toArray, getElem!_pos _ _ (by rw [he]; exact hr)]
theorem zlf {B : Type} [Inhabited B] {enc : B -> List Value} {k n : Nat} {os : Array Obj} {cur : Array Value} {e : TypeId} {fr : Nat × Nat} (d : Array B) (hb : w.heap[b]? = some (.cells cur e fr)) :
  (sortWorldK enc k w b 0 n d os).heap[b]? = some (.cells (putCells id 0 (flatK enc k d) cur) e fr) := by
 have hg : b < w.heap.size := (Array.getElem?_eq_some_iff.1 hb).1
 unfold sortWorldK putRowK
 rw [heap_grow_old _ _ (by simpa [putRow, mapBlock] using hg)]
 simp [putRow, mapBlock, Sort.ahead, Array.getElem?_modify, hb, onCells]
theorem zck {B : Type} [Inhabited B] {enc : B -> List Value} {k n : Nat} {os : Array Obj} (d : Array B) : w.grownBy (sortWorldK enc k w b 0 n d os) (some b) := by
 unfold sortWorldK putRowK
 refine ⟨rfl, rfl, rfl, by simp, fun k hk hne => ?_⟩
 rw [heap_grow_old _ _ (by simpa [putRow, mapBlock] using hk)]
 have : b ≠ k := fun e => hne (by rw [e])
 simp [putRow, mapBlock, Sort.ahead, Array.getElem?_modify, this]
theorem zu6 [Inhabited (El c G w b)] {cur : Array Value} {sz : Nat} {es : List (El c G w b)} (hl : ∀ e ∈ es, e.vs.length = sz) (hn : es.length * sz <= cur.size) (i : Nat) (h : i < es.length) (r : Nat) (u : Value) (hu : es[i].vs[r]? = some u) :
  (putCells id 0 (flatK El.vs sz es.toArray) cur)[0 + i * sz + r]? = some u := by
 have he : es[i].vs.length = sz := hl _ (List.getElem_mem h)
 obtain ⟨hr, hu⟩ := List.getElem?_eq_some_iff.1 hu
 have hs : 0 < sz := by omega
 have hb : i * sz + r < es.length * sz := by
  have := Nat.mul_le_mul_right sz (show i + 1 <= es.length from h)
  rw [Nat.add_mul] at this
  omega
 have h0 : 0 + i * sz + r = i * sz + r := by omega
 have hd : (i * sz + r) / sz = i := by rw [Nat.add_comm, Nat.add_mul_div_right _ _ hs, Nat.div_eq_of_lt (by omega), Nat.zero_add]
 have hm : (i * sz + r) % sz = r := by rw [Nat.add_comm, Nat.add_mul_mod_self_right, Nat.mod_eq_of_lt (by omega)]
 rw [h0]
 have hlt : i * sz + r < cur.size := by omega
 simp only [putCells, Array.getElem?_mapIdx, Array.getElem?_eq_getElem hlt, Option.map_some, Option.some.injEq]
 rw [if_pos ⟨by omega, by rw [size_flatK]; simpa using hb⟩, Nat.sub_zero, get_flatK _ _ _ _ (by simpa using hb), hd, hm, getElem!_pos es.toArray i (by simpa using h), List.getElem_toArray, getElem!_pos es[i].vs r hr]
 exact hu
end
end Go.Proofs.YtnkagnjiljjpcaaGreat
namespace Go.Proofs.YtnkagnjiljjpcaaGreat
set_option linter.unusedSimpArgs false
set_option linter.unusedVariables false
set_option linter.unusedSectionVars false
set_option maxRecDepth 4000
open Go
def RwD {α : Type} : Result α -> World
 | .ok _ w => w
 | .halt _ w => w
theorem far_dr {P : Program} {w w' : World} {a : Addr} {v : Value} {b : Bool} {l : List Addr} (h : w.farStore P a v b = .ok (w', l)) : w'.drawn = w.drawn := by
 unfold World.farStore at h
 split at h
 ·split at h
  ·rename_i r hr
   cases h
   unfold World.viewStore at hr
   simp only [bind, Except.bind, pure, Except.pure, throw, throwThe, MonadExceptOf.throw] at hr
   repeat' first
    | (cases hr; done)
    | (cases hr; rfl)
    | split at hr
  ·cases h
 ·cases h
theorem zus {α : Type} : ∀ (s : Ask α) (w : World), w.drawn <= (w.ask s).2.drawn
 | .done _, w => Nat.le_refl _
 | .ask what range k, w => by
  unfold World.ask
  simp only []
  split
  ·exact zus _ w
  ·exact Nat.le_trans (Nat.le_succ _) (zus _ { w with drawn := w.drawn + 1 })
theorem sys_dr (w : World) (c : Sys) : w.drawn <= (w.sys c).2.drawn := by
 have h := zus (Kernel.perform c w.os) w
 unfold World.sys
 split
 ·exact Nat.le_refl _
 ·rename_i e
  rw [e] at h
  exact h
theorem zs3 (w : World) (a : Addr) (n : Nat) : (w.freeze a n).drawn = w.drawn := by unfold World.freeze; split <;> rfl
theorem zpc {α : Type} (P : Program) (s : Sem α) : ∀ w, w.drawn <= (RwD (s.run P w)).drawn := by
  induction s with
  | pure a => exact fun w => Nat.le_refl _
  | load m a k ih =>
    intro w
    simp only [Sem.run]
    split
    · exact ih _ _
    · split
      · exact ih _ _
      · exact Nat.le_refl _
  | store m a v k ih =>
    intro w
    cases v <;> simp only [Sem.run]
    all_goals first
      | exact Nat.le_refl _
      | (split
         · split
           · exact Nat.le_refl _
           · exact Nat.le_trans (Nat.le_of_eq rfl) (ih (w.setCell a _))
         · split
           · rename_i w' l h
             have := ih w'
             rw [far_dr h] at this
             exact this
           · exact Nat.le_refl _)
  | new o k ih => exact fun w => ih _ { w with heap := w.heap.push o }
  | shape r k ih => exact fun w => ih _ w
  | freeze a n k ih => exact fun w => by have := ih (w.freeze a n); rw [zs3] at this; exact this
  | frozen a k ih => exact fun w => ih _ w
  | getObj r k ih =>
    intro w
    simp only [Sem.run]
    split
    · exact Nat.le_refl _
    · exact ih _ _
    · exact Nat.le_refl _
  | setObj r o k ih =>
    intro w
    simp only [Sem.run]
    split
    · exact Nat.le_refl _
    · exact ih { w with heap := w.heap.setIfInBounds r o }
    · exact Nat.le_refl _
  | choose q k ih =>
    intro w
    simp only [Sem.run]
    split
    · exact ih _ w
    · exact Nat.le_trans (Nat.le_succ _) (ih _ { w with drawn := w.drawn + 1 })
  | sys c k ih => exact fun w => Nat.le_trans (sys_dr w c) (ih _ _)
  | program k ih => exact fun w => ih _ w
  | mark m k ih => exact fun w => ih w
  | halt h => exact fun w => Nat.le_refl _
theorem za8 {α : Type} {P : Program} {s : Sem α} {w w' : World} {a : α} (h : s.run P w = .ok a w') : w.drawn <= w'.drawn := by
 have := zpc P s w
 rw [h] at this
 exact this
theorem zem {α : Type} {P : Program} {s : Sem α} {w w' : World} {x : Halt} (h : s.run P w = .halt x w') : w.drawn <= w'.drawn := by
 have := zpc P s w
 rw [h] at this
 exact this
def GdD (w : World) : Go.GStep -> Prop
 | .go _ w' _ => w.drawn <= w'.drawn
 | .comm _ _ _ _ w' _ => w.drawn <= w'.drawn
 | .spawn _ _ w' _ => w.drawn <= w'.drawn
 | .count _ w' _ => w.drawn <= w'.drawn
 | .timer _ _ w' _ => w.drawn <= w'.drawn
 | .alone _ _ w' _ => w.drawn <= w'.drawn
 | .newcoro _ _ _ w' _ => w.drawn <= w'.drawn
 | .coroswitch _ _ _ w' _ => w.drawn <= w'.drawn
 | .collect _ w' _ => w.drawn <= w'.drawn
 | .watch _ w' _ => w.drawn <= w'.drawn
 | .ended _ _ _ => True
theorem GdD.after {w : World} {es : Array Event} {s : Go.GStep} (h : GdD w s) : GdD w (Go.GStep.after es s) := by
 cases s <;> exact h
theorem GdD.mono {w w1 : World} {s : Go.GStep} (h1 : w.drawn <= w1.drawn) (h : GdD w1 s) : GdD w s := by
 cases s <;> first | exact Nat.le_trans h1 h | trivial
theorem zp6 (fr : Frame) (a : List ByteArray) (m : String) (b : Bool) (w : World) : GdD w (dieOf fr a m b w) := Nat.le_refl _
theorem zda (fr : Frame) (m : String) (w : World) : GdD w (endThrow fr m w) := zp6 _ _ _ _ _
theorem zea (P : Program) (fr : Frame) (v : Value) (w : World) : GdD w (endPrinting P fr v w) := by
 unfold endPrinting
 simp only []
 split
 ·exact zda _ _ _
 ·trivial
theorem zr5 (w w1 : World) (fd : Nat) (t : ByteArray) (o : Outcome) : GdD w (endWith w1 fd t o) := by
 unfold endWith
 simp only []
 split
 ·split <;> trivial
 ·trivial
 ·trivial
theorem zgr (P : Program) (fr : Frame) (cs : List Frame) (d : Option Dying) (m : String) (w : World) : GdD w (endFatal P fr cs d m w) := by
 unfold endFatal
 simp only []
 split
 ·rename_i h
  exact (zp6 _ _ _ _ _).mono (za8 h)
 ·trivial
 ·trivial
theorem zq4 (P : Program) (fr : Frame) (d : Dying) (f : Fatal) (w : World) : GdD w (writeOn P fr d f w) := by
 unfold writeOn
 simp only [Sem.runT_eq]
 split
 ·trivial
 ·split
  ·rename_i h
   simp only [Prod.mk.injEq] at h
   exact za8 h.1
  ·rename_i h
   simp only [Prod.mk.injEq] at h
   exact zem h.1
  ·trivial
  ·trivial
theorem die_gd (P : Program) (fr : Frame) (d : Dying) (w : World) : GdD w (die P fr d w) := by
 unfold die
 simp only [Sem.runT_eq]
 split
 ·exact zq4 _ _ _ _ _
 ·split
  ·split
   ·exact Nat.le_refl _
   ·exact zr5 _ _ _ _ _
  ·split
   ·exact Nat.le_refl _
   ·split
    ·rename_i h
     exact za8 h
    ·trivial
   ·refine GdD.after ?_
    split
    ·rename_i h; exact za8 h
    ·rename_i h; exact za8 h
    ·trivial
    ·rename_i h; exact (zea _ _ _ _).mono (zem h)
    ·trivial
   ·trivial
theorem zc5 (P : Program) (b : Bool) (fr : Frame) (cs : List Frame) (d : Option Dying) (v : Value) (w : World) : GdD w (doReturn P b fr cs d v w) := by
 unfold doReturn
 repeat' first
  | exact Nat.le_refl _
  | trivial
  | split
theorem qbq {w : World} {c : Prop} [Decidable c] {a b : Go.GStep} (ha : GdD w a) (hb : GdD w b) : GdD w (if c then a else b) := by
 split
 ·exact ha
 ·exact hb
theorem zg8 (P : Program) (fr : Frame) (cs : List Frame) (dy : Option Dying) (d : Deferred) (w : World) : GdD w (callDeferred P fr cs dy d w) := by
 unfold callDeferred
 simp only [Sem.runT_eq]
 refine qbq trivial ?_
 ·refine GdD.after ?_
  have hd := zpc P (invoke d.target d.args) w
  generalize (invoke d.target d.args).run P w = r at hd
  rcases r with ⟨n, w'⟩ | ⟨x, w'⟩
  ·have hd : w.drawn <= w'.drawn := hd
   cases n <;> (try simp only [])
   all_goals
    repeat' first
     | exact hd
     | trivial
     | (rename_i h; cases h; done)
     | (rename_i h; cases h; exact hd)
     | split
  ·have hd : w.drawn <= w'.drawn := hd
   cases x <;> (try simp only [])
   all_goals
    repeat' first
     | exact hd
     | trivial
     | exact (zgr _ _ _ _ _ _).mono hd
     | exact (zda _ _ _).mono hd
     | (rename_i h; cases h; done)
     | (rename_i h; cases h; exact hd)
     | split
theorem zwo (P : Program) (b : Bool) (fr : Frame) (cs : List Frame) (dy : Option Dying) (w : World) : GdD w (unwind P b fr cs dy w) := by
 unfold unwind
 simp only [Sem.runT_eq]
 repeat' first
  | exact zg8 _ _ _ _ _ _
  | exact zc5 _ _ _ _ _ _ _
  | exact zea _ _ _ _
  | exact Nat.le_refl _
  | trivial
  | refine GdD.after ?_
  | (rename_i h; exact za8 h)
  | (rename_i h; exact (zc5 _ _ _ _ _ _ _).mono (za8 h))
  | split
theorem zo3 (P : Program) (fr : Frame) (cs : List Frame) (dy : Option Dying) (g : Nat) (w : World) : GdD w (early P fr cs dy g w) := by
 have hn : ∀ w1 : World, w.drawn <= w1.drawn -> GdD w (match w1.heap[g]? with | some (.pending c elem) => .go { frame := fr, callers := cs, status := .running, dying := dy } { w1 with heap := w1.heap.setIfInBounds g (.cells c elem) } | _ => .ended (.stuck "early: the variable does not wait" (fr.pos P)) w1) := fun w1 h1 => by
  split
  ·exact h1
  ·trivial
 unfold early
 simp only []
 repeat' first
  | exact hn _ (Nat.le_refl _)
  | exact Nat.le_refl _
  | trivial
  | (rename_i h; exact hn _ (za8 h))
  | (rename_i h; exact za8 h)
  | split
theorem zji (P : Program) (l : Bool) (fr : Frame) (cs : List Frame) (dy : Option Dying) (s : Sem Next) (w : World) : GdD w (stepG.apply P l fr cs dy s w) := by
 have hd := zpc P s w
 unfold stepG.apply
 have e : (if l = true then s.runT P w #[] else (s.run P w, #[])).1 = s.run P w := by cases l <;> simp
 generalize (if l = true then s.runT P w #[] else (s.run P w, #[])) = q at e
 obtain ⟨r, es⟩ := q
 simp only at e
 subst e
 simp only []
 refine GdD.after ?_
 generalize s.run P w = r at hd
 rcases r with ⟨n, w'⟩ | ⟨x, w'⟩
 ·have hd : w.drawn <= w'.drawn := hd
  cases n <;> (try simp only [])
  all_goals
   repeat' first
    | exact hd
    | trivial
    | exact (zda _ _ _).mono hd
    | (rename_i h; cases h; done)
    | (rename_i h; cases h; exact hd)
    | split
 ·have hd : w.drawn <= w'.drawn := hd
  cases x <;> (try simp only [])
  all_goals
   repeat' first
    | exact hd
    | trivial
    | exact (zgr _ _ _ _ _ _).mono hd
    | exact (zda _ _ _).mono hd
    | exact (zo3 _ _ _ _ _ _).mono hd
    | (rename_i h; cases h; done)
    | (rename_i h; cases h; exact hd)
    | (rename_i h; cases h; exact (zo3 _ _ _ _ _ _).mono hd)
    | split
theorem qcr (P : Program) (l : Bool) (fr : Frame) (cs : List Frame) (dy : Option Dying) (w : World) : GdD w (stepG.oper P l fr cs dy w) := by
 unfold stepG.oper
 split
 ·trivial
 ·split <;> exact zji _ _ _ _ _ _ _
theorem znc {α : Type} {w : World} (o : Option α) (a : Go.GStep) (f : α -> Go.GStep) (h0 : GdD w a) (h : ∀ x, GdD w (f x)) : GdD w (o.elim a f) := by
 cases o
 ·exact h0
 ·exact h _
theorem qce (P : Program) (b l : Bool) (fr : Frame) (cs : List Frame) (dy : Option Dying) (w : World) : GdD w (stepG.exec P b l fr cs dy w) := by
 have hl : ∀ j : Option Code, GdD w (match fr.roundOf with
   | none => if (j matches none | some .ret) then .go { frame := { fr with mode := .returning }, callers := cs, status := .running, dying := dy } w else .ended (.stuck "exit, goto: no such block or label" (fr.pos P)) w
   | some lo => Go.GStep.after (seen P fr.fn ((Instr.endRound lo j).runT P w #[]).2) (match ((Instr.endRound lo j).runT P w #[]).1 with
    | .ok v w => doReturn P b fr cs dy v w
    | .halt _ w => .ended (.stuck "range over a function: no such loop" (fr.pos P)) w)) := fun j => by
  simp only [Sem.runT_eq]
  split
  ·refine qbq (Nat.le_refl _) trivial
  ·refine GdD.after ?_
   split
   ·rename_i h
    exact (zc5 _ _ _ _ _ _ _).mono (za8 h)
   ·trivial
 unfold stepG.exec
 simp only []
 repeat' first
  | exact hl _
  | exact Nat.le_refl _
  | trivial
  | exact zji _ _ _ _ _ _ _
  | exact qcr _ _ _ _ _ _
  | refine znc _ _ _ (hl _) fun _ => ?_
  | refine znc _ _ _ trivial fun _ => ?_
  | refine znc _ _ _ ?_ fun _ => ?_
  | (rename_i h; simp only [Sem.runT_eq] at h; exact za8 h)
  | (rename_i h; exact za8 h)
  | (rename_i h; simp only [Sem.runT_eq] at h; exact zem h)
  | (rename_i h; simp only [Sem.runT_eq] at h; exact (zji _ _ _ _ _ _ _).mono (za8 h))
  | (rename_i h; simp only [Sem.runT_eq] at h; exact (zc5 _ _ _ _ _ _ _).mono (za8 h))
  | refine GdD.after ?_
  | split
theorem zyt (P : Program) (b l : Bool) (g : Goroutine) (w : World) : GdD w (stepG P b g w l) := by
 obtain ⟨fr, cs, status, dying, offers⟩ := g
 simp only [stepG]
 split
 ·exact die_gd _ _ _ _
 ·exact qce _ _ _ _ _ _ _
 ·exact zwo _ _ _ _ _ _
theorem zr9 {rest : Rest} {cs : Array CommCase} {w w1 : World} (h : waitingAt rest cs w = some w1) : w.drawn <= w1.drawn := by
 unfold waitingAt at h
 split at h
 ·split at h
  ·cases h; exact Nat.le_refl _
  ·cases h
 ·cases h; exact Nat.le_refl _
theorem qc9 (p : Program) (rest : Rest) (gs : Array Goroutine) (i : Nat) (g : Goroutine) (cases : Array CommCase) (blocking : Bool)
  (shape : CommShape) (w : World) (m' : Machine) (h : (communicate p rest gs i g cases blocking shape w).1 = .next m') : w.drawn <= m'.world.drawn := by
 unfold communicate at h
 simp only [] at h
 repeat' first
  | (simp at h; done)
  | (simp only [Stepped.next.injEq] at h; subst h; first | exact Nat.le_refl _ | exact zr9 ‹_› | (have hx := za8 ‹Sem.run p _ w = Result.ok _ _›; exact hx) | (have hx := za8 ‹Sem.run p _ w = Result.ok _ _›; have hy := zem ‹Sem.run p _ _ = Result.halt _ _›; exact Nat.le_trans hx hy) | (have hx := za8 ‹Sem.run p _ w = Result.ok _ _›; have hy := za8 ‹Sem.run p _ _ = Result.ok _ _›; exact Nat.le_trans hx hy))
  | split at h
theorem zt8 (p : Program) (gs : Array Goroutine) (rest : Rest) (w : World) (m' : Machine)
  (h : look p gs rest w = .next m') : w.drawn <= m'.world.drawn := by
 unfold look at h
 simp only [] at h
 repeat' first
  | (simp at h; done)
  | (simp only [Stepped.next.injEq] at h; subst h; have hx := za8 ‹Sem.run p _ w = Result.ok _ _›; exact hx)
  | split at h
theorem qaj (w : World) (c : Nat) : (drain w c).2.drawn = w.drawn := by
 unfold drain
 split <;> rfl
theorem zmy (m : Machine) (k : Nat) (t : Timer) (a b : Nat) : (retime m k t a b).2.world.drawn = m.world.drawn := by
 unfold retime
 simp only []
 split
 ·exact qaj _ _
 ·rfl
theorem zqj {m m' : Machine} {var : Addr} {f : Nat -> Timer -> Value × Machine} {v : Value} (hf : ∀ k t, (f k t).2.world.drawn = m.world.drawn) (h : timerOp.named m var f = .ok (v, m')) : m.world.drawn <= m'.world.drawn := by
 unfold timerOp.named at h
 split at h
 ·rename_i k _
  have := hf k (m.rest.timers.getD k default)
  simp only [Except.ok.injEq] at h
  rw [h] at this
  exact Nat.le_of_eq this.symm
 ·cases h
theorem zx1 {m m' : Machine} {op : TimerOp} {v : Value} (h : timerOp m op = .ok (v, m')) : m.world.drawn <= m'.world.drawn := by
 unfold timerOp at h
 split at h
 ·split at h
  ·simp only [Except.ok.injEq, Prod.mk.injEq] at h
   obtain ⟨_, rfl⟩ := h
   exact Nat.le_refl _
  ·split at h
   ·split at h
    ·cases h
    ·simp only [Except.ok.injEq, Prod.mk.injEq] at h
     obtain ⟨_, rfl⟩ := h
     exact Nat.le_refl _
   ·cases h
 ·exact zqj (fun k t => zmy _ _ _ _ _) h
 ·split at h
  ·rename_i m1 h1
   have h2 : m1.world.drawn = m.world.drawn := by
    unfold timerOp.opened at h1
    split at h1
    ·split at h1
     ·cases h1; rfl
     ·cases h1
    ·cases h1; rfl
   exact zqj (fun k t => (zmy _ _ _ _ _).trans h2) h
  ·cases h
 ·simp only [Except.ok.injEq, Prod.mk.injEq] at h
  obtain ⟨_, rfl⟩ := h
  exact Nat.le_refl _
theorem zyn {fr : Frame} {m : String} {w w' : World} {g : Goroutine} {es : Array Event} (h : endThrow fr m w = .go g w' es) : w.drawn <= w'.drawn := by
 unfold endThrow dieOf at h
 cases h
 exact Nat.le_refl _
theorem qdv (p : Program) (m m' : Machine) (i : Nat) (b : Bool) (h : (runT p m i b).1 = .next m') : m.world.drawn <= m'.world.drawn := by
 simp only [runT] at h
 revert h
 generalize m.gs.swapAt! _ _ = gg
 have hs := zyt p (i == 0) b gg.1 m.world
 generalize stepG p _ gg.1 m.world b = s at hs ⊢
 intro h
 cases s <;> simp only [] at h
 all_goals first
  | (simp at h; done)
  | (have := qc9 _ _ _ _ _ _ _ _ _ _ h; exact Nat.le_trans hs this)
  | (have := zt8 _ _ _ _ _ h; exact Nat.le_trans hs this)
  | (simp only [Stepped.next.injEq] at h; subst h; exact hs)
  | (repeat' first
    | (simp at h; done)
    | (simp only [Stepped.next.injEq] at h; subst h; exact hs)
    | (simp only [Stepped.next.injEq] at h; subst h; have := zx1 ‹_›; exact Nat.le_trans hs this)
    | (simp only [Stepped.next.injEq] at h; subst h; have hx := zyn ‹endThrow _ _ _ = _›; exact Nat.le_trans hs hx)
    | split at h)
theorem zyj (p : Program) (m m' : Machine) (k : Nat) (h : serve p m k = .next m') : m.world.drawn <= m'.world.drawn := by
 unfold serve at h
 simp only [] at h
 repeat' first
  | (simp at h; done)
  | (simp only [Stepped.next.injEq] at h; subst h; exact Nat.le_refl _)
  | split at h
def MvD (w : World) : Move -> Prop
 | .goroutine m _ => w.drawn <= m.world.drawn
 | .machine (.next m) _ => w.drawn <= m.world.drawn
 | .machine (.ended _ _) _ => True
theorem MvD.mono {w w1 : World} {s : Move} (h1 : w.drawn <= w1.drawn) (h : MvD w1 s) : MvD w s := by
 rcases s with ⟨m, i⟩ | ⟨m | ⟨o, w⟩, ops⟩
 ·exact Nat.le_trans h1 h
 ·exact Nat.le_trans h1 h
 ·trivial
theorem qaz (p : Program) (m : Machine) (k : Nat) (ops : Array MemOp) : MvD m.world (.machine (serve p m k) ops) := by
 cases h : serve p m k with
 | next m' => exact zyj p m m' k h
 | ended o w => trivial
theorem adv_ok {α : Type} {P : Program} {s : Sem α} {m : Machine} {n : Nat} {w' : World} {a : α} (h : s.run P (m.advanceTo n).world = .ok a w') : m.world.drawn <= w'.drawn := by
 have hx := za8 h
 exact hx
theorem zje (p : Program) (m : Machine) : MvD m.world (askOn p m) := by
 unfold askOn
 simp only []
 repeat' first
  | exact Nat.le_refl _
  | trivial
  | (rename_i h; refine MvD.mono (za8 h) ?_; clear h)
  | (rename_i h; refine MvD.mono (adv_ok h) ?_; clear h)
  | exact qaz _ _ _ _
  | split
theorem ask_mv (p : Program) (m : Machine) : MvD m.world (ask p m) := by
 unfold ask
 split
 ·split
  ·trivial
  ·rename_i w h
   refine MvD.mono (za8 h) ?_
   cases hl : look p m.gs m.rest w with
   | next m₂ => exact MvD.mono (zt8 _ _ _ _ _ hl) (zje p m₂)
   | ended o w => trivial
  ·rename_i h
   exact MvD.mono (za8 h) (zje p _)
 ·exact zje p m
theorem qd9 (p : Program) (m : Machine) : MvD m.world (move p m) := by
 unfold move
 repeat' first
  | exact Nat.le_refl _
  | trivial
  | exact ask_mv p _
  | split
theorem qcd {p : Program} {m m' : Machine} (h : step p m = .next m') : m.world.drawn <= m'.world.drawn := by
 have hm := qd9 p m
 unfold step stepT at h
 generalize move p m = v at h hm
 rcases v with ⟨m1, i⟩ | ⟨s, ops⟩
 ·exact Nat.le_trans hm (qdv p m1 m' i true h)
 ·simp only [] at h
  subst h
  exact hm
theorem qa5 {p : Program} {m m' : Machine} (h : Steps p m m') : m.world.drawn <= m'.world.drawn := by
 obtain ⟨n, hn⟩ := h
 induction n generalizing m with
 | zero => cases hn; exact Nat.le_refl _
 | succ n ih =>
  rw [runN] at hn
  split at hn
  ·rename_i m1 h1
   exact Nat.le_trans (qcd h1) (ih hn)
  ·rename_i h1
   exact absurd hn (h1 _)
theorem zy0 {P : Program} {f : FuncId} {args : Array Value} {w : World} {R : Ending -> World -> Prop} (h : Calls P f args w R) : Calls P f args w fun e w' => R e w' /\ ((∃ v, e = .returned v) -> w.drawn <= w'.drawn) := fun cs => by
 obtain ⟨e, w', fr, h1, h2, h3⟩ := h cs
 refine ⟨e, w', fr, ⟨h1, ?_⟩, h2, h3⟩
 rintro ⟨v, rfl⟩
 exact qa5 h2
end Go.Proofs.YtnkagnjiljjpcaaGreat
namespace Go.Proofs.YtnkagnjiljjpcaaGreat
set_option linter.unusedSimpArgs false
set_option linter.unusedVariables false
set_option linter.unusedSectionVars false
set_option maxRecDepth 4000
open Go.RowKit Go.Sort Go.Proofs Go.Shelf
theorem zv1 {B : Type} {f : B -> List Nat} : ∀ {l l' : List B}, l.Perm l' -> (l.map f).flatten.Perm (l'.map f).flatten := fun h => by
 induction h with
 | nil => exact .refl _
 | cons x _ ih => simp only [List.map_cons, List.flatten_cons]; exact ih.append_left _
 | swap x y l =>
  simp only [List.map_cons, List.flatten_cons, <- List.append_assoc]
  exact (List.perm_append_comm).append_right _
 | trans _ _ i1 i2 => exact i1.trans i2
theorem zux {B A : Type} [Inhabited B] {p : B -> A} {cf : A -> A -> Int} (hO : SWO (ltOf cf)) (hT : ∀ x y, ltOf cf x y = false -> ltOf cf y x = false -> x = y) {es : List B} {ys : List A} {d' : Array B} (hp : PermIn 0 es.toArray.size es.toArray d') (hs : SortedIn (ltOf fun x y => cf (p x) (p y)) 0 es.toArray.size d') (hxy : (es.map p).Perm ys) (hy : ys.Pairwise fun a b => cf a b < 0) :
  d'.size = es.length /\ d'.toList.Perm es /\ d'.toList.map p = ys := by
 obtain ⟨p1, _, p3⟩ := hp
 have hsz : d'.size = es.length := by rw [p1]; simp
 have e1 : (d'.extract 0 es.toArray.size).toList = d'.toList := by simp [<- p1]
 have e2 : (es.toArray.extract 0 es.toArray.size).toList = es := by simp
 rw [e1, e2] at p3
 refine ⟨hsz, p3, ?_⟩
 have hpy : (d'.toList.map p).Perm ys := (p3.map p).trans hxy
 refine List.Perm.eq_of_pairwise (le := fun a b => ltOf cf b a = false) (fun a b _ _ h1 h2 => hT a b h2 h1) ?_ ?_ hpy
 ·refine List.pairwise_iff_getElem.2 fun i j hi hj hij => ?_
  have hj' : j < d'.size := by simpa using hj
  have hi' : i < d'.size := by simpa using hi
  have h := hs i j (Nat.zero_le _) hij (by rw [<- p1]; exact hj')
  rw [getElem!_pos d' j hj', getElem!_pos d' i hi'] at h
  rw [List.getElem_map, List.getElem_map, Array.getElem_toList, Array.getElem_toList]
  exact h
 ·refine hy.imp fun {a b} h => ?_
  have h1 : ltOf cf a b = true := by unfold ltOf; exact decide_eq_true h
  cases hb : ltOf cf b a
  ·rfl
  ·have := hO.trans a b a h1 hb
   rw [hO.irrefl] at this
   cases this
theorem zxx {W w' : World} (h : Below W.heap.size W w') (hd : W.drawn <= w'.drawn) : ∃ q os', w' = grow (W.drewN q) os' := by
 refine ⟨w'.drawn - W.drawn, w'.heap.extract W.heap.size w'.heap.size, ?_⟩
 have hh : w'.heap = W.heap ++ w'.heap.extract W.heap.size w'.heap.size := by
  apply Array.ext_getElem?
  intro i
  by_cases hi : i < W.heap.size
  ·rw [Array.getElem?_append_left hi, h.block i hi]
  ·rw [Array.getElem?_append_right (by omega), Array.getElem?_extract]
   by_cases h2 : i < w'.heap.size
   ·rw [if_pos (by omega), show W.heap.size + (i - W.heap.size) = i by omega]
   ·rw [if_neg (by omega), Array.getElem?_eq_none (by omega)]
 obtain ⟨hp', tp', dr', os', ou'⟩ := w'
 have h1 := h.os
 have h2 := h.tape
 have h3 := h.output
 simp only at h1 h2 h3 hh hd
 unfold grow World.drewN
 subst h1 h2 h3
 simp only [World.mk.injEq, and_true, true_and]
 exact ⟨hh, by omega⟩
theorem zx6 {P : Program} {g : FuncId} {ds : List D} {n : Int} (H : FC P g ds [.one (.int .i64 n)]) {W : World} {vs : List Value} (hr : za5 W (fun b => b < W.heap.size) ds vs) : Calls P g ⟨vs⟩ W fun e w' => e = .returned (.int .i64 n) /\ ∃ q os', w' = grow (W.drewN q) os' := by
 refine (zy0 (H.use hr)).mono ?_
 rintro e w' ⟨⟨us, fp, he, ho, _, _, bel⟩, hd⟩
 obtain ⟨u, us', f1, f2, rfl, _, hu, hus⟩ := ho
 obtain ⟨rfl, _⟩ := hus
 have hu : zas w' (.int .i64 n) u f1 := hu
 unfold zas at hu
 obtain ⟨rfl, _⟩ := hu
 exact ⟨he, zxx bel (hd ⟨_, he⟩)⟩
set_option maxHeartbeats 1000000 in
theorem qcs {P : Program} {ρ : Ren} (L : SlLaysF0.n6 P ρ) {A : Type} {c : A -> List T} {G : A -> Prop} {cf : A -> A -> Int} {sz : Nat} {g : FuncId} (hf : zbe P (ρ.f 6)) (aE : ∀ w, (isAgg (ρ.t 24)).run P w = .ok true w) (zE : ∀ w, (Go.sizeOf (ρ.t 24)).run P w = .ok sz w)
  (eg : zbe P g) (hc : ∀ x, (c x).length = sz) (hO : SWO (ltOf cf)) (hT : ∀ x y, ltOf cf x y = false -> ltOf cf y x = false -> x = y)
  (hcmp : ∀ x y : A, G x -> G y -> FC P g [.agg (c x), .agg (c y)] [.one (.int .i64 (cf x y))])
  (xs ys : List A) (hp : xs.Perm ys) (hr : ys.Pairwise fun a b => cf a b < 0) (hg : ∀ x ∈ xs, G x) (hl : xs.length < 4611686018427387904) : IC P (ρ.f 6) [] (.one (.sl sz (xs.map c))) [.one (.fn g [])] (.one (.sl sz (ys.map c))) [] := by
 refine ⟨hf, fun w us1 v us2 fp tp h1 hgd h2 hn => ?_⟩
 rw [show us1 = [] from h1]
 obtain ⟨u, us, e0, h2, h3⟩ := h2
 rw [show us = [] from h3] at e0
 subst e0
 have h2 : zak w _ (T.fn g []) u := h2
 unfold zak at h2
 obtain ⟨cs, rfl, h4⟩ := h2
 rw [show cs = [] by unfold zac at h4; exact h4]
 have hlen : ys.length = xs.length := hp.length_eq.symm
 obtain ⟨hgd, htp⟩ := hgd
 unfold zas at hgd
 obtain ⟨ao, cap, rfl, q1, q2, q3⟩ := hgd
 rw [List.length_map] at q1 ⊢
 rcases q3 with ⟨rfl, rfl, q3, rfl⟩ | ⟨b, cells, ty, fps, rfl, rfl, q3, q4, q5⟩
 ·have hs : xs = [] := List.map_eq_nil_iff.1 q3
  subst hs
  have hy : ys = [] := List.length_eq_zero_iff.1 hlen
  subst hy
  refine (AnyF.slices_SortFunc_none L none 0 _ w).mono ?_
  rintro e w' ⟨rfl, rfl⟩
  refine ⟨[], [], [], rfl, ⟨_, [], [], [], [], [], rfl, rfl, rfl, ⟨?_, rfl⟩, rfl, rfl, rfl⟩, List.nodup_nil, by simp, Bk.refl _ _⟩
  unfold zas
  exact ⟨none, 0, by simp, by simp, by simp, Or.inl ⟨rfl, rfl, by simp, rfl⟩⟩
 ·by_cases h0 : xs = []
  ·subst h0
   have hy : ys = [] := List.length_eq_zero_iff.1 hlen
   subst hy
   refine (AnyF.slices_SortFunc_none L (some ⟨b, 0, none⟩) cap _ w).mono ?_
   rintro e w' ⟨rfl, rfl⟩
   refine ⟨[], b :: fps, tp, rfl, ⟨_, [], b :: fps, [], tp, [], rfl, by simp, by simp, ⟨?_, htp⟩, rfl, rfl, rfl⟩, hn, fun x hx => Or.inl hx, Bk.refl _ _⟩
   unfold zas
   exact ⟨_, cap, rfl, q1, q2, Or.inr ⟨b, cells, ty, fps, rfl, rfl, q3, q4, q5⟩⟩
  have hnb : b ∉ fps := (List.nodup_cons.1 hn).1
  obtain ⟨es, e1, e2, e3, e4⟩ := qbw (G := G) (b := b) q5 hnb hg
  have hne : es ≠ [] := fun e => h0 (by rw [<- e1, e]; rfl)
  letI : Inhabited (El c G w b) := ⟨es.head hne⟩
  have hel : es.length = xs.length := by rw [<- e1, List.length_map]
  have hH := zxk q3 e3 e4
  have hsz2 : es.toArray.size = xs.length := by simpa using hel
  have hvl : ∀ x : El c G w b, x.vs.length = sz := fun x => x.own.len.trans (hc _)
  have hblk : b < w.heap.size := (Array.getElem?_eq_some_iff.1 q3).1
  have hkeep : ∀ (W : World), w.grownBy W (some b) -> ∀ x : El c G w b, zar W (c x.x) x.vs x.fp := fun W hW x => x.own.keep fun k hk => hW.block k (x.own.lt k hk) fun e => x.nb (by cases e; exact hk)
  have hcl : CmpLays P g #[] El.vs sz (fun x y : El c G w b => cf x.x y.x) b 0 es.toArray.size w := fun m os dk _ x y => by
   have h1 := hkeep _ (zck (w := w) (b := b) (enc := El.vs) (k := sz) (n := m) (os := os) dk) x
   have h2 := hkeep _ (zck (w := w) (b := b) (enc := El.vs) (k := sz) (n := m) (os := os) dk) y
   exact (zx6 (hcmp x.x y.x x.good y.good) (vs := [.agg ⟨x.vs⟩, .agg ⟨y.vs⟩]) ⟨_, _, rfl, ⟨_, rfl, h1.rep h1.lt⟩, _, _, rfl, ⟨_, rfl, h2.rep h2.lt⟩, rfl⟩)
  have hO2 : SWO (ltOf fun x y : El c G w b => cf x.x y.x) := ⟨fun x => hO.irrefl x.x, fun x y z => hO.trans x.x y.x z.x, fun x y z => hO.ntrans x.x y.x z.x⟩
  have hC := AnyQ.slices_SortFunc L sz aE zE El.vs hvl (fun x v hv => x.own.oneC v hv) (fun x y : El c G w b => cf x.x y.x) hO2 g #[] b 0 cap es.toArray w eg hcl hH hblk (by rw [hsz2]; exact hl)
  rw [hsz2] at hC
  refine Calls.mono (show Calls P (ρ.f 6) _ w _ from hC) ?_
  rintro e w' ⟨rfl, d', n, os, hp', hs', rfl⟩
  rw [<- hsz2] at hp' hs'
  obtain ⟨z1, z2, z3⟩ := zux (p := El.x) hO hT hp' hs' (by rw [e1]; exact hp) hr
  have hgr := zck (w := w) (b := b) (enc := El.vs) (k := sz) (n := n) (os := os) d'
  have hpm := zv1 (f := El.fp) z2
  rw [e2] at hpm
  refine ⟨[], b :: (d'.toList.map El.fp).flatten, zgb (.sl sz (ys.map c)) (b :: (d'.toList.map El.fp).flatten), rfl, ⟨_, [], b :: (d'.toList.map El.fp).flatten, [], zgb (.sl sz (ys.map c)) (b :: (d'.toList.map El.fp).flatten), [], rfl, by simp, by simp, ⟨?_, rfl⟩, rfl, rfl, rfl⟩, ?_, fun x hx => Or.inl ?_, ⟨hgr.os, hgr.tape, hgr.output, hgr.size, fun k hk => hgr.block k hk.1 fun e => hk.2 (by cases e; simp)⟩⟩
  ·unfold zas
   refine ⟨_, cap, by rw [List.length_map, hlen], by rw [List.length_map, hlen]; exact q1, q2, Or.inr ⟨b, _, ty, (d'.toList.map El.fp).flatten, rfl, rfl, zlf d' q3, by simp [putCells, q4], ?_⟩⟩
   have hcs : es.length * sz <= cells.size := by
    rw [q4, hel]
    exact Nat.mul_le_mul_right sz q1
   have := zgx (w' := sortWorldK El.vs sz w b 0 n d' os) (cells := putCells id 0 (flatK El.vs sz d') cells) (sz := sz) (es := d'.toList) (o := 0) (fun e _ => hc _) (fun i h r u hu => by
    have k := zu6 (cur := cells) (sz := sz) (es := d'.toList) (fun e _ => hvl e) (by rw [Array.length_toList, z1]; exact hcs) i h r u hu
    simpa using k) fun k hk => hgr.block k (by
     have : k ∈ fps := hpm.mem_iff.1 hk
     exact zad.lt _ _ _ _ _ q5 k this) fun e => hnb (by cases e; exact hpm.mem_iff.1 hk)
   rw [z3] at this
   exact this
  ·exact (List.Perm.nodup_iff (hpm.cons b)).2 hn
  ·rcases List.mem_cons.1 hx with rfl | hx
   ·simp
   ·exact List.mem_cons_of_mem _ (hpm.mem_iff.1 hx)
end Go.Proofs.YtnkagnjiljjpcaaGreat
namespace Go.Proofs
open Go.Shelf
set_option maxRecDepth 100000
def Tryz.laysST_ren : Go.Shelf.Ren := ⟨fun | 6 => 38 | 15 => 89 | 14 => 88 | 28 => 146 | 29 => 147 | 20 => 138 | 21 => 139 | 22 => 140 | 23 => 141 | 24 => 142 | 25 => 143 | 26 => 144 | 27 => 145 | 46 => 179 | 47 => 180 | 48 => 181 | 49 => 182 | 50 => 183 | 57 => 202 | n => n, fun | 22 => 24 | 24 => 58 | 25 => 66 | 3 => 3 | 39 => 111 | 0 => 0 | 53 => 157 | 55 => 159 | 4 => 4 | 46 => 150 | 45 => 149 | 50 => 154 | 5 => 5 | 9 => 9 | 66 => 180 | 70 => 184 | 76 => 198 | 77 => 199 | n => n, fun | n => n⟩
theorem Tryz.laysST : Go.Proofs.SlLaysF0.n6 Tryz.prog Tryz.laysST_ren := {
 mixed := by kernel_rfl
 f6 := ⟨Tryz.f38.name, by decide, Tryz.func38.trans (congrArg some (by kernel_rfl))⟩
 f14 := ⟨Tryz.f88.name, by decide, Tryz.func88.trans (congrArg some (by kernel_rfl))⟩
 f15 := Tryz.func89.trans (congrArg some (by kernel_rfl))
 f20 := ⟨Tryz.f138.name, by decide, Tryz.func138.trans (congrArg some (by kernel_rfl))⟩
 f21 := ⟨Tryz.f139.name, by decide, Tryz.func139.trans (congrArg some (by kernel_rfl))⟩
 f22 := ⟨Tryz.f140.name, by decide, Tryz.func140.trans (congrArg some (by kernel_rfl))⟩
 f23 := ⟨Tryz.f141.name, by decide, Tryz.func141.trans (congrArg some (by kernel_rfl))⟩
 f24 := ⟨Tryz.f142.name, by decide, Tryz.func142.trans (congrArg some (by kernel_rfl))⟩
 f25 := ⟨Tryz.f143.name, by decide, Tryz.func143.trans (congrArg some (by kernel_rfl))⟩
 f26 := ⟨Tryz.f144.name, by decide, Tryz.func144.trans (congrArg some (by kernel_rfl))⟩
 f27 := ⟨Tryz.f145.name, by decide, Tryz.func145.trans (congrArg some (by kernel_rfl))⟩
 f28 := Tryz.func146.trans (congrArg some (by kernel_rfl))
 f29 := Tryz.func147.trans (congrArg some (by kernel_rfl))
 f46 := ⟨Tryz.f179.name, by decide, Tryz.func179.trans (congrArg some (by kernel_rfl))⟩
 f47 := Tryz.func180.trans (congrArg some (by kernel_rfl))
 f48 := Tryz.func181.trans (congrArg some (by kernel_rfl))
 f49 := ⟨Tryz.f182.name, by decide, Tryz.func182.trans (congrArg some (by kernel_rfl))⟩
 f50 := ⟨Tryz.f183.name, by decide, Tryz.func183.trans (congrArg some (by kernel_rfl))⟩
 f57 := ⟨Tryz.f202.name, by decide, Tryz.func202.trans (congrArg some (by kernel_rfl))⟩
 t0 := Tryz.underlying0
 a0 := Tryz.isAgg0
 z0 := Tryz.sizeOf0
 v0 := Tryz.zeroValue0
 t3 := Tryz.underlying3
 a3 := Tryz.isAgg3
 z3 := Tryz.sizeOf3
 v3 := Tryz.zeroValue3
 t4 := Tryz.underlying4
 a4 := Tryz.isAgg4
 z4 := Tryz.sizeOf4
 v4 := Tryz.zeroValue4
 t5 := Tryz.underlying5
 a5 := Tryz.isAgg5
 z5 := Tryz.sizeOf5
 v5 := Tryz.zeroValue5
 t9 := Tryz.underlying9
 a9 := Tryz.isAgg9
 z9 := Tryz.sizeOf9
 v9 := Tryz.zeroValue9
 t22 := Tryz.underlying24
 a22 := Tryz.isAgg24
 z22 := Tryz.sizeOf24
 v22 := Tryz.zeroValue24
 t25 := Tryz.underlying66
 a25 := Tryz.isAgg66
 z25 := Tryz.sizeOf66
 v25 := Tryz.zeroValue66
 t39 := Tryz.underlying111
 a39 := Tryz.isAgg111
 z39 := Tryz.sizeOf111
 v39 := Tryz.zeroValue111
 t45 := Tryz.underlying149
 a45 := Tryz.isAgg149
 z45 := Tryz.sizeOf149
 v45 := Tryz.zeroValue149
 t46 := Tryz.underlying150
 a46 := Tryz.isAgg150
 z46 := Tryz.sizeOf150
 v46 := Tryz.zeroValue150
 t50 := Tryz.underlying154
 a50 := Tryz.isAgg154
 z50 := Tryz.sizeOf154
 v50 := Tryz.zeroValue154
 t53 := Tryz.underlying157
 a53 := Tryz.isAgg157
 z53 := Tryz.sizeOf157
 v53 := Tryz.zeroValue157
 t55 := Tryz.underlying159
 a55 := Tryz.isAgg159
 z55 := Tryz.sizeOf159
 v55 := Tryz.zeroValue159
 t66 := Tryz.underlying180
 a66 := Tryz.isAgg180
 z66 := Tryz.sizeOf180
 v66 := Tryz.zeroValue180
 t70 := Tryz.underlying184
 a70 := Tryz.isAgg184
 z70 := Tryz.sizeOf184
 v70 := Tryz.zeroValue184
 t76 := Tryz.underlying198
 a76 := Tryz.isAgg198
 z76 := Tryz.sizeOf198
 v76 := Tryz.zeroValue198
 t77 := Tryz.underlying199
 a77 := Tryz.isAgg199
 z77 := Tryz.sizeOf199
 v77 := Tryz.zeroValue199 }
end Go.Proofs
namespace Go.Proofs.YtnkagnjiljjpcaaGreat
set_option linter.unusedSimpArgs false
set_option linter.unusedVariables false
set_option linter.unusedSectionVars false
set_option maxRecDepth 4000
open Go.RowKit Go.Sort
theorem zfd (xs : List Cq) (p : Cq -> Bool) (g : FuncId) (caps : List T) (H : ∀ x ∈ xs, FC Tryz.prog g (cqD x :: caps.map .one) [bD (p x)]) : FC Tryz.prog 83 [.one (cqS xs), .one (.fn g caps)] [iD (zgl xs p)] := by
 refine zbw (fun hw => ?_) Tryz.call83
 have hl : xs.length <= 9223372036854775807 := by simpa [zd3, wfT] using hw.1.1
 refine zan Tryz.call83 Tryz.func83 rfl (by kernel_rfl) (za3 (by kernel_rfl)) ?_
 simp -implicitDefEqProofs only [go_sem, Tryz.results83]
 refine zag (fun k : Nat => hd [(0, vT (cqS xs)), (1, vT (.fn g caps)), (7, vI xs.length), (8, vI k)] [] []) (fun k => k <= xs.length /\ ∀ x ∈ xs.take k, p x = false) (fun k => xs.length - k) 0 (zab ?_) ?_ ?_
 ·simp -implicitDefEqProofs only [go_sem]
 ·simp
 ·intro k ⟨hk, hr⟩
  by_cases hlt : k < xs.length
  ·simp -implicitDefEqProofs only [go_sem, zaf, hlt, zat]
   refine callF (H xs[k] (List.getElem_mem hlt)) (by simp -implicitDefEqProofs only [go_sem, zat]) ?_
   simp -implicitDefEqProofs only [go_sem, zat]
   refine ⟨fun h => ?_, fun h => ⟨k + 1, ⟨hlt, zdb hlt hr h⟩, by omega, zab (by simp -implicitDefEqProofs only [go_sem]; rw [zam (by omega)])⟩⟩
   rw [zd0 hlt hr h]
  ·simp -implicitDefEqProofs only [go_sem, hlt]
   rw [List.take_of_length_le (by omega)] at hr
   rw [zh0 hr]
theorem zd4 (xs : List Cq) (p : Cq -> Bool) (g : FuncId) (caps : List T) (H : ∀ x ∈ xs, FC Tryz.prog g (cqD x :: caps.map .one) [bD (p x)]) : FC Tryz.prog 34 [.one (cqS xs), .one (.fn g caps)] [bD (xs.any p)] := by
 refine zan Tryz.call34 Tryz.func34 rfl (by kernel_rfl) (za3 (by kernel_rfl)) ?_
 simp -implicitDefEqProofs only [go_sem, Tryz.results34]
 refine callF (zfd xs p g caps H) (by simp -implicitDefEqProofs only [go_sem]) ?_
 simp -implicitDefEqProofs only [go_sem]
 rw [zqn]
theorem swo_of {α : Type} {c : α -> α -> Int} (h : GCmp c) : SWO (ltOf c) where
 irrefl x := by have := h.self x; simp [ltOf, this]
 trans x y z h1 h2 := by
  have n1 := h.neg x y
  have n2 := h.neg y z
  have n3 := h.neg x z
  have t1 := h.tr x y z
  have t2 := h.tr z x y
  have t3 := h.tr y z x
  simp only [ltOf, decide_eq_true_eq] at *
  omega
 ntrans x y z h1 h2 := by
  have n1 := h.neg x y
  have n2 := h.neg y z
  have n3 := h.neg x z
  have t1 := h.tr z y x
  simp only [ltOf, decide_eq_false_iff_not] at *
  omega
theorem zni (xs ys : List Tm) (hp : xs.Perm ys) (hr : zxs ys) (hg : ∀ x ∈ xs, upT x = true) (hl : xs.length < 4611686018427387904) : IC Tryz.prog 38 [] (.one (tmS xs)) [.one (.fn 39 [])] (.one (tmS ys)) [] :=
 qcs (G := fun x => upT x = true) (cf := zb9) Tryz.laysST Tryz.call38 (fun w => Tryz.isAgg58 w) (fun w => Tryz.sizeOf58 w) Tryz.call39 (fun x => by rw [zaa]; rfl) (swo_of zhh)
  (fun x y h1 h2 => by
   have n1 := zc9 x y
   unfold ltOf at h1 h2
   rw [decide_eq_false_iff_not] at h1 h2
   exact (zhm x y).1 (by omega)) (fun x y h1 h2 => zd8 x y h1 h2) xs ys hp hr hg hl
theorem zpg {cs : List Cq} {c : Cq} (h : c ∈ cs) : c.wt <= zij cs := by
 have h2 : zij cs = cs.length + (cs.map Cq.wt).sum := rfl
 have := zb8 Cq.wt cs c h
 omega
theorem ztk (cs : List Cq) : (atC cs).length <= zij cs := by
 have h := zgh (fun c : Cq => atL c.lits) (fun c => 1 + c.wt) cs fun c _ => by
  have h1 := c.wt_eq
  have h2 : zgf c.lits = c.lits.length + (c.lits.map Li.wt).sum := rfl
  show ((c.lits.map Li.atom).length) <= _
  rw [List.length_map]
  omega
 rw [zj5] at h
 have h2 : zij cs = cs.length + (cs.map Cq.wt).sum := rfl
 unfold atC
 omega
theorem zj0 {cs : List Cq} {k : Nat} (h : k < cs.length) : atC (cs.take (k + 1)) = atC (cs.take k) ++ atL cs[k].lits := by
 unfold atC
 rw [List.take_succ_eq_append_getElem h, List.map_append, List.flatten_append]
 simp
theorem zp2 {ls : List Li} {k : Nat} (h : k < ls.length) : atL (ls.take (k + 1)) = atL (ls.take k) ++ [ls[k].atom] := by
 unfold atL
 rw [List.take_succ_eq_append_getElem h, List.map_append, List.map_singleton]
theorem zxb {cs : List Cq} {k j : Nat} (h : k < cs.length) : (atC (cs.take k)).length + (atL (cs[k].lits.take j)).length <= (atC cs).length := by
 have h1 : (atL (cs[k].lits.take j)).length <= (atL cs[k].lits).length := by
  unfold atL
  rw [List.length_map, List.length_map, List.length_take]
  omega
 have h2 := zj0 h
 have h3 : (atC (cs.take (k + 1))).length <= (atC cs).length := by
  unfold atC
  rw [List.map_take]
  exact zui _ _
 rw [h2, List.length_append] at h3
 omega
set_option maxHeartbeats 2000000 in
theorem zfe (cs : List Cq) (hw : zij cs <= 1048576) : FC Tryz.prog 10 [.one (cqS cs)] [.one (tmS (gaR cs)), bD (zoh cs)] := by
 have hcw := fun c (h : c ∈ cs) => Nat.le_trans (zpg h) hw
 have HF := zd4 cs (fun c => !grC c) 35 [] fun c hc => zmd c (hcw c hc)
 have hv1 : zoh cs = (decide (cs.length <= 40) && cs.all grC && decide ((gaL cs).length <= 12)) := rfl
 have hv2 : gaR cs = if zoh cs = true then gaL cs else [] := rfl
 have hal := ztk cs
 have hln : cs.length <= 1048576 := by have h2 : zij cs = cs.length + (cs.map Cq.wt).sum := rfl; omega
 have hpm := qde (atC cs)
 have hsr := qbx cs
 by_cases h40 : cs.length <= 40
 ·have h40' : ((40 : Int) < (cs.length : Int)) = False := eq_false (by omega)
  rw [decide_eq_true h40, Bool.true_and] at hv1
  cases hg : cs.all grC
  ·have hany : (cs.any fun c => !grC c) = true := by
    rw [List.any_eq_true]
    rw [List.all_eq_false] at hg
    obtain ⟨c, h1, h2⟩ := hg
    exact ⟨c, h1, by simpa using h2⟩
   rw [hg, Bool.false_and] at hv1
   rw [hany] at HF
   rw [hv1, if_neg (by simp)] at hv2
   rw [hv2, hv1]
   refine zig Tryz.call10 Tryz.func10 rfl (by kernel_rfl) (za3 (by kernel_rfl)) ?_
   simp -implicitDefEqProofs only [go_sem, Tryz.results10, h40']
   refine callF (HF) (by simp -implicitDefEqProofs only [go_sem]) ?_
   simp -implicitDefEqProofs only [go_sem]
  ·have hany : (cs.any fun c => !grC c) = false := by
    rw [List.any_eq_false]
    rw [List.all_eq_true] at hg
    intro c hc
    simp [hg c hc]
   rw [hany] at HF
   have hup : ∀ t ∈ atC cs, upT t = true := fun t ht => by
    obtain ⟨c, hc, l, hl, rfl⟩ := zun.1 ht
    exact zn8 (zhx (zu5 (List.all_eq_true.1 hg c hc)) l hl)
   have hupD : ∀ t ∈ (atC cs).foldl zep [], upT t = true := fun t ht => hup t (by rw [zgy] at ht; simpa using ht)
   have hdl := zev (atC cs) []
   rw [List.length_nil] at hdl
   have HS := zni ((atC cs).foldl zep []) (gaL cs) hpm hsr hupD (by omega)
   rw [hg, Bool.true_and] at hv1
   have hlen : ((atC cs).foldl zep []).length = (gaL cs).length := hpm.length_eq
   rw [hv2, hv1]
   refine zig Tryz.call10 Tryz.func10 rfl (by kernel_rfl) (za3 (by kernel_rfl)) ?_
   simp -implicitDefEqProofs only [go_sem, Tryz.results10, h40']
   refine callF (HF) (by simp -implicitDefEqProofs only [go_sem]) ?_
   simp -implicitDefEqProofs only [go_sem]
   refine zbt (by simp -implicitDefEqProofs only [go_sem]) ?_
   simp -implicitDefEqProofs only [go_sem]
   refine zag (fun k : Nat => hd [(4, .one (.ow 512 0)), (17, .one (.rn (cqS cs))), (18, vI cs.length), (19, vI k)] [] [(512, ⟨true, 2, ((atC (cs.take k)).foldl zep []).map tmC, 0, true⟩)]) (fun k => k <= cs.length) (fun k => cs.length - k) 0 (zab ?_) (Nat.zero_le _) ?_
   ·simp -implicitDefEqProofs only [go_sem]
    rfl
   ·intro k hk
    by_cases hlt : k < cs.length
    ·have hpre := fun j => zxb (cs := cs) (k := k) (j := j) hlt
     have hsu := zj0 hlt
     have hdk := zev (atC (cs.take k)) []
     rw [List.length_nil] at hdk
     have hlw := fun l (h : l ∈ cs[k].lits) => Nat.le_trans (zio h) (hcw _ (List.getElem_mem hlt))
     have hll : cs[k].lits.length <= 1048576 := by
      have h1 := hcw _ (List.getElem_mem hlt)
      have h2 := cs[k].wt_eq
      have h3 : zgf cs[k].lits = cs[k].lits.length + (cs[k].lits.map Li.wt).sum := rfl
      omega
     simp -implicitDefEqProofs only [go_sem, hlt, zaf, zat cs[k]]
     generalize cs[k].lits = ls at hpre hsu hlw hll ⊢
     refine zag (fun j : Nat => hd [(4, .one (.ow 512 0)), (17, .one (.rn (cqS cs))), (18, vI cs.length), (19, vI k), (24, .one (.rn (liS ls))), (25, vI ls.length), (26, vI j)] [] [(512, ⟨true, 2, ((atL (ls.take j)).foldl zep ((atC (cs.take k)).foldl zep [])).map tmC, 0, true⟩)]) (fun j => j <= ls.length) (fun j => ls.length - j) 0 (zab ?_) (Nat.zero_le _) ?_
     ·simp -implicitDefEqProofs only [go_sem]
      rfl
     ·intro j hj
      by_cases hlj : j < ls.length
      ·have hdj := zev (atL (ls.take j)) ((atC (cs.take k)).foldl zep [])
       have hpj := hpre j
       have hlj2 := hlw _ (List.getElem_mem hlj)
       have hlj3 := ls[j].wt_eq
       have HC := zuf ((atL (ls.take j)).foldl zep ((atC (cs.take k)).foldl zep [])) ls[j].atom (by omega) (by omega)
       rw [show zep ((atL (ls.take j)).foldl zep ((atC (cs.take k)).foldl zep [])) ls[j].atom = (atL (ls.take (j + 1))).foldl zep ((atC (cs.take k)).foldl zep []) from by rw [zp2 hlj, List.foldl_append]; rfl] at HC
       simp only [tmD, zaa ls[j].atom] at HC
       simp -implicitDefEqProofs only [go_sem, hlj, zaf, zai ls[j]]
       refine zhl [17, 18, 19, 24, 25, 26] [30, 32] [] (HC) (by simp -implicitDefEqProofs only [go_sem]) (by simp -implicitDefEqProofs only [go_sem]) (by simp -implicitDefEqProofs only [go_sem]) (by simp -implicitDefEqProofs only [go_sem]) ?_
       simp -implicitDefEqProofs only [go_sem]
       refine ⟨j + 1, hlj, by omega, zco 512 1056 ?_⟩
       simp -implicitDefEqProofs only [go_sem]
       rw [zam (by omega)]
      ·have ht : ls.take j = ls := List.take_of_length_le (by omega)
       simp -implicitDefEqProofs only [go_sem, hlj]
       refine ⟨k + 1, hlt, by omega, zab ?_⟩
       simp -implicitDefEqProofs only [go_sem]
       rw [zam (by omega), ht, hsu, List.foldl_append]
       exact ⟨rfl, rfl⟩
    ·have ht : cs.take k = cs := List.take_of_length_le (by omega)
     rw [ht]
     simp -implicitDefEqProofs only [go_sem, hlt]
     by_cases h12 : (gaL cs).length <= 12
     ·have h12' : ((12 : Int) < (((atC cs).foldl zep []).length : Int)) = False := eq_false (by omega)
      rw [decide_eq_true h12, if_pos rfl]
      simp -implicitDefEqProofs only [go_sem, h12']
      refine zm0 [4, 39] (HS) (by simp -implicitDefEqProofs only [go_sem]) (by simp -implicitDefEqProofs only [go_sem]) (by simp -implicitDefEqProofs only [go_sem]) (by simp -implicitDefEqProofs only [go_sem]) (by simp -implicitDefEqProofs only [go_sem]) rfl ?_
      simp -implicitDefEqProofs only [go_sem]
     ·have h12' : ((12 : Int) < (((atC cs).foldl zep []).length : Int)) = True := eq_true (by omega)
      rw [decide_eq_false h12, if_neg (by simp)]
      simp -implicitDefEqProofs only [go_sem, h12']
 ·have h40' : ((40 : Int) < (cs.length : Int)) = True := eq_true (by omega)
  rw [decide_eq_false h40, Bool.false_and, Bool.false_and] at hv1
  rw [hv1, if_neg (by simp)] at hv2
  rw [hv2, hv1]
  refine zig Tryz.call10 Tryz.func10 rfl (by kernel_rfl) (za3 (by kernel_rfl)) ?_
  simp -implicitDefEqProofs only [go_sem, Tryz.results10, h40']
end Go.Proofs.YtnkagnjiljjpcaaGreat
namespace Go.Proofs.YtnkagnjiljjpcaaGreat
set_option linter.unusedSimpArgs false
set_option linter.unusedVariables false
set_option linter.unusedSectionVars false
set_option maxRecDepth 4000
open Go.RowKit
noncomputable def gaP (cs : List Cq) : Bool := decide (cs.length <= 40) && cs.all grC
noncomputable def gaA (cs : List Cq) : List Tm := if gaP cs = true then gaL cs else []
theorem zp1 (cs : List Cq) : zoh cs = (gaP cs && decide ((gaL cs).length <= 12)) := rfl
theorem zff : ∀ (ts ys : List Tm), (ts.foldl zfg ys).length <= ys.length + ts.length
 | [], ys => by simp
 | t :: ts, ys => by
  have h1 := zff ts (zfg ys t)
  have h2 : (zfg ys t).length <= ys.length + 1 := by
   unfold zfg
   split
   ·omega
   ·have := congrArg List.length (List.takeWhile_append_dropWhile (p := fun x => ltT x t) (l := ys))
    simp only [List.length_append, List.length_cons, List.length_nil] at this ⊢
    omega
  rw [List.foldl_cons, List.length_cons]; omega
set_option maxHeartbeats 2000000 in
theorem zrp (cs : List Cq) (hw : zij cs <= 1048576) : RC Tryz.prog 32 [.one (cqS cs)] [.one (tmS (gaA cs)), bD (zoh cs)] := by
 have hcw := fun c (h : c ∈ cs) => Nat.le_trans (zpg h) hw
 have hv1 := zp1 cs
 have hv2 : gaA cs = if gaP cs = true then gaL cs else [] := rfl
 have hv3 : gaP cs = (decide (cs.length <= 40) && cs.all grC) := rfl
 have hal := ztk cs
 have hln : cs.length <= 1048576 := by have h2 : zij cs = cs.length + (cs.map Cq.wt).sum := rfl; omega
 by_cases h40 : cs.length <= 40
 ·have h40' : ((40 : Int) < (cs.length : Int)) = False := eq_false (by omega)
  rw [decide_eq_true h40, Bool.true_and] at hv3
  refine ziq Tryz.call32 Tryz.func32 rfl (by kernel_rfl) (za3 (by kernel_rfl)) ?_
  simp -implicitDefEqProofs only [go_sem, Tryz.results32]
  refine qbn (by simp -implicitDefEqProofs only [go_sem]) ?_
  simp -implicitDefEqProofs only [go_sem]
  simp -implicitDefEqProofs only [go_sem, h40']
  refine zag (fun k : Nat => hd [(0, vT (cqS cs)), (4, vT (tmS ((atC (cs.take k)).foldl zfg []))), (5, vI k)] [] []) (fun k => k <= cs.length /\ (cs.take k).all grC = true) (fun k => cs.length - k) 0 (zab ?_) ⟨Nat.zero_le _, rfl⟩ ?_
  ·simp -implicitDefEqProofs only [go_sem]
   rfl
  ·intro k ⟨hk, hr⟩
   by_cases hlt : k < cs.length
   ·have hno : grC cs[k] = false -> gaP cs = false := fun h => by
     rw [hv3, List.all_eq_false]
     exact ⟨cs[k], List.getElem_mem hlt, by simp [h]⟩
    have HG := qaw cs[k] (hcw _ (List.getElem_mem hlt))
    have HN := zq7 cs[k] (hcw _ (List.getElem_mem hlt))
    have hgv : grC cs[k] = (cs[k].ok && decide (cs[k].vo = [])) := rfl
    have hd0 : ((0 : Int) < ((zb7 [] cs[k].vo).length : Int)) ↔ cs[k].vo ≠ [] := by
     rw [<- zpt, zmn]
     have h1 := zml cs[k].vo
     constructor
     ·intro h e
      have := h1.2 e
      omega
     ·intro h
      have : (zbn [] cs[k].vo).length ≠ 0 := fun e => h (h1.1 e)
      omega
    cases hg : cs[k].ok
    ·have hp := hno (by rw [hgv, hg, Bool.false_and])
     rw [hp, Bool.false_and] at hv1
     rw [hp, if_neg (by simp)] at hv2
     rw [hg] at HG
     rw [hv1, hv2]
     simp only [cqD, zat cs[k]] at HG
     simp -implicitDefEqProofs only [go_sem, hlt, zaf, zat cs[k]]
     refine callF (HG) (by simp -implicitDefEqProofs only [go_sem]) ?_
     simp -implicitDefEqProofs only [go_sem]
     refine zgq (by simp -implicitDefEqProofs only [go_sem]) ?_
     simp -implicitDefEqProofs only [go_sem]
    ·rw [hg] at HG
     rw [hg, Bool.true_and] at hgv
     generalize zb7 [] cs[k].vo = L at HN hd0
     by_cases hvo : cs[k].vo = []
     ·have hL : ((0 : Int) < (L.length : Int)) = False := by
       rw [eq_iff_iff, hd0]
       simp [hvo]
      have hpre := fun j => zxb (cs := cs) (k := k) (j := j) hlt
      have hsu := zj0 hlt
      have hdk := zff (atC (cs.take k)) []
      rw [List.length_nil] at hdk
      have hlw := fun l (h : l ∈ cs[k].lits) => Nat.le_trans (zio h) (hcw _ (List.getElem_mem hlt))
      have hgc : grC cs[k] = true := by rw [hgv, decide_eq_true hvo]
      have hll : cs[k].lits.length <= 1048576 := by
       have h1 := hcw _ (List.getElem_mem hlt)
       have h2 := cs[k].wt_eq
       have h3 : zgf cs[k].lits = cs[k].lits.length + (cs[k].lits.map Li.wt).sum := rfl
       omega
      have hcq := zat cs[k]
      simp only [cqD, hcq] at HG HN
      generalize cs[k].lits = ls at hpre hsu hlw hll hcq HG HN
      simp -implicitDefEqProofs only [go_sem, hlt, zaf, hcq]
      refine callF (HG) (by simp -implicitDefEqProofs only [go_sem, hlt, zaf, hcq]) ?_
      simp -implicitDefEqProofs only [go_sem, hlt, zaf, hcq]
      refine callF (HN) (by simp -implicitDefEqProofs only [go_sem, hL]) ?_
      simp -implicitDefEqProofs only [go_sem, hL]
      refine zag (fun j : Nat => hd [(0, vT (cqS cs)), (4, vT (tmS ((atL (ls.take j)).foldl zfg ((atC (cs.take k)).foldl zfg [])))), (5, vI k), (6, vI j)] [] []) (fun j => j <= ls.length) (fun j => ls.length - j) 0 (zab ?_) (Nat.zero_le _) ?_
      ·simp -implicitDefEqProofs only [go_sem]
       rfl
      ·intro j hj
       by_cases hlj : j < ls.length
       ·have hdj := zff (atL (ls.take j)) ((atC (cs.take k)).foldl zfg [])
        have hpj := hpre j
        have HC := zy9 ((atL (ls.take j)).foldl zfg ((atC (cs.take k)).foldl zfg [])) ls[j].atom (by omega)
        rw [show zfg ((atL (ls.take j)).foldl zfg ((atC (cs.take k)).foldl zfg [])) ls[j].atom = (atL (ls.take (j + 1))).foldl zfg ((atC (cs.take k)).foldl zfg []) from by rw [zp2 hlj, List.foldl_append]; rfl] at HC
        simp only [tmD, zaa ls[j].atom] at HC
        simp -implicitDefEqProofs only [go_sem, hlt, zaf, hcq, hlj, zai ls[j]]
        refine callR (HC) (by simp -implicitDefEqProofs only [go_sem]) ?_
        simp -implicitDefEqProofs only [go_sem]
        refine ⟨j + 1, hlj, by omega, zab ?_⟩
        simp -implicitDefEqProofs only [go_sem]
        rw [zam (by omega)]
       ·have ht : ls.take j = ls := List.take_of_length_le (by omega)
        simp -implicitDefEqProofs only [go_sem, hlt, zaf, hcq, hlj]
        refine ⟨k + 1, ⟨hlt, ?_⟩, by omega, zab ?_⟩
        ·rw [List.take_succ_eq_append_getElem hlt, List.all_append, hr]
         simp [hgc]
        ·simp -implicitDefEqProofs only [go_sem]
         rw [zam (by omega), ht, hsu, List.foldl_append]
         exact ⟨rfl, rfl⟩
     ·have hL : ((0 : Int) < (L.length : Int)) = True := by
       rw [eq_iff_iff, hd0]
       simp [hvo]
      have hp := hno (by rw [hgv, decide_eq_false hvo])
      rw [hp, Bool.false_and] at hv1
      rw [hp, if_neg (by simp)] at hv2
      rw [hv1, hv2]
      simp only [cqD, zat cs[k]] at HG HN
      simp -implicitDefEqProofs only [go_sem, hlt, zaf, zat cs[k]]
      refine callF (HG) (by simp -implicitDefEqProofs only [go_sem, hlt, zaf, zat cs[k]]) ?_
      simp -implicitDefEqProofs only [go_sem, hlt, zaf, zat cs[k]]
      refine callF (HN) (by simp -implicitDefEqProofs only [go_sem, hL]) ?_
      simp -implicitDefEqProofs only [go_sem, hL]
      refine zgq (by simp -implicitDefEqProofs only [go_sem]) ?_
      simp -implicitDefEqProofs only [go_sem]
   ·have ht : cs.take k = cs := List.take_of_length_le (by omega)
    rw [ht] at hr ⊢
    rw [hr] at hv3
    rw [hv3, Bool.true_and] at hv1
    rw [hv3, if_pos rfl] at hv2
    rw [hv1, hv2, show (atC cs).foldl zfg [] = gaL cs from rfl]
    by_cases h12 : (gaL cs).length <= 12
    ·have h12' : (((gaL cs).length : Int) <= (12 : Int)) = True := eq_true (by omega)
     rw [decide_eq_true h12]
     simp -implicitDefEqProofs only [go_sem, hlt, h12']
    ·have h12' : (((gaL cs).length : Int) <= (12 : Int)) = False := eq_false (by omega)
     rw [decide_eq_false h12]
     simp -implicitDefEqProofs only [go_sem, hlt, h12']
 ·have h40' : ((40 : Int) < (cs.length : Int)) = True := eq_true (by omega)
  rw [decide_eq_false h40, Bool.false_and] at hv3
  rw [hv3, Bool.false_and] at hv1
  rw [hv3, if_neg (by simp)] at hv2
  rw [hv1, hv2]
  refine ziq Tryz.call32 Tryz.func32 rfl (by kernel_rfl) (za3 (by kernel_rfl)) ?_
  simp -implicitDefEqProofs only [go_sem, Tryz.results32]
  refine qbn (by simp -implicitDefEqProofs only [go_sem]) ?_
  simp -implicitDefEqProofs only [go_sem]
  simp -implicitDefEqProofs only [go_sem, h40']
  rfl
end Go.Proofs.YtnkagnjiljjpcaaGreat
namespace Go.Proofs.YtnkagnjiljjpcaaGreat
set_option linter.unusedSimpArgs false
set_option linter.unusedVariables false
set_option linter.unusedSectionVars false
set_option maxRecDepth 4000
def ab (n : Int) : Int := max n (-n)
def pclF : Int -> List Int -> Bool
 | _, [] => true
 | p, l :: ls => decide (p < ab l) && decide (ab l <= 12) && pclF (ab l) ls
abbrev Ris (c : List Int) : Prop := c.Pairwise fun a b => ab a < ab b
theorem zx2 : ∀ (c : List Int) (p : Int), pclF p c = true ↔ (∀ l ∈ c, p < ab l /\ ab l <= 12) /\ Ris c
 | [], p => by simp [pclF, Ris]
 | l :: ls, p => by
  unfold pclF
  rw [Bool.and_eq_true, Bool.and_eq_true, decide_eq_true_eq, decide_eq_true_eq, zx2 ls (ab l)]
  simp only [List.mem_cons, forall_eq_or_imp, Ris, List.pairwise_cons]
  constructor
  ·rintro ⟨⟨h1, h2⟩, h3, h4⟩
   exact ⟨⟨⟨h1, h2⟩, fun x hx => ⟨by have := h3 x hx; omega, (h3 x hx).2⟩⟩, fun x hx => (h3 x hx).1, h4⟩
  ·rintro ⟨⟨⟨h1, h2⟩, h3⟩, h4, h5⟩
   exact ⟨⟨h1, h2⟩, fun x hx => ⟨h4 x hx, (h3 x hx).2⟩, h5⟩
def zfp : List Int -> Int -> List Int
 | [], x => [x]
 | y :: ys, x => if ab y < ab x then y :: zfp ys x else x :: y :: ys
theorem zg5 : ∀ (c : List Int) (x : Int), (zfp c x).Perm (x :: c)
 | [], x => List.Perm.refl _
 | y :: ys, x => by
  unfold zfp
  split
  ·exact ((zg5 ys x).cons y).trans (List.Perm.swap x y ys)
  ·exact List.Perm.refl _
theorem zzo {c : List Int} {x y : Int} : y ∈ zfp c x ↔ y = x \/ y ∈ c := by rw [(zg5 c x).mem_iff, List.mem_cons]
theorem zog (c : List Int) (x : Int) : (zfp c x).length = c.length + 1 := by rw [(zg5 c x).length_eq, List.length_cons]
def zpm (S : List (List Int)) : Int := S.foldl (fun n c => c.foldl (fun m l => max m (ab l)) n) 0
end Go.Proofs.YtnkagnjiljjpcaaGreat
namespace Go.Proofs.YtnkagnjiljjpcaaGreat
set_option linter.unusedSimpArgs false
set_option linter.unusedVariables false
set_option linter.unusedSectionVars false
set_option maxRecDepth 4000
structure Ps where
 l : Int
 r : Int
 p : Int
 c : List Int
def ps0 : Ps := ⟨0, 0, 0, []⟩
end Go.Proofs.YtnkagnjiljjpcaaGreat
namespace Go.Proofs.YtnkagnjiljjpcaaGreat
set_option linter.unusedSimpArgs false
set_option linter.unusedVariables false
set_option linter.unusedSectionVars false
set_option maxRecDepth 4000
def ndB1 (n : Nat) (s : Ps) (k : Nat) (out : List Bool) : List Bool := if out.getD (n + k) false = true then (out.set s.l.toNat true).set s.r.toNat true else out
def ndB (n : Nat) (st : List Ps) : Nat -> List Bool -> List Bool
 | 0, out => out
 | k + 1, out => ndB n st k (ndB1 n (st.getD k ps0) k out)
def nd0 (n m : Nat) : List Bool := (List.replicate (n + m) false).set (n + m - 1) true
def nd (n : Nat) (st : List Ps) : List Bool := ndB n st st.length (nd0 n st.length)
end Go.Proofs.YtnkagnjiljjpcaaGreat
namespace Go.Proofs.YtnkagnjiljjpcaaGreat
set_option linter.unusedSimpArgs false
set_option linter.unusedVariables false
set_option linter.unusedSectionVars false
set_option maxRecDepth 4000
open Go.RowKit
abbrev zfc (S : List (List Int)) : T := .sl 1 (S.map fun s => [ze7 s])
theorem zoq (n : Int) (h : -4611686018427387904 <= n /\ n <= 4611686018427387904) : FC Tryz.prog 151 [iD n] [iD (ab n)] := by
 refine zan Tryz.call151 Tryz.func151 rfl (by kernel_rfl) (za3 (by kernel_rfl)) ?_
 simp -implicitDefEqProofs only [go_sem, Tryz.results151]
 rw [za4 (by omega) (by omega)]
 refine ⟨fun h => ?_, fun h => ?_⟩ <;> simp at h <;> exact zlm (by unfold ab; omega)
end Go.Proofs.YtnkagnjiljjpcaaGreat
namespace Go.Proofs.YtnkagnjiljjpcaaGreat
set_option linter.unusedSimpArgs false
set_option linter.unusedVariables false
set_option linter.unusedSectionVars false
set_option maxRecDepth 4000
open Go.RowKit
theorem ztz : ∀ xs : List Int, flR (xs.map fun s => [T.int .i64 s]) = true
 | [] => rfl
 | a :: xs => by rw [List.map_cons]; unfold flR; rw [ztz xs]; rfl
attribute [go_sem] ztz
end Go.Proofs.YtnkagnjiljjpcaaGreat
namespace Go.Proofs.YtnkagnjiljjpcaaGreat
set_option linter.unusedSimpArgs false
set_option linter.unusedVariables false
set_option linter.unusedSectionVars false
set_option maxRecDepth 4000
open Go.RowKit
abbrev Sm (c : List Int) : Prop := ∀ l ∈ c, -1073741824 <= l /\ l <= 1073741824
end Go.Proofs.YtnkagnjiljjpcaaGreat
namespace Go.Proofs.YtnkagnjiljjpcaaGreat
set_option linter.unusedSimpArgs false
set_option linter.unusedVariables false
set_option linter.unusedSectionVars false
set_option maxRecDepth 4000
open Go.RowKit
def zsk (l : Li) : Prop := l.pos = true /\ l.atom.name = [61] /\ ∃ p, l.atom.args = [p, p]
def tauP (ls : List Li) : Prop := ∃ k, ∃ h : k < ls.length, zsk ls[k] \/ (0 < k /\ (ls[k - 1]'(by omega)).atom = ls[k].atom)
noncomputable def Cq.taut (c : Cq) : Bool := dec (tauP c.lits)
noncomputable def zh2 (A : List Tm) (l : Li) : Int := if l.pos = true then (zgl A fun a => same a l.atom) + 1 else -((zgl A fun a => same a l.atom) + 1)
noncomputable def prC (A : List Tm) (c : Cq) : List Int := c.lits.map (zh2 A)
noncomputable def toL (A : List Tm) (cs : List Cq) : List (List Int) := (cs.filter fun c => !c.taut).map (prC A)
noncomputable def frL (cs : List Cq) : List Cq := cs.filter fun c => !c.taut
noncomputable def toR (cs : List Cq) : List (List Int) := if zoh cs = true then toL (gaL cs) cs else []
theorem qco {a : Tm} (h : a.atomOk = true) (hn : a.name = [61]) : ∃ p q, a.args = [p, q] := by
 unfold Tm.atomOk at h
 rw [if_pos (by simp [hn])] at h
 simp only [Bool.and_eq_true, decide_eq_true_eq] at h
 match ha : a.args, h.1.1 with
 | [p, q], _ => exact ⟨p, q, rfl⟩
theorem zns {α : Type} (xs : List α) (p : α -> Bool) : -1 <= zgl xs p /\ zgl xs p <= xs.length := by
 unfold zgl
 split
 ·have := List.findIdx_le_length (p := p) (xs := xs)
  omega
 ·omega
theorem zu0 (A : List Tm) (l : Li) (hA : A.length <= 1048576) : -1073741824 <= zh2 A l /\ zh2 A l <= 1073741824 := by
 have := zns A fun a => same a l.atom
 unfold zh2
 split <;> omega
theorem ix_lt {A : List Tm} (hA : zxs A) {s t : Tm} (hs : s ∈ A) (ht : t ∈ A) (h : zb9 s t < 0) : ixT A s < ixT A t := by
 obtain ⟨h1, e1, _⟩ := zwx hs
 obtain ⟨h2, e2, _⟩ := zwx ht
 have n := zc9 s t
 rcases Nat.lt_trichotomy (ixT A s) (ixT A t) with h3 | h3 | h3
 ·exact h3
 ·have : s = t := by rw [<- e1, <- e2]; congr 1
  subst this
  rw [zhh.self] at h
  omega
 ·have := List.pairwise_iff_getElem.1 hA _ _ h2 h1 h3
  rw [e1, e2] at this
  omega
theorem zxi {A : List Tm} {l : Li} (h : l.atom ∈ A) : ab (zh2 A l) = ixT A l.atom + 1 := by
 obtain ⟨_, _, e⟩ := zwx h
 unfold zh2 ab
 rw [e]
 split <;> omega
theorem zp4 : ∀ (c : List Int) (x : Int), (∀ y ∈ c, ab y < ab x) -> zfp c x = c ++ [x]
 | [], x, _ => rfl
 | y :: c, x, h => by
  rw [zfp, if_pos (h y (by simp)), zp4 c x fun z hz => h z (by simp [hz])]
  rfl
theorem qbv {ls : List Li} (h : okc ls) (ht : ¬ tauP ls) : ∀ k, ∀ hk : k < ls.length, ∀ j, ∀ hj : j < k, zb9 (ls[j]'(by omega)).atom ls[k].atom < 0
 | 0, _, j, hj => absurd hj (by omega)
 | k + 1, hk, j, hj => by
  have hs : zb9 (ls[k]'(by omega)).atom ls[k + 1].atom < 0 := by
   have h1 := (h (k + 1) hk).2 (by omega)
   simp only [Nat.add_sub_cancel] at h1
   unfold zoa orE at h1
   split at h1
   ·rename_i h0
    exact absurd ⟨k + 1, hk, Or.inr ⟨by omega, by simp only [Nat.add_sub_cancel]; exact (zhm _ _).1 h0⟩⟩ ht
   ·exact h1
  by_cases e : j = k
  ·subst e; exact hs
  ·exact zef (qbv h ht k (by omega) j (by omega)) (Int.le_of_lt hs)
theorem zqd {A : List Tm} (hA : zxs A) {ls : List Li} (h : okc ls) (ht : ¬ tauP ls) (hm : ∀ l ∈ ls, l.atom ∈ A) : ∀ k, k <= ls.length -> (ls.take k).foldl (fun c l => zfp c (zh2 A l)) [] = (ls.take k).map (zh2 A)
 | 0, _ => by simp
 | k + 1, hk => by
  have hlt : k < ls.length := by omega
  rw [List.take_succ_eq_append_getElem hlt, List.foldl_append, List.map_append, zqd hA h ht hm k (by omega)]
  refine zp4 _ _ fun y hy => ?_
  obtain ⟨l, hl, rfl⟩ := List.mem_map.1 hy
  obtain ⟨j, hj, rfl⟩ := List.getElem_of_mem hl
  rw [List.length_take] at hj
  rw [List.getElem_take, zxi (hm _ (List.getElem_mem _)), zxi (hm _ (List.getElem_mem _))]
  have := ix_lt hA (hm _ (List.getElem_mem (by omega : j < ls.length))) (hm _ (List.getElem_mem hlt)) (qbv h ht k hlt j (by omega))
  omega
theorem zy4 {cs : List Cq} (hg : cs.all grC = true) {c : Cq} (hc : c ∈ cs) (ht : c.taut = false) : c.lits.foldl (fun z l => zfp z (zh2 (gaL cs) l)) [] = prC (gaL cs) c := by
 have hk := zu5 (List.all_eq_true.1 hg c hc)
 unfold Cq.ok at hk
 rw [Bool.and_eq_true, zb0] at hk
 have h := zqd (qbx cs) hk.2 (fun h => by unfold Cq.taut at ht; rw [zb0.2 h] at ht; cases ht) (fun l hl => ga_mem.2 (zun.2 ⟨c, hc, l, hl, rfl⟩)) c.lits.length (Nat.le_refl _)
 rw [List.take_length] at h
 exact h
theorem zo6 (A : List Tm) : ∀ (ls : List Li) (z : List Int), (ls.foldl (fun c l => zfp c (zh2 A l)) z).length = z.length + ls.length
 | [], z => by simp
 | l :: ls, z => by
  rw [List.foldl_cons, zo6 A ls, zog, List.length_cons]
  omega
theorem zuy (A : List Tm) (hA : A.length <= 1048576) : ∀ (ls : List Li) (z : List Int), Sm z -> Sm (ls.foldl (fun c l => zfp c (zh2 A l)) z)
 | [], z, h => h
 | l :: ls, z, h => by
  rw [List.foldl_cons]
  refine zuy A hA ls _ fun y hy => ?_
  rcases zzo.1 hy with rfl | hy
  ·exact zu0 A l hA
  ·exact h y hy
theorem zqg (A : List Tm) {cs : List Cq} {k : Nat} (h : k < cs.length) : toL A (cs.take (k + 1)) = if cs[k].taut = true then toL A (cs.take k) else toL A (cs.take k) ++ [prC A cs[k]] := by
 unfold toL
 rw [List.take_succ_eq_append_getElem h, List.filter_append, List.map_append]
 cases hb : cs[k].taut <;> simp [List.filter_cons, hb]
theorem qa4 {cs : List Cq} {k : Nat} (h : k < cs.length) : frL (cs.take (k + 1)) = if cs[k].taut = true then frL (cs.take k) else frL (cs.take k) ++ [cs[k]] := by
 unfold frL
 rw [List.take_succ_eq_append_getElem h, List.filter_append]
 cases hb : cs[k].taut <;> simp [List.filter_cons, hb]
theorem znm (A : List Tm) (cs : List Cq) : (toL A cs).length <= cs.length := by
 unfold toL
 rw [List.length_map]
 exact List.length_filter_le _ _
theorem qdq (cs : List Cq) : (frL cs).length <= cs.length := List.length_filter_le _ _
end Go.Proofs.YtnkagnjiljjpcaaGreat
namespace Go.Proofs.YtnkagnjiljjpcaaGreat
set_option linter.unusedSimpArgs false
set_option linter.unusedVariables false
set_option linter.unusedSectionVars false
set_option maxRecDepth 4000
open Go.RowKit
set_option maxHeartbeats 1000000 in
theorem qa2 (c : List Int) (x : Int) (hc : Sm c) (hx : -1073741824 <= x /\ x <= 1073741824) (hl : c.length <= 4294967290) : FC Tryz.prog 97 [.one (ze7 c), iD x] [.one (ze7 (zfp c x))] := by
 have HX := zoq x (by omega)
 refine zan Tryz.call97 Tryz.func97 rfl (by kernel_rfl) (za3 (by kernel_rfl)) ?_
 simp -implicitDefEqProofs only [go_sem, Tryz.results97]
 refine zag (fun k : Nat => hd [(0, vT (ze7 c)), (1, vI x), (5, vI k)] [] []) (fun k => k <= c.length /\ zfp c x = c.take k ++ zfp (c.drop k) x) (fun k => c.length - k) 0 (zab ?_) ?_ ?_
 ·simp -implicitDefEqProofs only [go_sem]
 ·simp
 ·intro k ⟨hk, hr⟩
  have fin : zfp (c.drop k) x = x :: c.drop k -> zfp c x = c.take k ++ [x] ++ c.drop k := fun e => by rw [hr, e]; simp
  have hl0 : min k c.length <= 4294967296 := by omega
  have hl1 : min k c.length <= 4294967295 := by omega
  have hl2 : min k c.length + 1 <= 4294967295 := by omega
  have hl3 : min k c.length + 1 + (c.length - k) <= 4294967296 := by omega
  by_cases hlt : k < c.length
  ·have HA := zoq c[k] (by have := hc _ (List.getElem_mem hlt); omega)
   rw [List.drop_eq_getElem_cons hlt] at hr fin
   by_cases hab : ab c[k] < ab x
   ·have hab' : (ab c[k] < ab x) = True := by simpa using hab
    simp -implicitDefEqProofs only [go_sem, hlt, zaf]
    refine callF (HA) (by simp -implicitDefEqProofs only [go_sem]) ?_
    simp -implicitDefEqProofs only [go_sem]
    refine callF (HX) (by simp -implicitDefEqProofs only [go_sem, hab']) ?_
    simp -implicitDefEqProofs only [go_sem, hab']
    rw [zam (by omega)]
    refine ⟨k + 1, ⟨hlt, ?_⟩, by omega, zab (by simp -implicitDefEqProofs only [go_sem])⟩
    rw [hr, show zfp (c[k] :: c.drop (k + 1)) x = c[k] :: zfp (c.drop (k + 1)) x by rw [zfp, if_pos hab], List.take_succ_eq_append_getElem hlt, List.append_assoc]
    rfl
   ·have hab' : (ab c[k] < ab x) = False := by simpa using hab
    have hf := fin (by rw [zfp, if_neg hab])
    rw [<- List.drop_eq_getElem_cons hlt] at hf
    rw [hf]
    simp -implicitDefEqProofs only [go_sem, hlt, zaf]
    refine callF (HA) (by simp -implicitDefEqProofs only [go_sem]) ?_
    simp -implicitDefEqProofs only [go_sem]
    refine callF (HX) (by simp -implicitDefEqProofs only [go_sem, hab']) ?_
    simp -implicitDefEqProofs only [go_sem, hab']
    refine drawn (by kernel_rfl) ?_
    simp -implicitDefEqProofs only [go_sem]
    refine zcm (by simp -implicitDefEqProofs only [go_sem, hk, <- List.map_take]) ?_
    simp -implicitDefEqProofs only [go_sem, hk, <- List.map_take]
    refine zkm true (by simp -implicitDefEqProofs only [go_sem, ne_eq, List.length_map, List.length_take, Nat.zero_add, hl0]) ?_
    simp -implicitDefEqProofs only [go_sem, ne_eq, List.length_map, List.length_take, Nat.zero_add, hl0]
    refine zcm (by simp -implicitDefEqProofs only [go_sem]) ?_
    simp -implicitDefEqProofs only [go_sem]
    refine zkm true (by simp -implicitDefEqProofs only [go_sem, ne_eq, List.length_map, List.length_append, List.length_take, hl1]) ?_
    simp -implicitDefEqProofs only [go_sem, ne_eq, List.length_map, List.length_append, List.length_take, hl1]
    refine ⟨hk, ?_⟩
    rw [<- List.map_take, List.take_length, <- List.map_drop]
    refine zkm true (by simp -implicitDefEqProofs only [go_sem, ne_eq, List.length_map, List.length_append, List.length_take, List.length_cons, List.length_nil, List.length_drop, hl3]) ?_
    simp -implicitDefEqProofs only [go_sem, ne_eq, List.length_map, List.length_append, List.length_take, List.length_cons, List.length_nil, List.length_drop, hl3]
    refine ⟨by kernel_rfl, ?_⟩
    rw [List.map_append, List.map_append]
    rfl
  ·have hf := fin (by rw [List.drop_of_length_le (by omega)]; rfl)
   rw [hf]
   simp -implicitDefEqProofs only [go_sem, hlt]
   refine drawn (by kernel_rfl) ?_
   simp -implicitDefEqProofs only [go_sem]
   refine zcm (by simp -implicitDefEqProofs only [go_sem, hk, <- List.map_take]) ?_
   simp -implicitDefEqProofs only [go_sem, hk, <- List.map_take]
   refine zkm true (by simp -implicitDefEqProofs only [go_sem, ne_eq, List.length_map, List.length_take, Nat.zero_add, hl0]) ?_
   simp -implicitDefEqProofs only [go_sem, ne_eq, List.length_map, List.length_take, Nat.zero_add, hl0]
   refine zcm (by simp -implicitDefEqProofs only [go_sem]) ?_
   simp -implicitDefEqProofs only [go_sem]
   refine zkm true (by simp -implicitDefEqProofs only [go_sem, ne_eq, List.length_map, List.length_append, List.length_take, hl1]) ?_
   simp -implicitDefEqProofs only [go_sem, ne_eq, List.length_map, List.length_append, List.length_take, hl1]
   refine ⟨hk, ?_⟩
   rw [<- List.map_take, List.take_length, <- List.map_drop]
   refine zkm true (by simp -implicitDefEqProofs only [go_sem, ne_eq, List.length_map, List.length_append, List.length_take, List.length_cons, List.length_nil, List.length_drop, hl3]) ?_
   simp -implicitDefEqProofs only [go_sem, ne_eq, List.length_map, List.length_append, List.length_take, List.length_cons, List.length_nil, List.length_drop, hl3]
   refine ⟨by kernel_rfl, ?_⟩
   rw [List.map_append, List.map_append]
   rfl
end Go.Proofs.YtnkagnjiljjpcaaGreat
namespace Go.Proofs.YtnkagnjiljjpcaaGreat
set_option linter.unusedSimpArgs false
set_option linter.unusedVariables false
set_option linter.unusedSectionVars false
set_option maxRecDepth 4000
open Go.RowKit
theorem zzj {c : Cq} {k : Nat} (h : k < c.lits.length) (h1 : zsk c.lits[k] \/ (0 < k /\ (c.lits[k - 1]'(by omega)).atom = c.lits[k].atom)) : c.taut = true := zb0.2 ⟨k, h, h1⟩
theorem zkt {c : Cq} {k : Nat} (h : k < c.lits.length) (h1 : zsk c.lits[k] \/ ∃ j, ∃ hj : j < c.lits.length, k = j + 1 /\ c.lits[j].atom = c.lits[k].atom) : c.taut = true := zzj h (by
 rcases h1 with h1 | ⟨j, hj, rfl, h1⟩
 ·exact Or.inl h1
 ·exact Or.inr ⟨by omega, by simpa using h1⟩)
def ntb (ls : List Li) (n : Nat) : Prop := ∀ k (h : k < ls.length), k < n -> ¬ (zsk ls[k] \/ (0 < k /\ (ls[k - 1]'(by omega)).atom = ls[k].atom))
theorem zp9 {ls : List Li} {k : Nat} (h : ntb ls k) (hk : k < ls.length) (h1 : ¬ zsk ls[k]) (h2 : 0 < k -> (ls[k - 1]'(by omega)).atom ≠ ls[k].atom) : ntb ls (k + 1) := fun j hj hl => by
 by_cases e : j = k
 ·subst e
  rintro (h | h)
  ·exact h1 h
  ·exact h2 h.1 h.2
 ·exact h j hj (by omega)
theorem zsy {c : Cq} (h : ntb c.lits c.lits.length) : c.taut = false := by
 cases hb : c.taut
 ·rfl
 ·unfold Cq.taut at hb
  obtain ⟨k, hk, h1⟩ := zb0.1 hb
  exact absurd h1 (h k hk hk)
inductive Way1 (l : Li) : Prop where
 | wneg (h : l.pos = false)
 | woth (h : l.pos = true) (h2 : (l.atom.name == [61]) = false)
 | wtwo (h : l.pos = true) (h2 : (l.atom.name == [61]) = true) (p q : Tm) (h3 : l.atom.args = [p, q]) (h4 : same p q = false)
 | wone (h : l.pos = true) (h2 : (l.atom.name == [61]) = true) (p : Tm) (h3 : l.atom.args = [p, p])
theorem way1 {l : Li} (h : l.atom.atomOk = true) : Way1 l := by
 cases h1 : l.pos
 ·exact .wneg h1
 cases h2 : (l.atom.name == [61])
 ·exact .woth h1 h2
 obtain ⟨p, q, h3⟩ := qco h (by simpa using h2)
 cases h4 : same p q
 ·exact .wtwo h1 h2 p q h3 h4
 ·obtain rfl := za1.1 h4
  exact .wone h1 h2 p h3
theorem Way1.no {l : Li} : ∀ (_ : Way1 l), (∃ p, l.pos = true /\ (l.atom.name == [61]) = true /\ l.atom.args = [p, p]) \/ ¬ zsk l
 | .wneg h => Or.inr fun t => by have := t.1; rw [h] at this; cases this
 | .woth h h2 => Or.inr fun t => by rw [t.2.1] at h2; cases h2
 | .wtwo h h2 p q h3 h4 => Or.inr fun t => by
  obtain ⟨r, hr⟩ := t.2.2
  rw [h3] at hr
  simp only [List.cons.injEq, and_true] at hr
  obtain ⟨rfl, rfl⟩ := hr
  rw [zau] at h4
  cases h4
 | .wone h h2 p h3 => Or.inl ⟨p, h, h2, h3⟩
set_option maxHeartbeats 4000000 in
theorem zki (c : Cq) (hc : c.ok = true) (hw : c.wt <= 1048576) : FC Tryz.prog 44 [cqD c] [bD c.taut] := by
 have hok := zhx hc
 have hy := fun k (h : k < c.lits.length) => zkt (c := c) h
 have hn := zsy (c := c)
 have hll : c.lits.length <= 8 := zmr hc
 simp only [cqD, zat]
 generalize c.taut = R at hy hn ⊢
 generalize c.lits = ls at hok hy hn hll ⊢
 refine zan Tryz.call44 Tryz.func44 rfl (by kernel_rfl) (za3 (by kernel_rfl)) ?_
 simp -implicitDefEqProofs only [go_sem, Tryz.results44]
 refine zag (fun k : Nat => hd [(1, .one (.bx 1 0)), (6, vT (liS ls)), (7, vI ls.length), (8, vI k)] [(1, [.t (liS ls)])] []) (fun k => k <= ls.length /\ ntb ls k) (fun k => ls.length - k) 0 (zab ?_) ⟨Nat.zero_le _, fun j _ h => by omega⟩ ?_
 ·simp -implicitDefEqProofs only [go_sem]
 ·intro k ⟨hk, hr⟩
  by_cases hlt : k < ls.length
  ·have hwy := way1 (hok _ (List.getElem_mem hlt))
   have hyk := hy k hlt
   have hnx := fun h1 h2 => zp9 hr hlt h1 h2
   have hliq := zai ls[k]
   have hgd := zaf liC ls k hlt
   have hprev : 0 < k -> ∃ j, ∃ h : j < ls.length, k = j + 1 := fun h => ⟨k - 1, by omega, by omega⟩
   have hpv : ∀ j (e : k = j + 1), (ls[k - 1]'(by omega)) = ls[j]'(by omega) := fun j e => by subst e; rfl
   generalize hl : ls[k] = l at hwy hyk hnx hliq hgd
   have hno := hwy.no
   have HEQ := zfo l.atom
   simp only [tmD, zaa l.atom] at HEQ
   have hgd2 := hgd
   rw [hliq] at hgd2
   rcases hwy with h1 | ⟨h1, h2⟩ | ⟨h1, h2, p, q, h3, h4⟩ | ⟨h1, h2, p, h3⟩
   ·have hnt : ¬ zsk l := fun t => by have := t.1; rw [h1] at this; cases this
    by_cases h0 : k = 0
    ·subst h0
     have hlz : ((0 : Int) < (ls.length : Int)) = True := eq_true (by omega)
     simp -implicitDefEqProofs only [go_sem, hlt, hgd2, h1, hlz]
     refine drawn (by kernel_rfl) ?_
     simp -implicitDefEqProofs only [go_sem, hlt, hgd2, h1, hlz]
     refine ⟨by kernel_rfl, 1, ⟨hlt, hnx hnt fun h => by omega⟩, by omega, zab ?_⟩
     simp -implicitDefEqProofs only [go_sem]
     rfl
    ·obtain ⟨j, hj, rfl⟩ := hprev (by omega)
     have hkp : ((0 : Int) < ((j + 1 : Nat) : Int)) = True := eq_true (by omega)
     have hw1 : IntKind.i64.wrap (((j + 1 : Nat) : Int) - 1) = (j : Int) := by rw [za4 (by omega) (by omega)]; omega
     have HP := zbk ls[j].atom l.atom
     have hgj := zaf liC ls j hj
     rw [zai ls[j]] at hgj
     simp only [tmD, zaa ls[j].atom, zaa l.atom] at HP
     simp only [Nat.add_sub_cancel] at hnx
     cases hs : same ls[j].atom l.atom
     ·rw [hs] at HP
      simp -implicitDefEqProofs only [go_sem, hlt, hgd2, h1, hkp, hw1, hj, hgj]
      refine drawn (by kernel_rfl) ?_
      simp -implicitDefEqProofs only [go_sem, hlt, hgd2, h1, hkp, hw1, hj, hgj]
      refine zba (HP) (by simp -implicitDefEqProofs only [go_sem, hlt, hgd2, h1, hkp, hw1, hj, hgj]) ?_
      simp -implicitDefEqProofs only [go_sem, hlt, hgd2, h1, hkp, hw1, hj, hgj]
      refine ⟨by kernel_rfl, j + 1 + 1, ⟨hlt, hnx hnt fun _ => zbc.1 hs⟩, by omega, zab ?_⟩
      simp -implicitDefEqProofs only [go_sem]
      rw [zam (by omega)]
     ·rw [hs] at HP
      rw [hyk (Or.inr ⟨j, hj, rfl, za1.1 hs⟩)]
      simp -implicitDefEqProofs only [go_sem, hlt, hgd2, h1, hkp, hw1, hj, hgj]
      refine drawn (by kernel_rfl) ?_
      simp -implicitDefEqProofs only [go_sem, hlt, hgd2, h1, hkp, hw1, hj, hgj]
      refine zba (HP) (by simp -implicitDefEqProofs only [go_sem, hlt, hgd2, h1, hkp, hw1, hj, hgj]) ?_
      simp -implicitDefEqProofs only [go_sem, hlt, hgd2, h1, hkp, hw1, hj, hgj]
      kernel_rfl
   ·have hnt : ¬ zsk l := fun t => by rw [t.2.1] at h2; cases h2
    rw [h2] at HEQ
    by_cases h0 : k = 0
    ·subst h0
     have hlz : ((0 : Int) < (ls.length : Int)) = True := eq_true (by omega)
     simp -implicitDefEqProofs only [go_sem, hlt, hgd2, h1, hlz]
     refine drawn (by kernel_rfl) ?_
     simp -implicitDefEqProofs only [go_sem, hlt, hgd2, h1, hlz]
     refine zba (HEQ) (by simp -implicitDefEqProofs only [go_sem, hlt, hgd2, h1, hlz]) ?_
     simp -implicitDefEqProofs only [go_sem, hlt, hgd2, h1, hlz]
     refine ⟨by kernel_rfl, 1, ⟨hlt, hnx hnt fun h => by omega⟩, by omega, zab ?_⟩
     simp -implicitDefEqProofs only [go_sem]
     rfl
    ·obtain ⟨j, hj, rfl⟩ := hprev (by omega)
     have hkp : ((0 : Int) < ((j + 1 : Nat) : Int)) = True := eq_true (by omega)
     have hw1 : IntKind.i64.wrap (((j + 1 : Nat) : Int) - 1) = (j : Int) := by rw [za4 (by omega) (by omega)]; omega
     have HP := zbk ls[j].atom l.atom
     have hgj := zaf liC ls j hj
     rw [zai ls[j]] at hgj
     simp only [tmD, zaa ls[j].atom, zaa l.atom] at HP
     simp only [Nat.add_sub_cancel] at hnx
     cases hs : same ls[j].atom l.atom
     ·rw [hs] at HP
      simp -implicitDefEqProofs only [go_sem, hlt, hgd2, h1, hkp, hw1, hj, hgj]
      refine drawn (by kernel_rfl) ?_
      simp -implicitDefEqProofs only [go_sem, hlt, hgd2, h1, hkp, hw1, hj, hgj]
      refine zba (HEQ) (by simp -implicitDefEqProofs only [go_sem, hlt, hgd2, h1, hkp, hw1, hj, hgj]) ?_
      simp -implicitDefEqProofs only [go_sem, hlt, hgd2, h1, hkp, hw1, hj, hgj]
      refine zba (HP) (by simp -implicitDefEqProofs only [go_sem, hlt, hgd2, h1, hkp, hw1, hj, hgj]) ?_
      simp -implicitDefEqProofs only [go_sem, hlt, hgd2, h1, hkp, hw1, hj, hgj]
      refine ⟨by kernel_rfl, j + 1 + 1, ⟨hlt, hnx hnt fun _ => zbc.1 hs⟩, by omega, zab ?_⟩
      simp -implicitDefEqProofs only [go_sem]
      rw [zam (by omega)]
     ·rw [hs] at HP
      rw [hyk (Or.inr ⟨j, hj, rfl, za1.1 hs⟩)]
      simp -implicitDefEqProofs only [go_sem, hlt, hgd2, h1, hkp, hw1, hj, hgj]
      refine drawn (by kernel_rfl) ?_
      simp -implicitDefEqProofs only [go_sem, hlt, hgd2, h1, hkp, hw1, hj, hgj]
      refine zba (HEQ) (by simp -implicitDefEqProofs only [go_sem, hlt, hgd2, h1, hkp, hw1, hj, hgj]) ?_
      simp -implicitDefEqProofs only [go_sem, hlt, hgd2, h1, hkp, hw1, hj, hgj]
      refine zba (HP) (by simp -implicitDefEqProofs only [go_sem, hlt, hgd2, h1, hkp, hw1, hj, hgj]) ?_
      simp -implicitDefEqProofs only [go_sem, hlt, hgd2, h1, hkp, hw1, hj, hgj]
      kernel_rfl
   ·have hnt : ¬ zsk l := (Way1.wtwo h1 h2 p q h3 h4).no.resolve_left (by rintro ⟨r, _, _, hr⟩; rw [h3] at hr; simp only [List.cons.injEq, and_true] at hr; obtain ⟨rfl, rfl⟩ := hr; rw [zau] at h4; cases h4)
    rw [h2] at HEQ
    have HS := zbk p q
    rw [h4] at HS
    simp only [tmD, zaa p, zaa q] at HS
    rw [h3] at HEQ hgd2
    by_cases h0 : k = 0
    ·subst h0
     have hlz : ((0 : Int) < (ls.length : Int)) = True := eq_true (by omega)
     simp -implicitDefEqProofs only [go_sem, hlt, hgd2, h1, List.map_cons, List.map_nil, List.getD_cons_zero, List.getD_cons_succ, List.length_cons, List.length_nil, zaa p, zaa q, hlz]
     refine drawn (by kernel_rfl) ?_
     simp -implicitDefEqProofs only [go_sem, hlt, hgd2, h1, List.map_cons, List.map_nil, List.getD_cons_zero, List.getD_cons_succ, List.length_cons, List.length_nil, zaa p, zaa q, hlz]
     refine zba (HEQ) (by simp -implicitDefEqProofs only [go_sem, hlt, hgd2, h1, List.map_cons, List.map_nil, List.getD_cons_zero, List.getD_cons_succ, List.length_cons, List.length_nil, zaa p, zaa q, hlz]) ?_
     simp -implicitDefEqProofs only [go_sem, hlt, hgd2, h1, List.map_cons, List.map_nil, List.getD_cons_zero, List.getD_cons_succ, List.length_cons, List.length_nil, zaa p, zaa q, hlz]
     refine zba (HS) (by simp -implicitDefEqProofs only [go_sem, hlt, hgd2, h1, List.map_cons, List.map_nil, List.getD_cons_zero, List.getD_cons_succ, List.length_cons, List.length_nil, zaa p, zaa q, hlz]) ?_
     simp -implicitDefEqProofs only [go_sem, hlt, hgd2, h1, List.map_cons, List.map_nil, List.getD_cons_zero, List.getD_cons_succ, List.length_cons, List.length_nil, zaa p, zaa q, hlz]
     refine ⟨by kernel_rfl, 1, ⟨hlt, hnx hnt fun h => by omega⟩, by omega, zab ?_⟩
     simp -implicitDefEqProofs only [go_sem]
     rfl
    ·obtain ⟨j, hj, rfl⟩ := hprev (by omega)
     have hkp : ((0 : Int) < ((j + 1 : Nat) : Int)) = True := eq_true (by omega)
     have hw1 : IntKind.i64.wrap (((j + 1 : Nat) : Int) - 1) = (j : Int) := by rw [za4 (by omega) (by omega)]; omega
     have HP := zbk ls[j].atom l.atom
     have hgj := zaf liC ls j hj
     rw [zai ls[j]] at hgj
     simp only [tmD, zaa ls[j].atom, zaa l.atom, h3] at HP
     simp only [Nat.add_sub_cancel] at hnx
     cases hs : same ls[j].atom l.atom
     ·rw [hs] at HP
      simp -implicitDefEqProofs only [go_sem, hlt, hgd2, h1, List.map_cons, List.map_nil, List.getD_cons_zero, List.getD_cons_succ, List.length_cons, List.length_nil, zaa p, zaa q, hkp, hw1, hj, hgj]
      refine drawn (by kernel_rfl) ?_
      simp -implicitDefEqProofs only [go_sem, hlt, hgd2, h1, List.map_cons, List.map_nil, List.getD_cons_zero, List.getD_cons_succ, List.length_cons, List.length_nil, zaa p, zaa q, hkp, hw1, hj, hgj]
      refine zba (HEQ) (by simp -implicitDefEqProofs only [go_sem, hlt, hgd2, h1, List.map_cons, List.map_nil, List.getD_cons_zero, List.getD_cons_succ, List.length_cons, List.length_nil, zaa p, zaa q, hkp, hw1, hj, hgj]) ?_
      simp -implicitDefEqProofs only [go_sem, hlt, hgd2, h1, List.map_cons, List.map_nil, List.getD_cons_zero, List.getD_cons_succ, List.length_cons, List.length_nil, zaa p, zaa q, hkp, hw1, hj, hgj]
      refine zba (HS) (by simp -implicitDefEqProofs only [go_sem, hlt, hgd2, h1, List.map_cons, List.map_nil, List.getD_cons_zero, List.getD_cons_succ, List.length_cons, List.length_nil, zaa p, zaa q, hkp, hw1, hj, hgj]) ?_
      simp -implicitDefEqProofs only [go_sem, hlt, hgd2, h1, List.map_cons, List.map_nil, List.getD_cons_zero, List.getD_cons_succ, List.length_cons, List.length_nil, zaa p, zaa q, hkp, hw1, hj, hgj]
      refine zba (HP) (by simp -implicitDefEqProofs only [go_sem, hlt, hgd2, h1, List.map_cons, List.map_nil, List.getD_cons_zero, List.getD_cons_succ, List.length_cons, List.length_nil, zaa p, zaa q, hkp, hw1, hj, hgj]) ?_
      simp -implicitDefEqProofs only [go_sem, hlt, hgd2, h1, List.map_cons, List.map_nil, List.getD_cons_zero, List.getD_cons_succ, List.length_cons, List.length_nil, zaa p, zaa q, hkp, hw1, hj, hgj]
      refine ⟨by kernel_rfl, j + 1 + 1, ⟨hlt, hnx hnt fun _ => zbc.1 hs⟩, by omega, zab ?_⟩
      simp -implicitDefEqProofs only [go_sem]
      rw [zam (by omega)]
     ·rw [hs] at HP
      rw [hyk (Or.inr ⟨j, hj, rfl, za1.1 hs⟩)]
      simp -implicitDefEqProofs only [go_sem, hlt, hgd2, h1, List.map_cons, List.map_nil, List.getD_cons_zero, List.getD_cons_succ, List.length_cons, List.length_nil, zaa p, zaa q, hkp, hw1, hj, hgj]
      refine drawn (by kernel_rfl) ?_
      simp -implicitDefEqProofs only [go_sem, hlt, hgd2, h1, List.map_cons, List.map_nil, List.getD_cons_zero, List.getD_cons_succ, List.length_cons, List.length_nil, zaa p, zaa q, hkp, hw1, hj, hgj]
      refine zba (HEQ) (by simp -implicitDefEqProofs only [go_sem, hlt, hgd2, h1, List.map_cons, List.map_nil, List.getD_cons_zero, List.getD_cons_succ, List.length_cons, List.length_nil, zaa p, zaa q, hkp, hw1, hj, hgj]) ?_
      simp -implicitDefEqProofs only [go_sem, hlt, hgd2, h1, List.map_cons, List.map_nil, List.getD_cons_zero, List.getD_cons_succ, List.length_cons, List.length_nil, zaa p, zaa q, hkp, hw1, hj, hgj]
      refine zba (HS) (by simp -implicitDefEqProofs only [go_sem, hlt, hgd2, h1, List.map_cons, List.map_nil, List.getD_cons_zero, List.getD_cons_succ, List.length_cons, List.length_nil, zaa p, zaa q, hkp, hw1, hj, hgj]) ?_
      simp -implicitDefEqProofs only [go_sem, hlt, hgd2, h1, List.map_cons, List.map_nil, List.getD_cons_zero, List.getD_cons_succ, List.length_cons, List.length_nil, zaa p, zaa q, hkp, hw1, hj, hgj]
      refine zba (HP) (by simp -implicitDefEqProofs only [go_sem, hlt, hgd2, h1, List.map_cons, List.map_nil, List.getD_cons_zero, List.getD_cons_succ, List.length_cons, List.length_nil, zaa p, zaa q, hkp, hw1, hj, hgj]) ?_
      simp -implicitDefEqProofs only [go_sem, hlt, hgd2, h1, List.map_cons, List.map_nil, List.getD_cons_zero, List.getD_cons_succ, List.length_cons, List.length_nil, zaa p, zaa q, hkp, hw1, hj, hgj]
      kernel_rfl
   ·have hyt : R = true := hyk (Or.inl ⟨h1, by simpa using h2, p, h3⟩)
    rw [h2] at HEQ
    have HS := zbk p p
    rw [zau] at HS
    simp only [tmD, zaa p] at HS
    rw [h3] at HEQ hgd2
    rw [hyt]
    simp -implicitDefEqProofs only [go_sem, hlt, hgd2, h1, List.map_cons, List.map_nil, List.getD_cons_zero, List.getD_cons_succ, List.length_cons, List.length_nil, zaa p]
    refine drawn (by kernel_rfl) ?_
    simp -implicitDefEqProofs only [go_sem, hlt, hgd2, h1, List.map_cons, List.map_nil, List.getD_cons_zero, List.getD_cons_succ, List.length_cons, List.length_nil, zaa p]
    refine zba (HEQ) (by simp -implicitDefEqProofs only [go_sem, hlt, hgd2, h1, List.map_cons, List.map_nil, List.getD_cons_zero, List.getD_cons_succ, List.length_cons, List.length_nil, zaa p]) ?_
    simp -implicitDefEqProofs only [go_sem, hlt, hgd2, h1, List.map_cons, List.map_nil, List.getD_cons_zero, List.getD_cons_succ, List.length_cons, List.length_nil, zaa p]
    refine zba (HS) (by simp -implicitDefEqProofs only [go_sem, hlt, hgd2, h1, List.map_cons, List.map_nil, List.getD_cons_zero, List.getD_cons_succ, List.length_cons, List.length_nil, zaa p]) ?_
    simp -implicitDefEqProofs only [go_sem, hlt, hgd2, h1, List.map_cons, List.map_nil, List.getD_cons_zero, List.getD_cons_succ, List.length_cons, List.length_nil, zaa p]
    kernel_rfl
  ·have e : k = ls.length := by omega
   subst e
   rw [hn hr]
   simp -implicitDefEqProofs only [go_sem, hlt]
set_option maxHeartbeats 4000000 in
theorem qav (c : Cq) (hc : c.ok = true) (hw : c.wt <= 1048576) : FC Tryz.prog 95 [cqD c] [bD c.taut] := by
 have hok := zhx hc
 have hy := fun k (h : k < c.lits.length) => zkt (c := c) h
 have hn := zsy (c := c)
 have hll : c.lits.length <= 8 := zmr hc
 simp only [cqD, zat]
 generalize c.taut = R at hy hn ⊢
 generalize c.lits = ls at hok hy hn hll ⊢
 refine zan Tryz.call95 Tryz.func95 rfl (by kernel_rfl) (za3 (by kernel_rfl)) ?_
 simp -implicitDefEqProofs only [go_sem, Tryz.results95]
 refine zag (fun k : Nat => hd [(1, .one (.bx 1 0)), (3, vI k)] [(1, [.t (liS ls)])] []) (fun k => k <= ls.length /\ ntb ls k) (fun k => ls.length - k) 0 (zab ?_) ⟨Nat.zero_le _, fun j _ h => by omega⟩ ?_
 ·simp -implicitDefEqProofs only [go_sem]
 ·intro k ⟨hk, hr⟩
  by_cases hlt : k < ls.length
  ·have hwy := way1 (hok _ (List.getElem_mem hlt))
   have hyk := hy k hlt
   have hnx := fun h1 h2 => zp9 hr hlt h1 h2
   have hliq := zai ls[k]
   have hgd := zaf liC ls k hlt
   have hprev : 0 < k -> ∃ j, ∃ h : j < ls.length, k = j + 1 := fun h => ⟨k - 1, by omega, by omega⟩
   generalize hl : ls[k] = l at hwy hyk hnx hliq hgd
   have hno := hwy.no
   have hgd2 := hgd
   rw [hliq] at hgd2
   rcases hwy with h1 | ⟨h1, h2⟩ | ⟨h1, h2, p, q, h3, h4⟩ | ⟨h1, h2, p, h3⟩
   ·have hnt : ¬ zsk l := fun t => by have := t.1; rw [h1] at this; cases this
    by_cases h0 : k = 0
    ·subst h0
     have hlz : ((0 : Int) < (ls.length : Int)) = True := eq_true (by omega)
     simp -implicitDefEqProofs only [go_sem, hlt, hgd2, h1, hlz]
     refine drawn (by kernel_rfl) ?_
     simp -implicitDefEqProofs only [go_sem, hlt, hgd2, h1, hlz]
     refine ⟨by kernel_rfl, ?_⟩
     refine drawn (by kernel_rfl) ?_
     simp -implicitDefEqProofs only [go_sem, hlt, hgd2, h1, hlz]
     refine ⟨by kernel_rfl, 1, ⟨hlt, hnx hnt fun h => by omega⟩, by omega, zab ?_⟩
     simp -implicitDefEqProofs only [go_sem]
     rfl
    ·obtain ⟨j, hj, rfl⟩ := hprev (by omega)
     have hkp : ((0 : Int) < ((j + 1 : Nat) : Int)) = True := eq_true (by omega)
     have hw1 : IntKind.i64.wrap (((j + 1 : Nat) : Int) - 1) = (j : Int) := by rw [za4 (by omega) (by omega)]; omega
     have HP := zdd ls[j].atom l.atom
     have hgj := zaf liC ls j hj
     rw [zai ls[j]] at hgj
     simp only [tmD, zaa ls[j].atom, zaa l.atom] at HP
     simp only [Nat.add_sub_cancel] at hnx
     cases hs : same ls[j].atom l.atom
     ·rw [hs] at HP
      simp -implicitDefEqProofs only [go_sem, hlt, hgd2, h1, hkp, hw1, hj, hgj]
      refine drawn (by kernel_rfl) ?_
      simp -implicitDefEqProofs only [go_sem, hlt, hgd2, h1, hkp, hw1, hj, hgj]
      refine ⟨by kernel_rfl, ?_⟩
      refine drawn (by kernel_rfl) ?_
      simp -implicitDefEqProofs only [go_sem, hlt, hgd2, h1, hkp, hw1, hj, hgj]
      refine zba (HP) (by simp -implicitDefEqProofs only [go_sem, hlt, hgd2, h1, hkp, hw1, hj, hgj]) ?_
      simp -implicitDefEqProofs only [go_sem, hlt, hgd2, h1, hkp, hw1, hj, hgj]
      refine ⟨by kernel_rfl, j + 1 + 1, ⟨hlt, hnx hnt fun _ => zbc.1 hs⟩, by omega, zab ?_⟩
      simp -implicitDefEqProofs only [go_sem]
      rw [zam (by omega)]
     ·rw [hs] at HP
      rw [hyk (Or.inr ⟨j, hj, rfl, za1.1 hs⟩)]
      simp -implicitDefEqProofs only [go_sem, hlt, hgd2, h1, hkp, hw1, hj, hgj]
      refine drawn (by kernel_rfl) ?_
      simp -implicitDefEqProofs only [go_sem, hlt, hgd2, h1, hkp, hw1, hj, hgj]
      refine ⟨by kernel_rfl, ?_⟩
      refine drawn (by kernel_rfl) ?_
      simp -implicitDefEqProofs only [go_sem, hlt, hgd2, h1, hkp, hw1, hj, hgj]
      refine zba (HP) (by simp -implicitDefEqProofs only [go_sem, hlt, hgd2, h1, hkp, hw1, hj, hgj]) ?_
      simp -implicitDefEqProofs only [go_sem, hlt, hgd2, h1, hkp, hw1, hj, hgj]
      kernel_rfl
   ·have hnt : ¬ zsk l := fun t => by rw [t.2.1] at h2; cases h2
    by_cases h0 : k = 0
    ·subst h0
     have hlz : ((0 : Int) < (ls.length : Int)) = True := eq_true (by omega)
     simp -implicitDefEqProofs only [go_sem, hlt, hgd2, h1, h2, hlz]
     refine drawn (by kernel_rfl) ?_
     simp -implicitDefEqProofs only [go_sem, hlt, hgd2, h1, h2, hlz]
     refine ⟨by kernel_rfl, ?_⟩
     refine drawn (by kernel_rfl) ?_
     simp -implicitDefEqProofs only [go_sem, hlt, hgd2, h1, h2, hlz]
     refine ⟨by kernel_rfl, 1, ⟨hlt, hnx hnt fun h => by omega⟩, by omega, zab ?_⟩
     simp -implicitDefEqProofs only [go_sem]
     rfl
    ·obtain ⟨j, hj, rfl⟩ := hprev (by omega)
     have hkp : ((0 : Int) < ((j + 1 : Nat) : Int)) = True := eq_true (by omega)
     have hw1 : IntKind.i64.wrap (((j + 1 : Nat) : Int) - 1) = (j : Int) := by rw [za4 (by omega) (by omega)]; omega
     have HP := zdd ls[j].atom l.atom
     have hgj := zaf liC ls j hj
     rw [zai ls[j]] at hgj
     simp only [tmD, zaa ls[j].atom, zaa l.atom] at HP
     simp only [Nat.add_sub_cancel] at hnx
     cases hs : same ls[j].atom l.atom
     ·rw [hs] at HP
      simp -implicitDefEqProofs only [go_sem, hlt, hgd2, h1, h2, hkp, hw1, hj, hgj]
      refine drawn (by kernel_rfl) ?_
      simp -implicitDefEqProofs only [go_sem, hlt, hgd2, h1, h2, hkp, hw1, hj, hgj]
      refine ⟨by kernel_rfl, ?_⟩
      refine drawn (by kernel_rfl) ?_
      simp -implicitDefEqProofs only [go_sem, hlt, hgd2, h1, h2, hkp, hw1, hj, hgj]
      refine zba (HP) (by simp -implicitDefEqProofs only [go_sem, hlt, hgd2, h1, h2, hkp, hw1, hj, hgj]) ?_
      simp -implicitDefEqProofs only [go_sem, hlt, hgd2, h1, h2, hkp, hw1, hj, hgj]
      refine ⟨by kernel_rfl, j + 1 + 1, ⟨hlt, hnx hnt fun _ => zbc.1 hs⟩, by omega, zab ?_⟩
      simp -implicitDefEqProofs only [go_sem]
      rw [zam (by omega)]
     ·rw [hs] at HP
      rw [hyk (Or.inr ⟨j, hj, rfl, za1.1 hs⟩)]
      simp -implicitDefEqProofs only [go_sem, hlt, hgd2, h1, h2, hkp, hw1, hj, hgj]
      refine drawn (by kernel_rfl) ?_
      simp -implicitDefEqProofs only [go_sem, hlt, hgd2, h1, h2, hkp, hw1, hj, hgj]
      refine ⟨by kernel_rfl, ?_⟩
      refine drawn (by kernel_rfl) ?_
      simp -implicitDefEqProofs only [go_sem, hlt, hgd2, h1, h2, hkp, hw1, hj, hgj]
      refine zba (HP) (by simp -implicitDefEqProofs only [go_sem, hlt, hgd2, h1, h2, hkp, hw1, hj, hgj]) ?_
      simp -implicitDefEqProofs only [go_sem, hlt, hgd2, h1, h2, hkp, hw1, hj, hgj]
      kernel_rfl
   ·have hnt : ¬ zsk l := (Way1.wtwo h1 h2 p q h3 h4).no.resolve_left (by rintro ⟨r, _, _, hr⟩; rw [h3] at hr; simp only [List.cons.injEq, and_true] at hr; obtain ⟨rfl, rfl⟩ := hr; rw [zau] at h4; cases h4)
    have HS := zdd p q
    rw [h4] at HS
    simp only [tmD, zaa p, zaa q] at HS
    rw [h3] at hgd2
    by_cases h0 : k = 0
    ·subst h0
     have hlz : ((0 : Int) < (ls.length : Int)) = True := eq_true (by omega)
     simp -implicitDefEqProofs only [go_sem, hlt, hgd2, h1, h2, List.map_cons, List.map_nil, List.getD_cons_zero, List.getD_cons_succ, List.length_cons, List.length_nil, zaa p, zaa q, hlz]
     refine drawn (by kernel_rfl) ?_
     simp -implicitDefEqProofs only [go_sem, hlt, hgd2, h1, h2, List.map_cons, List.map_nil, List.getD_cons_zero, List.getD_cons_succ, List.length_cons, List.length_nil, zaa p, zaa q, hlz]
     refine zba (HS) (by simp -implicitDefEqProofs only [go_sem, hlt, hgd2, h1, h2, List.map_cons, List.map_nil, List.getD_cons_zero, List.getD_cons_succ, List.length_cons, List.length_nil, zaa p, zaa q, hlz]) ?_
     simp -implicitDefEqProofs only [go_sem, hlt, hgd2, h1, h2, List.map_cons, List.map_nil, List.getD_cons_zero, List.getD_cons_succ, List.length_cons, List.length_nil, zaa p, zaa q, hlz]
     refine ⟨by kernel_rfl, ?_⟩
     refine drawn (by kernel_rfl) ?_
     simp -implicitDefEqProofs only [go_sem, hlt, hgd2, h1, h2, List.map_cons, List.map_nil, List.getD_cons_zero, List.getD_cons_succ, List.length_cons, List.length_nil, zaa p, zaa q, hlz]
     refine ⟨by kernel_rfl, 1, ⟨hlt, hnx hnt fun h => by omega⟩, by omega, zab ?_⟩
     simp -implicitDefEqProofs only [go_sem]
     rfl
    ·obtain ⟨j, hj, rfl⟩ := hprev (by omega)
     have hkp : ((0 : Int) < ((j + 1 : Nat) : Int)) = True := eq_true (by omega)
     have hw1 : IntKind.i64.wrap (((j + 1 : Nat) : Int) - 1) = (j : Int) := by rw [za4 (by omega) (by omega)]; omega
     have HP := zdd ls[j].atom l.atom
     have hgj := zaf liC ls j hj
     rw [zai ls[j]] at hgj
     simp only [tmD, zaa ls[j].atom, zaa l.atom, h3] at HP
     simp only [Nat.add_sub_cancel] at hnx
     cases hs : same ls[j].atom l.atom
     ·rw [hs] at HP
      simp -implicitDefEqProofs only [go_sem, hlt, hgd2, h1, h2, List.map_cons, List.map_nil, List.getD_cons_zero, List.getD_cons_succ, List.length_cons, List.length_nil, zaa p, zaa q, hkp, hw1, hj, hgj]
      refine drawn (by kernel_rfl) ?_
      simp -implicitDefEqProofs only [go_sem, hlt, hgd2, h1, h2, List.map_cons, List.map_nil, List.getD_cons_zero, List.getD_cons_succ, List.length_cons, List.length_nil, zaa p, zaa q, hkp, hw1, hj, hgj]
      refine zba (HS) (by simp -implicitDefEqProofs only [go_sem, hlt, hgd2, h1, h2, List.map_cons, List.map_nil, List.getD_cons_zero, List.getD_cons_succ, List.length_cons, List.length_nil, zaa p, zaa q, hkp, hw1, hj, hgj]) ?_
      simp -implicitDefEqProofs only [go_sem, hlt, hgd2, h1, h2, List.map_cons, List.map_nil, List.getD_cons_zero, List.getD_cons_succ, List.length_cons, List.length_nil, zaa p, zaa q, hkp, hw1, hj, hgj]
      refine ⟨by kernel_rfl, ?_⟩
      refine drawn (by kernel_rfl) ?_
      simp -implicitDefEqProofs only [go_sem, hlt, hgd2, h1, h2, List.map_cons, List.map_nil, List.getD_cons_zero, List.getD_cons_succ, List.length_cons, List.length_nil, zaa p, zaa q, hkp, hw1, hj, hgj]
      refine zba (HP) (by simp -implicitDefEqProofs only [go_sem, hlt, hgd2, h1, h2, List.map_cons, List.map_nil, List.getD_cons_zero, List.getD_cons_succ, List.length_cons, List.length_nil, zaa p, zaa q, hkp, hw1, hj, hgj]) ?_
      simp -implicitDefEqProofs only [go_sem, hlt, hgd2, h1, h2, List.map_cons, List.map_nil, List.getD_cons_zero, List.getD_cons_succ, List.length_cons, List.length_nil, zaa p, zaa q, hkp, hw1, hj, hgj]
      refine ⟨by kernel_rfl, j + 1 + 1, ⟨hlt, hnx hnt fun _ => zbc.1 hs⟩, by omega, zab ?_⟩
      simp -implicitDefEqProofs only [go_sem]
      rw [zam (by omega)]
     ·rw [hs] at HP
      rw [hyk (Or.inr ⟨j, hj, rfl, za1.1 hs⟩)]
      simp -implicitDefEqProofs only [go_sem, hlt, hgd2, h1, h2, List.map_cons, List.map_nil, List.getD_cons_zero, List.getD_cons_succ, List.length_cons, List.length_nil, zaa p, zaa q, hkp, hw1, hj, hgj]
      refine drawn (by kernel_rfl) ?_
      simp -implicitDefEqProofs only [go_sem, hlt, hgd2, h1, h2, List.map_cons, List.map_nil, List.getD_cons_zero, List.getD_cons_succ, List.length_cons, List.length_nil, zaa p, zaa q, hkp, hw1, hj, hgj]
      refine zba (HS) (by simp -implicitDefEqProofs only [go_sem, hlt, hgd2, h1, h2, List.map_cons, List.map_nil, List.getD_cons_zero, List.getD_cons_succ, List.length_cons, List.length_nil, zaa p, zaa q, hkp, hw1, hj, hgj]) ?_
      simp -implicitDefEqProofs only [go_sem, hlt, hgd2, h1, h2, List.map_cons, List.map_nil, List.getD_cons_zero, List.getD_cons_succ, List.length_cons, List.length_nil, zaa p, zaa q, hkp, hw1, hj, hgj]
      refine ⟨by kernel_rfl, ?_⟩
      refine drawn (by kernel_rfl) ?_
      simp -implicitDefEqProofs only [go_sem, hlt, hgd2, h1, h2, List.map_cons, List.map_nil, List.getD_cons_zero, List.getD_cons_succ, List.length_cons, List.length_nil, zaa p, zaa q, hkp, hw1, hj, hgj]
      refine zba (HP) (by simp -implicitDefEqProofs only [go_sem, hlt, hgd2, h1, h2, List.map_cons, List.map_nil, List.getD_cons_zero, List.getD_cons_succ, List.length_cons, List.length_nil, zaa p, zaa q, hkp, hw1, hj, hgj]) ?_
      simp -implicitDefEqProofs only [go_sem, hlt, hgd2, h1, h2, List.map_cons, List.map_nil, List.getD_cons_zero, List.getD_cons_succ, List.length_cons, List.length_nil, zaa p, zaa q, hkp, hw1, hj, hgj]
      kernel_rfl
   ·have hyt : R = true := hyk (Or.inl ⟨h1, by simpa using h2, p, h3⟩)
    have HS := zdd p p
    rw [zau] at HS
    simp only [tmD, zaa p] at HS
    rw [h3] at hgd2
    rw [hyt]
    simp -implicitDefEqProofs only [go_sem, hlt, hgd2, h1, h2, List.map_cons, List.map_nil, List.getD_cons_zero, List.getD_cons_succ, List.length_cons, List.length_nil, zaa p]
    refine drawn (by kernel_rfl) ?_
    simp -implicitDefEqProofs only [go_sem, hlt, hgd2, h1, h2, List.map_cons, List.map_nil, List.getD_cons_zero, List.getD_cons_succ, List.length_cons, List.length_nil, zaa p]
    refine zba (HS) (by simp -implicitDefEqProofs only [go_sem, hlt, hgd2, h1, h2, List.map_cons, List.map_nil, List.getD_cons_zero, List.getD_cons_succ, List.length_cons, List.length_nil, zaa p]) ?_
    simp -implicitDefEqProofs only [go_sem, hlt, hgd2, h1, h2, List.map_cons, List.map_nil, List.getD_cons_zero, List.getD_cons_succ, List.length_cons, List.length_nil, zaa p]
    kernel_rfl
  ·have e : k = ls.length := by omega
   subst e
   rw [hn hr]
   simp -implicitDefEqProofs only [go_sem, hlt]
end Go.Proofs.YtnkagnjiljjpcaaGreat
namespace Go.Proofs.YtnkagnjiljjpcaaGreat
set_option linter.unusedSimpArgs false
set_option linter.unusedVariables false
set_option linter.unusedSectionVars false
set_option maxRecDepth 4000
open Go.RowKit
set_option maxHeartbeats 1000000 in
theorem zk2 (A : List Tm) (hA : A.length <= 1048576) (c : Cq) (hl : c.lits.length <= 8) : FC Tryz.prog 45 [.one (tmS A), cqD c] [.one (ze7 (prC A c))] := by
 have hv : prC A c = c.lits.map (zh2 A) := rfl
 rw [hv]
 simp only [cqD, zat]
 generalize c.lits = ls at hl ⊢
 refine zan Tryz.call45 Tryz.func45 rfl (by kernel_rfl) (za3 (by kernel_rfl)) ?_
 simp -implicitDefEqProofs only [go_sem, Tryz.results45]
 refine zbt (by simp -implicitDefEqProofs only [go_sem]) ?_
 simp -implicitDefEqProofs only [go_sem]
 refine zag (fun k : Nat => hd [(0, vT (tmS A)), (5, .one (.ow 288 0)), (11, vT (liS ls)), (12, vI ls.length), (13, vI k)] [] [(288, ⟨true, 1, ((ls.take k).map (zh2 A)).map fun s => [.int .i64 s], 0, true⟩)]) (fun k => k <= ls.length) (fun k => ls.length - k) 0 (zab ?_) (Nat.zero_le _) ?_
 ·simp -implicitDefEqProofs only [go_sem]
 ·intro k hk
  by_cases hlt : k < ls.length
  ·have HI := zjs A ls[k].atom
   have hb := zns A fun a => same a ls[k].atom
   have hz : zh2 A ls[k] = if ls[k].pos = true then (zgl A fun a => same a ls[k].atom) + 1 else -((zgl A fun a => same a ls[k].atom) + 1) := rfl
   generalize (zgl A fun a => same a ls[k].atom) = ix at HI hb hz
   have hwp : IntKind.i64.wrap (ix + 1) = ix + 1 := za4 (by omega) (by omega)
   have hwn : IntKind.i64.wrap (0 - (ix + 1)) = -(ix + 1) := by rw [za4 (by omega) (by omega)]; omega
   have ha : k <= 4294967295 := by omega
   have hlk : (ls.take k).length = k := by rw [List.length_take]; omega
   simp only [tmD, zaa ls[k].atom] at HI
   cases hp : ls[k].pos
   ·rw [hp, if_neg (by simp)] at hz
    simp -implicitDefEqProofs only [go_sem, hlt, zaf, zai ls[k], hp]
    refine callF (HI) (by simp -implicitDefEqProofs only [go_sem]) ?_
    simp -implicitDefEqProofs only [go_sem]
    rw [hwp, hwn]
    refine zbt (by simp -implicitDefEqProofs only [go_sem]) ?_
    simp -implicitDefEqProofs only [go_sem]
    refine apD true (by simp -implicitDefEqProofs only [go_sem, ne_eq, List.length_map, hlk, ha]) ?_
    simp -implicitDefEqProofs only [go_sem, ne_eq, List.length_map, hlk, ha]
    refine ⟨k + 1, hlt, by omega, zab ?_⟩
    simp -implicitDefEqProofs only [go_sem]
    rw [zam (by omega), List.take_succ_eq_append_getElem hlt, List.map_append, List.map_singleton]
    simp [Function.comp, hz]
   ·rw [hp, if_pos rfl] at hz
    simp -implicitDefEqProofs only [go_sem, hlt, zaf, zai ls[k], hp]
    refine callF (HI) (by simp -implicitDefEqProofs only [go_sem]) ?_
    simp -implicitDefEqProofs only [go_sem]
    rw [hwp]
    refine zbt (by simp -implicitDefEqProofs only [go_sem]) ?_
    simp -implicitDefEqProofs only [go_sem]
    refine apD true (by simp -implicitDefEqProofs only [go_sem, ne_eq, List.length_map, hlk, ha]) ?_
    simp -implicitDefEqProofs only [go_sem, ne_eq, List.length_map, hlk, ha]
    refine ⟨k + 1, hlt, by omega, zab ?_⟩
    simp -implicitDefEqProofs only [go_sem]
    rw [zam (by omega), List.take_succ_eq_append_getElem hlt, List.map_append, List.map_singleton]
    simp [Function.comp, hz]
  ·have ht : ls.take k = ls := List.take_of_length_le (by omega)
   simp -implicitDefEqProofs only [go_sem, hlt, ht]
set_option maxHeartbeats 1000000 in
theorem zyx (cs : List Cq) (hw : zij cs <= 1048576) : FC Tryz.prog 17 [.one (cqS cs)] [.one (zfc (toR cs)), bD (zoh cs)] := by
 have HG := zfe cs hw
 have hv : toR cs = if zoh cs = true then toL (gaL cs) cs else [] := rfl
 have hv2 : gaR cs = if zoh cs = true then gaL cs else [] := rfl
 rw [hv]
 have hv3 := zp1 cs
 cases hg : zoh cs
 ·rw [hg] at HG
  rw [if_neg (by simp)]
  generalize gaR cs = A at HG
  refine zan Tryz.call17 Tryz.func17 rfl (by kernel_rfl) (za3 (by kernel_rfl)) ?_
  simp -implicitDefEqProofs only [go_sem, Tryz.results17]
  refine callF (HG) (by simp -implicitDefEqProofs only [go_sem]) ?_
  simp -implicitDefEqProofs only [go_sem]
 ·rw [hg, if_pos rfl] at hv2
  rw [hg] at hv3
  have hp := (Bool.and_eq_true _ _).mp hv3.symm
  have hA : (gaL cs).length <= 12 := of_decide_eq_true hp.2
  have hall : cs.all grC = true := ((Bool.and_eq_true _ _).mp hp.1).2
  have h40 : cs.length <= 40 := of_decide_eq_true ((Bool.and_eq_true _ _).mp hp.1).1
  have hok := fun c (h : c ∈ cs) => zu5 (List.all_eq_true.1 hall c h)
  rw [hg, hv2] at HG
  rw [if_pos rfl]
  generalize gaL cs = A at HG hA ⊢
  refine zan Tryz.call17 Tryz.func17 rfl (by kernel_rfl) (za3 (by kernel_rfl)) ?_
  simp -implicitDefEqProofs only [go_sem, Tryz.results17]
  refine callF (HG) (by simp -implicitDefEqProofs only [go_sem]) ?_
  simp -implicitDefEqProofs only [go_sem]
  refine zbt (by simp -implicitDefEqProofs only [go_sem]) ?_
  simp -implicitDefEqProofs only [go_sem]
  refine zag (fun k : Nat => hd [(4, .one (.ow 352 0)), (6, .one (.ow 512 0)), (17, vT (cqS cs)), (18, vI cs.length), (19, vI k)] [] [(352, ⟨true, 2, A.map tmC, 0, true⟩), (512, ⟨true, 1, (toL A (cs.take k)).map fun s => [ze7 s], 0, true⟩)]) (fun k => k <= cs.length) (fun k => cs.length - k) 0 (zab ?_) (Nat.zero_le _) ?_
  ·simp -implicitDefEqProofs only [go_sem]
   rfl
  ·intro k hk
   by_cases hlt : k < cs.length
   ·have hm := List.getElem_mem hlt
    have HT := zki cs[k] (hok _ hm) (Nat.le_trans (zpg hm) hw)
    have HP := zk2 A (by omega) cs[k] (zmr (hok _ hm))
    have hs := zqg A hlt
    have htl := znm A (cs.take k)
    rw [List.length_take] at htl
    have ha : (toL A (cs.take k)).length <= 4294967295 := by omega
    simp only [cqD, zat cs[k]] at HT HP
    cases ht : cs[k].taut
    ·rw [ht] at HT hs
     rw [if_neg (by simp)] at hs
     simp -implicitDefEqProofs only [go_sem, hlt, zaf, zat cs[k]]
     refine callF (HT) (by simp -implicitDefEqProofs only [go_sem]) ?_
     simp -implicitDefEqProofs only [go_sem]
     refine callF (HP) (by simp -implicitDefEqProofs only [go_sem]) ?_
     simp -implicitDefEqProofs only [go_sem]
     refine zbt (by simp -implicitDefEqProofs only [go_sem]) ?_
     simp -implicitDefEqProofs only [go_sem]
     refine apD true (by simp -implicitDefEqProofs only [go_sem, ne_eq, List.length_map, ha]) ?_
     simp -implicitDefEqProofs only [go_sem, ne_eq, List.length_map, ha]
     refine ⟨k + 1, hlt, by omega, zab ?_⟩
     simp -implicitDefEqProofs only [go_sem]
     rw [zam (by omega), hs, List.map_append, List.map_singleton]
     exact ⟨rfl, rfl⟩
    ·rw [ht] at HT hs
     rw [if_pos rfl] at hs
     simp -implicitDefEqProofs only [go_sem, hlt, zaf, zat cs[k]]
     refine callF (HT) (by simp -implicitDefEqProofs only [go_sem]) ?_
     simp -implicitDefEqProofs only [go_sem]
     refine ⟨k + 1, hlt, by omega, zab ?_⟩
     simp -implicitDefEqProofs only [go_sem]
     rw [zam (by omega), hs]
     exact ⟨rfl, rfl⟩
   ·have ht : cs.take k = cs := List.take_of_length_le (by omega)
    simp -implicitDefEqProofs only [go_sem, hlt, ht]
set_option maxHeartbeats 2000000 in
theorem zwl (cs : List Cq) (hw : zij cs <= 1048576) (hall : cs.all grC = true) (h40 : cs.length <= 1048576) (hA : (gaL cs).length <= 1048576) : RC Tryz.prog 43 [.one (cqS cs), .one (tmS (gaL cs))] [.one (zfc (toL (gaL cs) cs)), .one (cqS (frL cs))] := by
 have hok := fun c (h : c ∈ cs) => zu5 (List.all_eq_true.1 hall c h)
 have hfa := fun c (h : c ∈ cs) => zy4 hall h
 generalize gaL cs = A at hA hfa ⊢
 refine ziq Tryz.call43 Tryz.func43 rfl (by kernel_rfl) (za3 (by kernel_rfl)) ?_
 simp -implicitDefEqProofs only [go_sem, Tryz.results43]
 refine zbt (by simp -implicitDefEqProofs only [go_sem]) ?_
 simp -implicitDefEqProofs only [go_sem]
 refine zgq (by simp -implicitDefEqProofs only [go_sem]) ?_
 simp -implicitDefEqProofs only [go_sem]
 refine zag (fun k : Nat => hd [(0, vT (cqS cs)), (1, vT (tmS A)), (6, .one (.ow 384 0)), (7, .one (.ow 416 0)), (8, vI k)] [] [(384, ⟨true, 1, (toL A (cs.take k)).map fun s => [ze7 s], 0, true⟩), (416, ⟨false, 1, (frL (cs.take k)).map cqC, 0, true⟩)]) (fun k => k <= cs.length) (fun k => cs.length - k) 0 (zab ?_) (Nat.zero_le _) ?_
 ·simp -implicitDefEqProofs only [go_sem]
  exact ⟨rfl, rfl⟩
 ·intro k hk
  by_cases hlt : k < cs.length
  ·have hm := List.getElem_mem hlt
   have HT := qav cs[k] (hok _ hm) (Nat.le_trans (zpg hm) hw)
   have hll := zmr (hok _ hm)
   have hs := zqg A hlt
   have hf := qa4 hlt
   have htl := znm A (cs.take k)
   have hfl := qdq (cs.take k)
   rw [List.length_take] at htl hfl
   have ha : (toL A (cs.take k)).length <= 4294967295 := by omega
   have ha2 : (frL (cs.take k)).length <= 4294967295 := by omega
   have hcq := zat cs[k]
   have hfk := hfa _ hm
   simp only [cqD, hcq] at HT
   cases ht : cs[k].taut
   ·rw [ht] at HT hs hf
    rw [if_neg (by simp)] at hs hf
    have hfk := hfk ht
    generalize cs[k].lits = ls at HT hll hcq hfk
    simp -implicitDefEqProofs only [go_sem, hlt, zaf, hcq]
    refine callF (HT) (by simp -implicitDefEqProofs only [go_sem]) ?_
    simp -implicitDefEqProofs only [go_sem]
    refine zbt (by simp -implicitDefEqProofs only [go_sem]) ?_
    simp -implicitDefEqProofs only [go_sem]
    refine zag (fun j : Nat => hd [(0, vT (cqS cs)), (1, vT (tmS A)), (6, .one (.ow 384 0)), (7, .one (.ow 416 0)), (8, vI k), (9, .one (.ow 800 0)), (10, vI j)] [] [(384, ⟨true, 1, (toL A (cs.take k)).map fun s => [ze7 s], 0, true⟩), (416, ⟨false, 1, (frL (cs.take k)).map cqC, 0, true⟩), (800, ⟨true, 1, ((ls.take j).foldl (fun z l => zfp z (zh2 A l)) []).map fun s => [.int .i64 s], 0, true⟩)]) (fun j => j <= ls.length) (fun j => ls.length - j) 0 (zab ?_) (Nat.zero_le _) ?_
    ·simp -implicitDefEqProofs only [go_sem]
     rfl
    ·intro j hj
     by_cases hlj : j < ls.length
     ·have HI := zr8 A ls[j].atom
      have hb := zns A fun a => same a ls[j].atom
      have hz : zh2 A ls[j] = if ls[j].pos = true then (zgl A fun a => same a ls[j].atom) + 1 else -((zgl A fun a => same a ls[j].atom) + 1) := rfl
      have hfs : (ls.take (j + 1)).foldl (fun z l => zfp z (zh2 A l)) [] = zfp ((ls.take j).foldl (fun z l => zfp z (zh2 A l)) []) (zh2 A ls[j]) := by
       rw [List.take_succ_eq_append_getElem hlj, List.foldl_append]; rfl
      have hsm := zuy A hA (ls.take j) [] (fun _ h => by cases h)
      have hln := zo6 A (ls.take j) []
      rw [List.length_take, List.length_nil] at hln
      have HP := qa2 ((ls.take j).foldl (fun z l => zfp z (zh2 A l)) []) (zh2 A ls[j]) hsm (zu0 A ls[j] hA) (by omega)
      rw [<- hfs] at HP
      clear hfs
      generalize ((ls.take j).foldl (fun z l => zfp z (zh2 A l)) []) = z at HP
      generalize (zgl A fun a => same a ls[j].atom) = ix at HI hb hz
      have hwp : IntKind.i64.wrap (ix + 1) = ix + 1 := za4 (by omega) (by omega)
      have hwn : IntKind.i64.wrap (0 - (ix + 1)) = -(ix + 1) := by rw [za4 (by omega) (by omega)]; omega
      simp only [tmD, zaa ls[j].atom] at HI
      cases hp : ls[j].pos
      ·rw [hp, if_neg (by simp)] at hz
       rw [hz] at HP
       simp -implicitDefEqProofs only [go_sem, hlt, zaf, hcq, hlj, zai ls[j], hp]
       refine callF (HI) (by simp -implicitDefEqProofs only [go_sem, hlt, zaf, hcq, hlj, zai ls[j], hp]) ?_
       simp -implicitDefEqProofs only [go_sem, hlt, zaf, hcq, hlj, zai ls[j], hp]
       rw [hwp, hwn]
       refine callF (HP) (by simp -implicitDefEqProofs only [go_sem]) ?_
       simp -implicitDefEqProofs only [go_sem]
       refine ⟨j + 1, hlj, by omega, zco 800 1984 ?_⟩
       simp -implicitDefEqProofs only [go_sem]
       rw [zam (by omega)]
      ·rw [hp, if_pos rfl] at hz
       rw [hz] at HP
       simp -implicitDefEqProofs only [go_sem, hlt, zaf, hcq, hlj, zai ls[j], hp]
       refine callF (HI) (by simp -implicitDefEqProofs only [go_sem, hlt, zaf, hcq, hlj, zai ls[j], hp]) ?_
       simp -implicitDefEqProofs only [go_sem, hlt, zaf, hcq, hlj, zai ls[j], hp]
       rw [hwp]
       refine callF (HP) (by simp -implicitDefEqProofs only [go_sem]) ?_
       simp -implicitDefEqProofs only [go_sem]
       refine ⟨j + 1, hlj, by omega, zco 800 1984 ?_⟩
       simp -implicitDefEqProofs only [go_sem]
       rw [zam (by omega)]
     ·have htj : ls.take j = ls := List.take_of_length_le (by omega)
      rw [htj, hfk]
      simp -implicitDefEqProofs only [go_sem, hlt, zaf, hcq, hlj]
      refine zbt (by simp -implicitDefEqProofs only [go_sem]) ?_
      simp -implicitDefEqProofs only [go_sem]
      refine apD true (by simp -implicitDefEqProofs only [go_sem, ne_eq, List.length_map, ha, hlt, zaf, hcq]) ?_
      simp -implicitDefEqProofs only [go_sem, ne_eq, List.length_map, ha, hlt, zaf, hcq]
      refine zgq (by simp -implicitDefEqProofs only [go_sem, hlt, zaf, hcq]) ?_
      simp -implicitDefEqProofs only [go_sem, hlt, zaf, hcq]
      refine apD false (by simp -implicitDefEqProofs only [go_sem, ne_eq, List.length_map, ha2]) ?_
      simp -implicitDefEqProofs only [go_sem, ne_eq, List.length_map, ha2]
      refine ⟨k + 1, hlt, by omega, zab ?_⟩
      simp -implicitDefEqProofs only [go_sem]
      rw [zam (by omega), hs, hf, List.map_append, List.map_append, List.map_singleton, List.map_singleton, hcq]
      exact ⟨rfl, rfl, rfl⟩
   ·rw [ht] at HT hs hf
    rw [if_pos rfl] at hs hf
    simp -implicitDefEqProofs only [go_sem, hlt, zaf, hcq]
    refine callF (HT) (by simp -implicitDefEqProofs only [go_sem]) ?_
    simp -implicitDefEqProofs only [go_sem]
    refine ⟨k + 1, hlt, by omega, zab ?_⟩
    simp -implicitDefEqProofs only [go_sem]
    rw [zam (by omega), hs, hf]
    exact ⟨rfl, rfl, rfl⟩
  ·have ht : cs.take k = cs := List.take_of_length_le (by omega)
   rw [ht]
   simp -implicitDefEqProofs only [go_sem, hlt]
theorem zzh (cs : List Cq) (hw : zij cs <= 1048576) : RC Tryz.prog 16 [.one (cqS cs)] [.one (zfc (toR cs)), bD (zoh cs)] := by
 have HA := zrp cs hw
 have hv : toR cs = if zoh cs = true then toL (gaL cs) cs else [] := rfl
 have hv1 := zp1 cs
 have hv3 : gaA cs = if gaP cs = true then gaL cs else [] := rfl
 rw [hv]
 cases hg : zoh cs
 ·rw [hg] at HA
  rw [if_neg (by simp)]
  generalize gaA cs = A at HA
  refine ziq Tryz.call16 Tryz.func16 rfl (by kernel_rfl) (za3 (by kernel_rfl)) ?_
  simp -implicitDefEqProofs only [go_sem, Tryz.results16]
  refine callR (HA) (by simp -implicitDefEqProofs only [go_sem]) ?_
  simp -implicitDefEqProofs only [go_sem]
  refine zgq (by simp -implicitDefEqProofs only [go_sem]) ?_
  simp -implicitDefEqProofs only [go_sem]
 ·rw [hg] at hv1
  have hp := (Bool.and_eq_true _ _).mp hv1.symm
  have hA : (gaL cs).length <= 12 := of_decide_eq_true hp.2
  have hall : cs.all grC = true := ((Bool.and_eq_true _ _).mp hp.1).2
  have h40 : cs.length <= 40 := of_decide_eq_true ((Bool.and_eq_true _ _).mp hp.1).1
  have HX := zwl cs hw hall (by omega) (by omega)
  rw [hp.1, if_pos rfl] at hv3
  rw [hg, hv3] at HA
  rw [if_pos rfl]
  generalize toL (gaL cs) cs = R at HX ⊢
  generalize gaL cs = A at HX HA
  refine ziq Tryz.call16 Tryz.func16 rfl (by kernel_rfl) (za3 (by kernel_rfl)) ?_
  simp -implicitDefEqProofs only [go_sem, Tryz.results16]
  refine callR (HA) (by simp -implicitDefEqProofs only [go_sem]) ?_
  simp -implicitDefEqProofs only [go_sem]
  refine callR (HX) (by simp -implicitDefEqProofs only [go_sem]) ?_
  simp -implicitDefEqProofs only [go_sem]
end Go.Proofs.YtnkagnjiljjpcaaGreat
namespace Go.Proofs.YtnkagnjiljjpcaaGreat
set_option linter.unusedSimpArgs false
set_option linter.unusedVariables false
set_option linter.unusedSectionVars false
set_option maxRecDepth 4000
open Go.RowKit
def zfz : Li -> Nat -> Li × Nat
 | ⟨b0, .mk n0 s0⟩, k => (⟨((((k : Nat) : Int).tmod 3) == 0), .mk (mtx (k + 1)) (zbu s0 ((k + 1) + 1)).1⟩, (zbu s0 ((k + 1) + 1)).2)
def zcr : List Li -> Nat -> List Li × Nat
 | [], k => ([], k)
 | a :: xs, k => ((zfz a k).1 :: (zcr xs (zfz a k).2).1, (zcr xs (zfz a k).2).2)
def zhu : Li -> Nat
 | ⟨b0, .mk n0 s0⟩ => 1 + 1 + 1 + zdi s0
def ze2 : List Li -> Nat
 | [] => 0
 | a :: xs => zhu a + ze2 xs
theorem zv8 : ∀ (a : Li) (k : Nat), k <= (zfz a k).2 /\ (zfz a k).2 <= k + zhu a
 | ⟨b0, .mk n0 s0⟩, k => by have h_s0 := zei s0 ((k + 1) + 1); simp only [zfz, zhu]; omega
theorem zkh : ∀ (xs : List Li) (k : Nat), k <= (zcr xs k).2 /\ (zcr xs k).2 <= k + ze2 xs
 | [], k => ⟨Nat.le_refl _, Nat.le_refl _⟩
 | a :: xs, k => by have h1 := zv8 a k; have h2 := zkh xs (zfz a k).2; simp only [zcr, ze2]; omega
theorem zk7 : ∀ xs : List Li, xs.length <= ze2 xs
 | [] => Nat.le_refl _
 | a :: xs => by
  have := zk7 xs
  have : 1 <= zhu a := by obtain ⟨b0, ⟨n0, s0⟩⟩ := a; simp only [zhu]; omega
  simp only [List.length_cons, ze2]; omega
theorem zha (xs : List Li) :
  ∀ k : Nat, 0 < k -> k + ze2 xs <= 4611686018427387904 -> IC Tryz.prog 41 [] (.one (liS xs)) [iD k] (.one (liS (zcr xs k).1)) [iD (zcr xs k).2] := by
 intro k h0 hk
 refine zma Tryz.call41 Tryz.func41 rfl (by kernel_rfl) (by simp only [zc0, rd, List.map_cons, List.map_nil, List.nil_append, List.length_cons, List.length_nil, Tryz.ntmps41]; omega) (by simp only [Tryz.ntmps41]; omega) (fun vs => ?_)
 simp -implicitDefEqProofs only [go_sem, Tryz.results41, zq2, zkz, zc0, PI]
 refine zag (fun (x : List Li × List Li × Nat) => hd [(0, .one (.ow 0 0)), (1000000, .one (.ow 0 0)), (1, vI x.2.2), (5, vI x.1.length)] [] [(0, ⟨true, 3, x.1.map liC ++ zde vs x.1.length (x.2.1.map liC), 0, true⟩)])
  (fun x => (zcr xs k).1 = x.1 ++ (zcr x.2.1 x.2.2).1 /\ (zcr xs k).2 = (zcr x.2.1 x.2.2).2 /\ 0 < x.2.2 /\ x.2.2 + ze2 x.2.1 <= 4611686018427387904 /\ x.1.length + x.2.1.length = xs.length /\ ∀ a ∈ x.2.1, a ∈ xs) (fun x => x.2.1.length) ([], xs, k) (zab ?_) ?_ ?_
 ·simp -implicitDefEqProofs only [go_sem]
 ·exact ⟨rfl, rfl, h0, hk, by simp, fun _ h => h⟩
 ·intro ⟨dn, rest, kk⟩ ⟨h1, h2, h3, h4, h6, h5⟩
  simp only at h1 h2 h3 h4 h5 h6
  cases rest with
  | nil =>
   simp only [zcr, List.append_nil] at h1 h2
   simp -implicitDefEqProofs only [go_sem, h1, h2]
  | cons a rest =>
   obtain ⟨b0, ⟨n0, s0⟩⟩ := a
   simp only [zcr, zfz, ze2, zhu] at h1 h2 h4
   have hc_s0 := zei s0 ((kk + 1) + 1)
   have w0 : IntKind.i64.wrap (((kk : Nat) : Int) + 1) = ((kk + 1 : Nat) : Int) := zam (by omega)
   have m1 : (((kk : Nat) : Int)).tmod 3 = ((kk % 3 : Nat) : Int) := by rw [Int.tmod_eq_emod_of_nonneg (by omega)]; omega
   have w1 : IntKind.i64.wrap ((((kk + 1) : Nat) : Int) + 1) = (((kk + 1) + 1 : Nat) : Int) := zam (by omega)
   have hln := zk7 xs
   rw [List.length_cons] at h6
   have wl : IntKind.i64.wrap ((dn.length : Int) + 1) = ((dn.length + 1 : Nat) : Int) := zam (by omega)
   simp -implicitDefEqProofs only [go_sem, zai, Tm.name, Tm.args]
   refine ⟨by omega, ?_⟩
   refine zfi (by simp -implicitDefEqProofs only [go_sem, implies_true, w0, w1]) ?_
   simp -implicitDefEqProofs only [go_sem, implies_true, w0, w1]
   refine callF (zis (kk + 1) (by omega) (by omega)) (by simp -implicitDefEqProofs only [go_sem, w0, w1]) ?_
   simp -implicitDefEqProofs only [go_sem, w0, w1]
   refine zfi (by simp -implicitDefEqProofs only [go_sem, implies_true, w0, w1]) ?_
   simp -implicitDefEqProofs only [go_sem, implies_true, w0, w1]
   refine callN (l := [(0, .one (.ow 0 0)), (1000000, .one (.ow 0 0)), (5, vI dn.length), (35, .one (.cv (vs dn.length 2))), (36, vI (((kk + 1) + 1) : Nat))]) (bl := []) (el := [(0, ⟨true, 3, dn.map liC ++ [.bool ((((kk : Nat) : Int).tmod 3) == 0), .str (mtx (kk + 1)), .pin (vs dn.length 2) (tmS s0)] :: zde vs (dn.length + 1) (rest.map liC), 0, true⟩)]) 0 dn.length 2 (zm9 s0 ((kk + 1) + 1) (by omega) (by omega)) (by simp -implicitDefEqProofs only [go_sem, w0, w1, tmS]) rfl rfl rfl (by simp -implicitDefEqProofs only [go_sem, tmS, Tm.name, Tm.args]) rfl ?_
   simp -implicitDefEqProofs only [go_sem, w0, w1, Tm.name, Tm.args]
   refine ⟨(dn ++ [⟨((((kk : Nat) : Int).tmod 3) == 0), .mk (mtx (kk + 1)) (zbu s0 ((kk + 1) + 1)).1⟩], rest, (zbu s0 ((kk + 1) + 1)).2), ⟨by simpa using h1, h2, by show 0 < (zbu s0 ((kk + 1) + 1)).2; omega, by show (zbu s0 ((kk + 1) + 1)).2 + ze2 rest <= _; omega, by simp; omega, fun b hb => h5 b (by simp [hb])⟩, by simp, zab ?_⟩
   simp -implicitDefEqProofs only [go_sem, wl, zai, Tm.name, Tm.args, List.map_append, List.append_assoc]
theorem zh6 (xs : List Li) (k : Nat) (h0 : 0 < k) (hk : k + ze2 xs <= 4611686018427387904) : IC Tryz.prog 41 [] (.one (liS xs)) [iD k] (.one (liS (zcr xs k).1)) [iD (zcr xs k).2] := zha xs k h0 hk
def zfq : Cq -> Nat -> Cq × Nat
 | ⟨l0⟩, k => (⟨(zcr l0 k).1⟩, (zcr l0 k).2)
def zdl : List Cq -> Nat -> List Cq × Nat
 | [], k => ([], k)
 | a :: xs, k => ((zfq a k).1 :: (zdl xs (zfq a k).2).1, (zdl xs (zfq a k).2).2)
def zhy : Cq -> Nat
 | ⟨l0⟩ => 1 + ze2 l0
def zf7 : List Cq -> Nat
 | [] => 0
 | a :: xs => zhy a + zf7 xs
theorem zv9 : ∀ (a : Cq) (k : Nat), k <= (zfq a k).2 /\ (zfq a k).2 <= k + zhy a
 | ⟨l0⟩, k => by have h_l0 := zkh l0 k; simp only [zfq, zhy]; omega
theorem zou : ∀ (xs : List Cq) (k : Nat), k <= (zdl xs k).2 /\ (zdl xs k).2 <= k + zf7 xs
 | [], k => ⟨Nat.le_refl _, Nat.le_refl _⟩
 | a :: xs, k => by have h1 := zv9 a k; have h2 := zou xs (zfq a k).2; simp only [zdl, zf7]; omega
theorem zlp : ∀ xs : List Cq, xs.length <= zf7 xs
 | [] => Nat.le_refl _
 | a :: xs => by
  have := zlp xs
  have : 1 <= zhy a := by obtain ⟨l0⟩ := a; simp only [zhy]; omega
  simp only [List.length_cons, zf7]; omega
theorem zh5 (xs : List Cq) :
  ∀ k : Nat, 0 < k -> k + zf7 xs <= 4611686018427387904 -> IC Tryz.prog 13 [] (.one (cqS xs)) [iD k] (.one (cqS (zdl xs k).1)) [iD (zdl xs k).2] := by
 intro k h0 hk
 refine zma Tryz.call13 Tryz.func13 rfl (by kernel_rfl) (by simp only [zc0, rd, List.map_cons, List.map_nil, List.nil_append, List.length_cons, List.length_nil, Tryz.ntmps13]; omega) (by simp only [Tryz.ntmps13]; omega) (fun vs => ?_)
 simp -implicitDefEqProofs only [go_sem, Tryz.results13, zq2, zkz, zc0, PI]
 refine zag (fun (x : List Cq × List Cq × Nat) => hd [(0, .one (.ow 0 0)), (1000000, .one (.ow 0 0)), (1, vI x.2.2), (5, vI x.1.length)] [] [(0, ⟨true, 1, x.1.map cqC ++ zde vs x.1.length (x.2.1.map cqC), 0, true⟩)])
  (fun x => (zdl xs k).1 = x.1 ++ (zdl x.2.1 x.2.2).1 /\ (zdl xs k).2 = (zdl x.2.1 x.2.2).2 /\ 0 < x.2.2 /\ x.2.2 + zf7 x.2.1 <= 4611686018427387904 /\ x.1.length + x.2.1.length = xs.length /\ ∀ a ∈ x.2.1, a ∈ xs) (fun x => x.2.1.length) ([], xs, k) (zab ?_) ?_ ?_
 ·simp -implicitDefEqProofs only [go_sem]
 ·exact ⟨rfl, rfl, h0, hk, by simp, fun _ h => h⟩
 ·intro ⟨dn, rest, kk⟩ ⟨h1, h2, h3, h4, h6, h5⟩
  simp only at h1 h2 h3 h4 h5 h6
  cases rest with
  | nil =>
   simp only [zdl, List.append_nil] at h1 h2
   simp -implicitDefEqProofs only [go_sem, h1, h2]
  | cons a rest =>
   obtain ⟨l0⟩ := a
   simp only [zdl, zfq, zf7, zhy] at h1 h2 h4
   have hc_l0 := zkh l0 kk
   have hln := zlp xs
   rw [List.length_cons] at h6
   have wl : IntKind.i64.wrap ((dn.length : Int) + 1) = ((dn.length + 1 : Nat) : Int) := zam (by omega)
   simp -implicitDefEqProofs only [go_sem, zat]
   refine callN (l := [(0, .one (.ow 0 0)), (1000000, .one (.ow 0 0)), (5, vI dn.length), (16, .one (.cv (vs dn.length 0))), (17, vI (kk : Nat))]) (bl := []) (el := [(0, ⟨true, 1, dn.map cqC ++ [.pin (vs dn.length 0) (liS l0)] :: zde vs (dn.length + 1) (rest.map cqC), 0, true⟩)]) 0 dn.length 0 (zh6 l0 kk (by omega) (by omega)) (by simp -implicitDefEqProofs only [go_sem, liS]) rfl rfl rfl (by simp -implicitDefEqProofs only [go_sem, liS]) rfl ?_
   simp -implicitDefEqProofs only [go_sem, wl]
   refine ⟨(dn ++ [⟨(zcr l0 kk).1⟩], rest, (zcr l0 kk).2), ⟨by simpa using h1, h2, by show 0 < (zcr l0 kk).2; omega, by show (zcr l0 kk).2 + zf7 rest <= _; omega, by simp; omega, fun b hb => h5 b (by simp [hb])⟩, by simp, zab ?_⟩
   simp -implicitDefEqProofs only [go_sem, wl, zat, List.map_append, List.append_assoc]
theorem zjx (xs : List Cq) (k : Nat) (h0 : 0 < k) (hk : k + zf7 xs <= 4611686018427387904) : IC Tryz.prog 13 [] (.one (cqS xs)) [iD k] (.one (cqS (zdl xs k).1)) [iD (zdl xs k).2] := zh5 xs k h0 hk
end Go.Proofs.YtnkagnjiljjpcaaGreat
namespace Go.Proofs.YtnkagnjiljjpcaaGreat
set_option linter.unusedSimpArgs false
set_option linter.unusedVariables false
set_option linter.unusedSectionVars false
set_option maxRecDepth 4000
open Go.RowKit
theorem zqb : ∀ xs : List Li, ze2 xs <= 3 * zgf xs
 | [] => Nat.zero_le _
 | a :: xs => by
  obtain ⟨b, n, s⟩ := a
  have h1 := zqb xs
  have h2 := zkk s
  have h3 : (Li.mk b (.mk n s)).wt = (Tm.mk n s).wt := rfl
  have h4 := Tm.wt_eq (.mk n s)
  simp only [Tm.name, Tm.args] at h4
  unfold zgf at h1 ⊢
  unfold zqx at h2
  rw [ze2, zhu, List.length_cons, List.map_cons, List.sum_cons]
  omega
theorem zon : ∀ xs : List Cq, zf7 xs <= 3 * zij xs
 | [] => Nat.zero_le _
 | a :: xs => by
  obtain ⟨l⟩ := a
  have h1 := zon xs
  have h2 := zqb l
  have h3 : (Cq.mk l).wt = zgf l := rfl
  unfold zij at h1 ⊢
  rw [zf7, zhy, List.length_cons, List.map_cons, List.sum_cons]
  omega
end Go.Proofs.YtnkagnjiljjpcaaGreat
