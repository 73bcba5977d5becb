/-
  The walk over plain data, and contracts of functions of the program and of its laws.
  Conditions: those that each theorem names.
-/
import Derived.Test.YtaaniggpnljckaaGreatQM8
import Derived.Test.YtaaniggpnljckaaGreatQM6
import Derived.Test.YtaaniggpnljckaaGreatQM7
namespace Go.Proofs.YtaaniggpnljckaaGreat
set_option linter.unusedSimpArgs false
set_option linter.unusedVariables false
set_option linter.unusedSectionVars false
set_option maxRecDepth 4000
open Go.RowKit
theorem qdo {b : List Tm} {u : List Bool} {k : Nat} (h1 : k < b.length) (h2 : k < u.length) : k < (b.zip u).length := by rw [List.length_zip]; omega
theorem qbh {t : Tm} {b : List Tm} {u : List Bool} {k : Nat} (h1 : k < b.length) (h2 : k < u.length) (hn : ∀ z ∈ (b.zip u).take k, (!z.2 && same t z.1) = false) (hu : u[k] = false) (hs : same t b[k] = true) : fz t b u = k :=
 zep (qdo h1 h2) hn (by rw [List.getElem_zip]; simp only [hu, hs]; rfl)
theorem qf1 {t : Tm} {b : List Tm} {u : List Bool} {k : Nat} (h1 : b.length <= k) (hn : ∀ z ∈ (b.zip u).take k, (!z.2 && same t z.1) = false) : fz t b u = -1 :=
 zf4 fun z hz => hn z (by rw [List.take_of_length_le (by rw [List.length_zip]; omega)]; exact hz)
theorem zrj {t : Tm} {b : List Tm} {u : List Bool} {k : Nat} (h1 : k < b.length) (h2 : k < u.length) (hn : ∀ z ∈ (b.zip u).take k, (!z.2 && same t z.1) = false) (h : (!u[k] && same t b[k]) = false) : ∀ z ∈ (b.zip u).take (k + 1), (!z.2 && same t z.1) = false :=
 zb8 (qdo h1 h2) hn (by rw [List.getElem_zip]; exact h)
abbrev blS0 (u : List Bool) : List (List T) := u.map fun x => [.bool x]
theorem qhb (u : List Bool) {k : Nat} (h : k < u.length) : (blS0 u).getD k [] = [.bool u[k]] := zaf (fun x => [T.bool x]) u k h
theorem qcs (u : List Bool) {i : Nat} (v : Bool) (hi : i < u.length) : zcy (blS0 u) i 0 [.bool v] = blS0 (u.set i v) := by
 unfold zcy setR blS0
 rw [List.getD_eq_getElem?_getD, List.getElem?_map, List.getElem?_eq_getElem hi]
 simp [List.map_set]
abbrev miS (a b : List Tm) (i : Nat) (out : List Tm) (u : List Bool) : St := hd [(0, vT (tmS a)), (1, vT (tmS b)), (5, .one (.ow 384 0)), (6, .one (.ow 416 0)), (7, vI i)] [] [(384, ⟨true, 1, blS0 u, 0, true⟩), (416, ⟨false, 2, out.map tmC, 0, true⟩)]
abbrev miL (a b : List Tm) (i : Nat) (out : List Tm) (u : List Bool) (at' : Int) (k : Nat) : St := hd [(0, vT (tmS a)), (1, vT (tmS b)), (5, .one (.ow 384 0)), (6, .one (.ow 416 0)), (7, vI i), (8, vI at'), (9, vI k)] [] [(384, ⟨true, 1, blS0 u, 0, true⟩), (416, ⟨false, 2, out.map tmC, 0, true⟩)]
set_option maxHeartbeats 2000000 in
theorem zna (a b : List Tm) (hla : a.length <= 1048576) (hlb : b.length <= 1048576) : RC Tryz.prog 50 [.one (tmS a), .one (tmS b)] [.one (tmS (zll a b))] := by
 have hv : zll a b = [] ++ zmm b (a.drop 0) (List.replicate b.length false) := rfl
 generalize zll a b = R at hv ⊢
 refine zfj Tryz.call50 Tryz.func50 rfl (by kernel_rfl) (za2 (by kernel_rfl)) ?_
 simp -implicitDefEqProofs only [go_sem, Tryz.results50]
 refine makeD (by simp -implicitDefEqProofs only [go_sem]; omega) ?_
 simp -implicitDefEqProofs only [go_sem]
 refine zco (by simp -implicitDefEqProofs only [go_sem]) ?_
 simp -implicitDefEqProofs only [go_sem]
 refine zaj (fun z : Nat × List Tm × List Bool => miS a b z.1 z.2.1 z.2.2) (fun z => z.1 <= a.length /\ z.2.1.length <= z.1 /\ z.2.2.length = b.length /\ R = z.2.1 ++ zmm b (a.drop z.1) z.2.2) (fun z => a.length - z.1) (0, [], List.replicate b.length false) (zab ?_) ⟨Nat.zero_le _, Nat.le_refl _, List.length_replicate, hv⟩ ?_
 ·simp -implicitDefEqProofs only [go_sem]
  simp
 ·rintro ⟨i, out, u⟩ ⟨hi, ho, hu, hr⟩
  simp only at hi ho hu hr ⊢
  by_cases hlt : i < a.length
  ·have hmr : zmm b (a.drop i) u = if fz a[i] b u < 0 then a[i] :: zmm b (a.drop (i + 1)) u else zmm b (a.drop (i + 1)) (u.set (fz a[i] b u).toNat true) := by
    rw [List.drop_eq_getElem_cons hlt, zmm]
   rw [hmr] at hr
   clear hmr
   show ex _ _ _ _ (hd _ _ _)
   simp -implicitDefEqProofs only [go_sem, hlt]
   refine zaj (fun z : Int × Nat => miL a b i out u z.1 z.2) (fun z => (z.1 = -1 /\ z.2 <= b.length /\ ∀ y ∈ (b.zip u).take z.2, (!y.2 && same a[i] y.1) = false) \/ ∃ j : Nat, z.1 = j /\ fz a[i] b u = j /\ j < b.length) (fun z => b.length - z.2) (-1, 0) (zab ?_) (Or.inl ⟨rfl, Nat.zero_le _, by simp⟩) ?_
   ·simp -implicitDefEqProofs only [go_sem]
   ·rintro ⟨at', k⟩ hz
    simp only at hz ⊢
    show ex _ _ _ _ (hd _ _ _)
    have hfin : ∀ (j : Nat), fz a[i] b u = j -> j < b.length -> R = out ++ zmm b (a.drop (i + 1)) (u.set j true) := fun j h1 h2 => by
     rw [h1, if_neg (by omega), Int.toNat_natCast] at hr
     exact hr
    rcases hz with ⟨rfl, hk, hn⟩ | ⟨j, rfl, hj, hjl⟩
    ·by_cases hkl : k < b.length
     ·have hku : k < u.length := by omega
      have hs := zsc a[i] b[k]
      simp only [tmD, zaa a[i], zaa b[k]] at hs
      cases hub : u[k]
      ·cases hsb : same a[i] b[k]
       ·rw [hsb] at hs
        simp -implicitDefEqProofs only [go_sem, hkl]
        refine drawn (by kernel_rfl) ?_
        simp -implicitDefEqProofs only [go_sem, hku, qhb u hku, hub, hlt, hkl, zaf, zaa a[i], zaa b[k]]
        refine zb3 (hs) (by simp -implicitDefEqProofs only [go_sem]) ?_
        simp -implicitDefEqProofs only [go_sem]
        refine ⟨by kernel_rfl, (-1, k + 1), Or.inl ⟨rfl, hkl, zrj hkl hku hn (by rw [hub, hsb]; rfl)⟩, by simp only; omega, zab ?_⟩
        simp -implicitDefEqProofs only [go_sem]
        rw [zaq (by omega)]
       ·rw [hsb] at hs
        have hf := qbh hkl hku hn hub hsb
        simp -implicitDefEqProofs only [go_sem, hkl]
        refine drawn (by kernel_rfl) ?_
        simp -implicitDefEqProofs only [go_sem, hku, qhb u hku, hub, hlt, hkl, zaf, zaa a[i], zaa b[k]]
        refine zb3 (hs) (by simp -implicitDefEqProofs only [go_sem]) ?_
        simp -implicitDefEqProofs only [go_sem]
        refine ⟨by kernel_rfl, ((k : Int), k + 1), Or.inr ⟨k, rfl, hf, hkl⟩, by simp only; omega, zab ?_⟩
        simp -implicitDefEqProofs only [go_sem]
        rw [zaq (by omega)]
      ·simp -implicitDefEqProofs only [go_sem, hkl]
       refine drawn (by kernel_rfl) ?_
       simp -implicitDefEqProofs only [go_sem, hku, qhb u hku, hub]
       refine ⟨by kernel_rfl, (-1, k + 1), Or.inl ⟨rfl, hkl, zrj hkl hku hn (by rw [hub]; rfl)⟩, by simp only; omega, zab ?_⟩
       simp -implicitDefEqProofs only [go_sem]
       rw [zaq (by omega)]
     ·have hf := qf1 (show b.length <= k by omega) hn
      rw [hf, if_pos (by decide)] at hr
      have ha1 : out.length <= 4294967295 := by omega
      simp -implicitDefEqProofs only [go_sem, hkl, hlt, zaf, zaa a[i]]
      refine zco (by simp -implicitDefEqProofs only [go_sem]) ?_
      simp -implicitDefEqProofs only [go_sem]
      refine apD false (by simp -implicitDefEqProofs only [go_sem, ne_eq, List.length_map, ha1]) ?_
      simp -implicitDefEqProofs only [go_sem, ne_eq, List.length_map, ha1]
      refine ⟨(i + 1, out ++ [a[i]], u), ⟨hlt, by simp only [List.length_append, List.length_singleton]; omega, hu, by rw [hr]; simp⟩, by simp only; omega, zab ?_⟩
      simp -implicitDefEqProofs only [go_sem]
      rw [zaq (by omega), List.map_append, List.map_singleton, zaa a[i]]
      exact ⟨rfl, rfl⟩
    ·have hju : j < u.length := by omega
     have hneg : ((j : Int) < 0) = False := eq_false (by omega)
     have hr := hfin j hj hjl
     by_cases hkl : k < b.length
     case' pos => simp -implicitDefEqProofs only [go_sem, hkl, hneg, hju]
     case' neg => simp -implicitDefEqProofs only [go_sem, hkl, hneg, hju]
     all_goals
      refine zv0 (by simp -implicitDefEqProofs only [go_sem]; simp) ?_
      simp -implicitDefEqProofs only [go_sem, qcs u true hju]
      refine ⟨(i + 1, out, u.set j true), ⟨hlt, by simp only; omega, by simp only [List.length_set]; exact hu, hr⟩, by simp only; omega, zab ?_⟩
      simp -implicitDefEqProofs only [go_sem]
      rw [zaq (by omega)]
  ·rw [List.drop_of_length_le (by omega), zmm, List.append_nil] at hr
   subst hr
   show ex _ _ _ _ (hd _ _ _)
   simp -implicitDefEqProofs only [go_sem, hlt]
end Go.Proofs.YtaaniggpnljckaaGreat
namespace Go.Proofs.YtaaniggpnljckaaGreat
set_option linter.unusedSimpArgs false
set_option linter.unusedVariables false
set_option linter.unusedSectionVars false
set_option maxRecDepth 4000
open Go.RowKit
theorem zj6 {α : Type} {p : α -> Bool} {xs : List α} {k : Nat} (h : k < xs.length) : (xs.take (k + 1)).any p = ((xs.take k).any p || p xs[k]) := by
 rw [List.take_succ_eq_append_getElem h, List.any_append]; simp
theorem zr8 {α : Type} {p : α -> Bool} {xs : List α} {k : Nat} (h : k < xs.length) : (xs.take (k + 1)).all p = ((xs.take k).all p && p xs[k]) := by
 rw [List.take_succ_eq_append_getElem h, List.all_append]; simp
theorem zmv (m n : Nat) (hm : m <= 1048576) (hn : n <= 1048576) : (IntKind.i64.wrap ((m : Int) + (n : Int)) == 0) = (decide (m = 0) && decide (n = 0)) := by
 rw [zbd (by omega) (by omega), Bool.eq_iff_iff, beq_iff_eq, Bool.and_eq_true, decide_eq_true_eq, decide_eq_true_eq]; omega
abbrev ogB (o : Og) : Nat × List C := (3, [.rn (zb6 o.syms), .rn (ze4 o.wts), .t (.int .i64 o.vr)])
abbrev mu1 (o : Og) (x y : List Tm) (g l : Bool) (i : Nat) : St := hd [(3, .one (.bx 3 0)), (7, .one (.rn (tmS x))), (8, .one (.rn (tmS y))), (9, vB g), (10, vB l), (11, vI i)] [ogB o] []
abbrev mu2 (o : Og) (x y : List Tm) (g l : Bool) (i : Nat) (f : Bool) (k : Nat) : St := hd [(3, .one (.bx 3 0)), (7, .one (.rn (tmS x))), (8, .one (.rn (tmS y))), (9, vB g), (10, vB l), (11, vI i), (12, vB f), (13, vI k)] [ogB o] []
abbrev mu3 (o : Og) (x y : List Tm) (g l : Bool) (i : Nat) : St := hd [(3, .one (.bx 3 0)), (7, .one (.rn (tmS x))), (8, .one (.rn (tmS y))), (9, vB g), (10, vB l), (14, vI i)] [ogB o] []
abbrev mu4 (o : Og) (x y : List Tm) (g l : Bool) (i : Nat) (f : Bool) (k : Nat) : St := hd [(3, .one (.bx 3 0)), (7, .one (.rn (tmS x))), (8, .one (.rn (tmS y))), (9, vB g), (10, vB l), (14, vI i), (15, vB f), (16, vI k)] [ogB o] []
set_option maxHeartbeats 2000000 in
theorem zmk (o : Og) (ho : o.ok = true) (a b : List Tm) (ha : ∀ t ∈ a, ET o t) (hb : ∀ t ∈ b, ET o t) (hla : a.length <= 1048576) (hlb : b.length <= 1048576) : FC Tryz.prog 21 [ogD o, .one (tmS a), .one (tmS b)] [iD (zd4 o a b)] := by
 have HX := zna a b hla hlb
 have HY := zna b a hlb hla
 have hsx := zsd a b
 have hsy := zsd b a
 have hm := zsn o a b
 have hlx : (zll a b).length <= 1048576 := Nat.le_trans hsx.length_le hla
 have hly : (zll b a).length <= 1048576 := Nat.le_trans hsy.length_le hlb
 have hx : ∀ t ∈ zll a b, ET o t := fun t ht => ha t (hsx.subset ht)
 have hy : ∀ t ∈ zll b a, ET o t := fun t ht => hb t (hsy.subset ht)
 rw [<- hm]
 clear hm hsx hsy
 generalize zll a b = x at HX hlx hx ⊢
 generalize zll b a = y at HY hly hy ⊢
 have HC := zzs (decide (x.length = 0) && decide (y.length = 0)) (gtL o x y) (gtL o y x)
 rw [<- zmv x.length y.length hlx hly] at HC ⊢
 have HA := fun s t hs ht => zw5 o ho s t hs ht
 simp only [ogD, zax] at HA ⊢
 have hg : gtL o x y = y.all fun t => x.any fun s => o.abv s t := rfl
 have hl : gtL o y x = x.all fun t => y.any fun s => o.abv s t := rfl
 generalize gtL o x y = G at HC hg ⊢
 generalize gtL o y x = L at HC hl ⊢
 refine zfn Tryz.call21 Tryz.func21 rfl (by kernel_rfl) (za2 (by kernel_rfl)) ?_
 simp -implicitDefEqProofs only [go_sem, Tryz.results21]
 refine qdw (HX) (by simp -implicitDefEqProofs only [go_sem]) ?_
 simp -implicitDefEqProofs only [go_sem]
 refine qdw (HY) (by simp -implicitDefEqProofs only [go_sem]) ?_
 simp -implicitDefEqProofs only [go_sem]
 refine zaj (fun i : Nat => mu1 o x y ((y.take i).all fun t => x.any fun s => o.abv s t) true i) (fun i => i <= y.length) (fun i => y.length - i) 0 (zab ?_) (Nat.zero_le _) ?_
 ·simp -implicitDefEqProofs only [go_sem, List.take_zero, List.all_nil]
 ·intro i hi
  by_cases hlt : i < y.length
  ·have hnx := zr8 (p := fun t => x.any fun s => o.abv s t) hlt
   generalize ((y.take i).all fun t => x.any fun s => o.abv s t) = g at hnx ⊢
   show ex _ _ _ _ (hd _ _ _)
   simp -implicitDefEqProofs only [go_sem, hlt]
   refine zaj (fun k : Nat => mu2 o x y g true i ((x.take k).any fun s => o.abv s y[i]) k) (fun k => k <= x.length) (fun k => x.length - k) 0 (zab ?_) (Nat.zero_le _) ?_
   ·simp -implicitDefEqProofs only [go_sem, List.take_zero, List.any_nil]
   ·intro k hk
    by_cases hkl : k < x.length
    ·have hnk := zj6 (p := fun s => o.abv s y[i]) hkl
     have HA := HA x[k] y[i] (hx _ (List.getElem_mem hkl)) (hy _ (List.getElem_mem hlt))
     simp only [tmD, zaa x[k], zaa y[i]] at HA
     generalize ((x.take k).any fun s => o.abv s y[i]) = f at hnk ⊢
     show ex _ _ _ _ (hd _ _ _)
     cases f
     ·rw [Bool.false_or] at hnk
      simp -implicitDefEqProofs only [go_sem, hkl]
      refine drawn (by kernel_rfl) ?_
      simp -implicitDefEqProofs only [go_sem, hlt, hkl, zaf, zaa x[k], zaa y[i]]
      refine zb3 (HA) (by simp -implicitDefEqProofs only [go_sem]) ?_
      simp -implicitDefEqProofs only [go_sem]
      refine ⟨by kernel_rfl, k + 1, hkl, by omega, zab ?_⟩
      simp -implicitDefEqProofs only [go_sem]
      rw [zaq (by omega), hnk]
      exact ⟨rfl, rfl⟩
     ·rw [Bool.true_or] at hnk
      simp -implicitDefEqProofs only [go_sem, hkl]
      refine drawn (by kernel_rfl) ?_
      simp -implicitDefEqProofs only [go_sem]
      refine ⟨by kernel_rfl, k + 1, hkl, by omega, zab ?_⟩
      simp -implicitDefEqProofs only [go_sem]
      rw [zaq (by omega), hnk]
      exact ⟨rfl, rfl⟩
    ·rw [List.take_of_length_le (show x.length <= k by omega)]
     generalize (x.any fun s => o.abv s y[i]) = f at hnx ⊢
     show ex _ _ _ _ (hd _ _ _)
     cases g <;> cases f
     all_goals
      simp -implicitDefEqProofs only [go_sem, hkl]
      refine ⟨i + 1, hlt, by omega, zab ?_⟩
      simp -implicitDefEqProofs only [go_sem]
      rw [zaq (by omega), hnx]
      exact ⟨rfl, rfl⟩
  ·rw [List.take_of_length_le (show y.length <= i by omega), <- hg]
   show ex _ _ _ _ (hd _ _ _)
   simp -implicitDefEqProofs only [go_sem, hlt]
   refine zaj (fun i : Nat => mu3 o x y G ((x.take i).all fun t => y.any fun s => o.abv s t) i) (fun i => i <= x.length) (fun i => x.length - i) 0 (zab ?_) (Nat.zero_le _) ?_
   ·simp -implicitDefEqProofs only [go_sem, List.take_zero, List.all_nil]
   ·intro i hi
    by_cases hlt : i < x.length
    ·have hnx := zr8 (p := fun t => y.any fun s => o.abv s t) hlt
     generalize ((x.take i).all fun t => y.any fun s => o.abv s t) = g at hnx ⊢
     show ex _ _ _ _ (hd _ _ _)
     simp -implicitDefEqProofs only [go_sem, hlt]
     refine zaj (fun k : Nat => mu4 o x y G g i ((y.take k).any fun s => o.abv s x[i]) k) (fun k => k <= y.length) (fun k => y.length - k) 0 (zab ?_) (Nat.zero_le _) ?_
     ·simp -implicitDefEqProofs only [go_sem, List.take_zero, List.any_nil]
     ·intro k hk
      by_cases hkl : k < y.length
      ·have hnk := zj6 (p := fun s => o.abv s x[i]) hkl
       have HA := HA y[k] x[i] (hy _ (List.getElem_mem hkl)) (hx _ (List.getElem_mem hlt))
       simp only [tmD, zaa y[k], zaa x[i]] at HA
       generalize ((y.take k).any fun s => o.abv s x[i]) = f at hnk ⊢
       show ex _ _ _ _ (hd _ _ _)
       cases f
       ·rw [Bool.false_or] at hnk
        simp -implicitDefEqProofs only [go_sem, hkl]
        refine drawn (by kernel_rfl) ?_
        simp -implicitDefEqProofs only [go_sem, hlt, hkl, zaf, zaa y[k], zaa x[i]]
        refine zb3 (HA) (by simp -implicitDefEqProofs only [go_sem]) ?_
        simp -implicitDefEqProofs only [go_sem]
        refine ⟨by kernel_rfl, k + 1, hkl, by omega, zab ?_⟩
        simp -implicitDefEqProofs only [go_sem]
        rw [zaq (by omega), hnk]
        exact ⟨rfl, rfl⟩
       ·rw [Bool.true_or] at hnk
        simp -implicitDefEqProofs only [go_sem, hkl]
        refine drawn (by kernel_rfl) ?_
        simp -implicitDefEqProofs only [go_sem]
        refine ⟨by kernel_rfl, k + 1, hkl, by omega, zab ?_⟩
        simp -implicitDefEqProofs only [go_sem]
        rw [zaq (by omega), hnk]
        exact ⟨rfl, rfl⟩
      ·rw [List.take_of_length_le (show y.length <= k by omega)]
       generalize (y.any fun s => o.abv s x[i]) = f at hnx ⊢
       show ex _ _ _ _ (hd _ _ _)
       cases g <;> cases f
       all_goals
        simp -implicitDefEqProofs only [go_sem, hkl]
        refine ⟨i + 1, hlt, by omega, zab ?_⟩
        simp -implicitDefEqProofs only [go_sem]
        rw [zaq (by omega), hnx]
        exact ⟨rfl, rfl⟩
    ·rw [List.take_of_length_le (show x.length <= i by omega), <- hl]
     show ex _ _ _ _ (hd _ _ _)
     simp -implicitDefEqProofs only [go_sem, hlt]
     refine callF (HC) (by simp -implicitDefEqProofs only [go_sem]) ?_
     simp -implicitDefEqProofs only [go_sem]
theorem zrz (o : Og) (ho : o.syms.length <= 1048576) (xs : List Tm) (hw : ∀ x ∈ xs, x.wt <= 1048576) (hl : xs.length <= 1048576) : FC Tryz.prog 20 [ogD o, .one (tmS xs)] [bD (decide (xs.length <= 8) && xs.all (zdi o))] := by
 have HT := fun x (hx : x ∈ xs) => qcv o ho x (hw x hx)
 simp only [ogD, zax] at HT ⊢
 have hv : xs.all (zdi o) = (xs.drop 0).all (zdi o) := rfl
 refine zan Tryz.call20 Tryz.func20 rfl (by kernel_rfl) (za2 (by kernel_rfl)) ?_
 simp -implicitDefEqProofs only [go_sem, Tryz.results20]
 refine zaj (fun k : Nat => hd [(1, vT (tmS xs)), (2, .one (.bx 2 0)), (5, vI k)] [(2, [.t (zb6 o.syms), .t (ze4 o.wts), .t (.int .i64 o.vr)])] []) (fun k => k <= xs.length /\ xs.all (zdi o) = (xs.drop k).all (zdi o)) (fun k => xs.length - k) 0 (zab ?_) ⟨Nat.zero_le _, hv⟩ ?_
 ·simp -implicitDefEqProofs only [go_sem]
 ·intro k ⟨hk, hr⟩
  by_cases hlt : k < xs.length
  ·by_cases h8 : k <= 8
   ·have h8' : ((k : Int) <= 8) = True := eq_true (by omega)
    rw [zjt hlt] at hr
    have HT := HT xs[k] (List.getElem_mem hlt)
    have ho2 : zdi o xs[k] = (xs[k].good && o.cov xs[k]) := rfl
    rw [<- ho2] at HT
    simp only [tmD, zaa xs[k]] at HT
    cases hx : zdi o xs[k]
    ·rw [hx] at HT hr
     rw [hr, Bool.false_and, Bool.and_false]
     simp -implicitDefEqProofs only [go_sem, hlt, h8']
     refine drawn (by kernel_rfl) ?_
     simp -implicitDefEqProofs only [go_sem, hlt, zaf, zaa xs[k]]
     refine zau (HT) (by simp -implicitDefEqProofs only [go_sem]) ?_
     simp -implicitDefEqProofs only [go_sem]
     kernel_rfl
    ·rw [hx] at HT hr
     simp -implicitDefEqProofs only [go_sem, hlt, h8']
     refine drawn (by kernel_rfl) ?_
     simp -implicitDefEqProofs only [go_sem, hlt, zaf, zaa xs[k]]
     refine zau (HT) (by simp -implicitDefEqProofs only [go_sem]) ?_
     simp -implicitDefEqProofs only [go_sem]
     refine ⟨by kernel_rfl, k + 1, ⟨hlt, hr⟩, by omega, zab ?_⟩
     simp -implicitDefEqProofs only [go_sem]
     rw [zaq (by omega)]
   ·have h8' : ((k : Int) <= 8) = False := eq_false (by omega)
    have h9 : ((xs.length : Int) <= 8) = False := eq_false (by omega)
    rw [decide_eq_false (by omega), Bool.false_and]
    simp -implicitDefEqProofs only [go_sem, hlt, h8', h9]
    try rfl
  ·rw [List.drop_of_length_le (by omega)] at hr
   rw [hr, List.all_nil, Bool.and_true]
   simp -implicitDefEqProofs only [go_sem, hlt]
   rw [T.bool.injEq, decide_eq_decide]; omega
noncomputable def zf1 (o : Og) (a b : List Tm) : Int × Bool := if (o.ok && (decide (a.length <= 8) && a.all (zdi o)) && (decide (b.length <= 8) && b.all (zdi o))) = true then (zd4 o a b, true) else (0, false)
theorem zgi {o : Og} {xs : List Tm} (hw : ∀ x ∈ xs, x.wt <= 1048575) (h : xs.all (zdi o) = true) : ∀ x ∈ xs, ET o x := fun x hx => by
 have := List.all_eq_true.1 h x hx
 unfold zdi at this
 rw [Bool.and_eq_true] at this
 exact Or.inr ⟨zlf this.1, this.2, hw x hx⟩
theorem qdf (o : Og) (hol : o.syms.length <= 1048576) (a b : List Tm) (ha : ∀ x ∈ a, x.wt <= 1048575) (hb : ∀ x ∈ b, x.wt <= 1048575) (hla : a.length <= 1048576) (hlb : b.length <= 1048576) : FC Tryz.prog 7 [ogD o, .one (tmS a), .one (tmS b)] [iD (zf1 o a b).1, bD (zf1 o a b).2] := by
 have HO := zpz o
 have H1 := zrz o hol a (fun x hx => Nat.le_trans (ha x hx) (by omega)) hla
 have H2 := zrz o hol b (fun x hx => Nat.le_trans (hb x hx) (by omega)) hlb
 have hv : zf1 o a b = if (o.ok && (decide (a.length <= 8) && a.all (zdi o)) && (decide (b.length <= 8) && b.all (zdi o))) = true then (zd4 o a b, true) else (0, false) := rfl
 have HM : o.ok = true -> a.all (zdi o) = true -> b.all (zdi o) = true -> _ := fun h1 h2 h3 => zmk o h1 a b (zgi ha h2) (zgi hb h3) hla hlb
 generalize zf1 o a b = R at hv ⊢
 simp only [ogD, zax] at HO H1 H2 HM ⊢
 cases h0 : o.ok
 ·rw [h0] at HO hv
  have hv : R = (0, false) := hv
  subst hv
  refine zan Tryz.call7 Tryz.func7 rfl (by kernel_rfl) (za2 (by kernel_rfl)) ?_
  simp -implicitDefEqProofs only [go_sem, Tryz.results7]
  refine callF (HO) (by simp -implicitDefEqProofs only [go_sem]) ?_
  simp -implicitDefEqProofs only [go_sem]
  try rfl
 ·rw [h0] at HO
  cases h1 : (decide (a.length <= 8) && a.all (zdi o))
  ·rw [h1] at H1
   rw [h0, h1] at hv
   have hv : R = (0, false) := hv
   subst hv
   refine zan Tryz.call7 Tryz.func7 rfl (by kernel_rfl) (za2 (by kernel_rfl)) ?_
   simp -implicitDefEqProofs only [go_sem, Tryz.results7]
   refine callF (HO) (by simp -implicitDefEqProofs only [go_sem]) ?_
   simp -implicitDefEqProofs only [go_sem]
   refine callF (H1) (by simp -implicitDefEqProofs only [go_sem]) ?_
   simp -implicitDefEqProofs only [go_sem]
   try rfl
  ·cases h2 : (decide (b.length <= 8) && b.all (zdi o))
   ·rw [h1] at H1
    rw [h2] at H2
    rw [h0, h1, h2] at hv
    have hv : R = (0, false) := hv
    subst hv
    refine zan Tryz.call7 Tryz.func7 rfl (by kernel_rfl) (za2 (by kernel_rfl)) ?_
    simp -implicitDefEqProofs only [go_sem, Tryz.results7]
    refine callF (HO) (by simp -implicitDefEqProofs only [go_sem]) ?_
    simp -implicitDefEqProofs only [go_sem]
    refine callF (H1) (by simp -implicitDefEqProofs only [go_sem]) ?_
    simp -implicitDefEqProofs only [go_sem]
    refine callF (H2) (by simp -implicitDefEqProofs only [go_sem]) ?_
    simp -implicitDefEqProofs only [go_sem]
    try rfl
   ·rw [h1] at H1
    rw [h2] at H2
    rw [h0, h1, h2] at hv
    have hv : R = (zd4 o a b, true) := hv
    subst hv
    rw [Bool.and_eq_true] at h1 h2
    have HM := HM h0 h1.2 h2.2
    refine zan Tryz.call7 Tryz.func7 rfl (by kernel_rfl) (za2 (by kernel_rfl)) ?_
    simp -implicitDefEqProofs only [go_sem, Tryz.results7]
    refine callF (HO) (by simp -implicitDefEqProofs only [go_sem]) ?_
    simp -implicitDefEqProofs only [go_sem]
    refine callF (H1) (by simp -implicitDefEqProofs only [go_sem]) ?_
    simp -implicitDefEqProofs only [go_sem]
    refine callF (H2) (by simp -implicitDefEqProofs only [go_sem]) ?_
    simp -implicitDefEqProofs only [go_sem]
    refine callF (HM) (by simp -implicitDefEqProofs only [go_sem]) ?_
    simp -implicitDefEqProofs only [go_sem]
    try rfl
end Go.Proofs.YtaaniggpnljckaaGreat
namespace Go.Proofs.YtaaniggpnljckaaGreat
set_option linter.unusedSimpArgs false
set_option linter.unusedVariables false
set_option linter.unusedSectionVars false
set_option maxRecDepth 4000
open Go.RowKit
theorem zic (xs : List Li) (p : Li -> Bool) (g : FuncId) (caps : List T) (H : ∀ x ∈ xs, FC Tryz.prog g (liD x :: caps.map .one) [bD (p x)]) : FC Tryz.prog 83 [.one (liS xs), .one (.fn g caps)] [iD (zmr xs p)] := by
 refine zg6 (fun hw => ?_) Tryz.call83
 have hl : xs.length <= 9223372036854775807 := by simpa [zn6, wfT] using hw.1.1
 refine zan Tryz.call83 Tryz.func83 rfl (by kernel_rfl) (za2 (by kernel_rfl)) ?_
 simp -implicitDefEqProofs only [go_sem, Tryz.results83]
 refine zaj (fun k : Nat => hd [(0, vT (liS xs)), (1, vT (.fn g caps)), (7, vI xs.length), (8, vI k)] [] []) (fun k => k <= xs.length /\ ∀ x ∈ xs.take k, p x = false) (fun k => xs.length - k) 0 (zab ?_) ?_ ?_
 ·simp -implicitDefEqProofs only [go_sem]
 ·simp
 ·intro k ⟨hk, hr⟩
  by_cases hlt : k < xs.length
  ·simp -implicitDefEqProofs only [go_sem, zaf, hlt, zcw, zaa]
   refine callF (H xs[k] (List.getElem_mem hlt)) (by simp -implicitDefEqProofs only [go_sem, zcw, zaa]) ?_
   simp -implicitDefEqProofs only [go_sem, zcw, zaa]
   refine ⟨fun h => ?_, fun h => ⟨k + 1, ⟨hlt, zb8 hlt hr h⟩, by omega, zab (by simp -implicitDefEqProofs only [go_sem]; rw [zaq (by omega)])⟩⟩
   rw [zep hlt hr h]
  ·simp -implicitDefEqProofs only [go_sem, hlt]
   rw [List.take_of_length_le (by omega)] at hr
   rw [zf4 hr]
theorem zda (xs : List Li) (p : Li -> Bool) (g : FuncId) (caps : List T) (H : ∀ x ∈ xs, FC Tryz.prog g (liD x :: caps.map .one) [bD (p x)]) : FC Tryz.prog 58 [.one (liS xs), .one (.fn g caps)] [bD (xs.any p)] := by
 refine zan Tryz.call58 Tryz.func58 rfl (by kernel_rfl) (za2 (by kernel_rfl)) ?_
 simp -implicitDefEqProofs only [go_sem, Tryz.results58]
 refine callF (zic xs p g caps H) (by simp -implicitDefEqProofs only [go_sem]) ?_
 simp -implicitDefEqProofs only [go_sem]
 rw [zkm]
theorem zhl (o : Og) (a b : List Tm) (ha : ∀ x ∈ a, x.wt <= 1048575) (hb : ∀ x ∈ b, x.wt <= 1048575) (hla : a.length <= 1048576) (hlb : b.length <= 1048576) : FC Tryz.prog 6 [ogD o, .one (tmS a), .one (tmS b)] [iD (zf1 o a b).1, bD (zf1 o a b).2] := by
 have H1 := zit o a (fun x hx => Nat.le_trans (ha x hx) (by omega))
 have H2 := zit o b (fun x hx => Nat.le_trans (hb x hx) (by omega))
 have hv : zf1 o a b = if (o.ok && (decide (a.length <= 8) && a.all (zdi o)) && (decide (b.length <= 8) && b.all (zdi o))) = true then (zd4 o a b, true) else (0, false) := rfl
 have HM : o.ok = true -> a.all (zdi o) = true -> b.all (zdi o) = true -> _ := fun h1 h2 h3 => zc9 o h1 a b (zgi ha h2) (zgi hb h3) hla hlb
 generalize zf1 o a b = R at hv ⊢
 simp only [ogD, zax] at H1 H2 HM ⊢
 by_cases ga : a.length <= 8
 ·have ga' : ((a.length : Int) > 8) = False := eq_false (by omega)
  have ga2 : ((8 : Int) < (a.length : Int)) = False := eq_false (by omega)
  by_cases gb : b.length <= 8
  ·have gb2 : ((8 : Int) < (b.length : Int)) = False := eq_false (by omega)
   rw [decide_eq_true ga, decide_eq_true gb, Bool.true_and, Bool.true_and] at hv
   cases h1 : (o.ok && a.all (zdi o))
   ·rw [h1] at H1 hv
    have hv : R = (0, false) := hv
    subst hv
    refine zan Tryz.call6 Tryz.func6 rfl (by kernel_rfl) (za2 (by kernel_rfl)) ?_
    simp -implicitDefEqProofs only [go_sem, Tryz.results6, ga2, gb2]
    refine callF (H1) (by simp -implicitDefEqProofs only [go_sem]) ?_
    simp -implicitDefEqProofs only [go_sem]
    try rfl
   ·cases h2 : (o.ok && b.all (zdi o))
    ·rw [h1] at H1 hv
     rw [h2] at H2
     rw [Bool.and_eq_true] at h1
     rw [h1.1, Bool.true_and] at h2
     rw [h2] at hv
     have hv : R = (0, false) := hv
     subst hv
     refine zan Tryz.call6 Tryz.func6 rfl (by kernel_rfl) (za2 (by kernel_rfl)) ?_
     simp -implicitDefEqProofs only [go_sem, Tryz.results6, ga2, gb2]
     refine callF (H1) (by simp -implicitDefEqProofs only [go_sem]) ?_
     simp -implicitDefEqProofs only [go_sem]
     refine callF (H2) (by simp -implicitDefEqProofs only [go_sem]) ?_
     simp -implicitDefEqProofs only [go_sem]
     try rfl
    ·rw [h1] at H1 hv
     rw [h2] at H2
     rw [Bool.and_eq_true] at h1 h2
     rw [h2.2] at hv
     have hv : R = (zd4 o a b, true) := hv
     subst hv
     have HM := HM h1.1 h1.2 h2.2
     refine zan Tryz.call6 Tryz.func6 rfl (by kernel_rfl) (za2 (by kernel_rfl)) ?_
     simp -implicitDefEqProofs only [go_sem, Tryz.results6, ga2, gb2]
     refine callF (H1) (by simp -implicitDefEqProofs only [go_sem]) ?_
     simp -implicitDefEqProofs only [go_sem]
     refine callF (H2) (by simp -implicitDefEqProofs only [go_sem]) ?_
     simp -implicitDefEqProofs only [go_sem]
     refine callF (HM) (by simp -implicitDefEqProofs only [go_sem]) ?_
     simp -implicitDefEqProofs only [go_sem]
     try rfl
  ·have gb2 : ((8 : Int) < (b.length : Int)) = True := eq_true (by omega)
   rw [decide_eq_false gb, Bool.false_and, Bool.and_false] at hv
   have hv : R = (0, false) := hv
   subst hv
   refine zan Tryz.call6 Tryz.func6 rfl (by kernel_rfl) (za2 (by kernel_rfl)) ?_
   simp -implicitDefEqProofs only [go_sem, Tryz.results6, ga2, gb2]
   try rfl
 ·have ga2 : ((8 : Int) < (a.length : Int)) = True := eq_true (by omega)
  rw [decide_eq_false ga, Bool.false_and, Bool.and_false, Bool.false_and] at hv
  have hv : R = (0, false) := hv
  subst hv
  refine zan Tryz.call6 Tryz.func6 rfl (by kernel_rfl) (za2 (by kernel_rfl)) ?_
  simp -implicitDefEqProofs only [go_sem, Tryz.results6, ga2]
  try rfl
noncomputable def zev (o : Og) (t : Tm) : Bool := t.atomOk && (if (t.name == [61]) = true then t.args.all o.cov else o.cov t)
theorem zdo {t : Tm} (h : t.atomOk = true) (he : (t.name == [61]) = true) : t.args.length = 2 /\ ∀ x ∈ t.args, x.names = true := by
 unfold Tm.atomOk at h
 rw [if_pos he] at h
 simp only [Bool.and_eq_true, decide_eq_true_eq, List.all_eq_true] at h
 exact ⟨h.1.1, h.2⟩
theorem zh6 {t : Tm} (h : t.atomOk = true) (he : (t.name == [61]) = false) : t.names = true := by
 unfold Tm.atomOk at h
 rw [he] at h
 simp only [Bool.false_eq_true, if_false, Bool.and_eq_true] at h
 exact zlf h.2
theorem zlp (o : Og) (t : Tm) (hw : t.wt <= 1048576) : FC Tryz.prog 60 [ogD o, tmD t] [bD (zev o t)] := by
 have HA := zki t (by omega)
 have HE := zej t
 have HC := fun x h => zrm o x h
 unfold zev
 cases h1 : t.atomOk
 ·rw [h1] at HA
  simp only [ogD, zax]
  simp only [tmD, zaa t] at HA ⊢
  refine zan Tryz.call60 Tryz.func60 rfl (by kernel_rfl) (za2 (by kernel_rfl)) ?_
  simp -implicitDefEqProofs only [go_sem, Tryz.results60]
  refine callF (HA) (by simp -implicitDefEqProofs only [go_sem]) ?_
  simp -implicitDefEqProofs only [go_sem]
  try rfl
 ·rw [h1] at HA
  rw [Bool.true_and]
  cases h2 : (t.name == [61])
  ·rw [h2] at HE
   have HC := HC t (zh6 h1 h2)
   rw [if_neg (by simp)]
   simp only [ogD, zax] at HC ⊢
   simp only [tmD, zaa t] at HA HE HC ⊢
   refine zan Tryz.call60 Tryz.func60 rfl (by kernel_rfl) (za2 (by kernel_rfl)) ?_
   simp -implicitDefEqProofs only [go_sem, Tryz.results60]
   refine callF (HA) (by simp -implicitDefEqProofs only [go_sem]) ?_
   simp -implicitDefEqProofs only [go_sem]
   refine callF (HE) (by simp -implicitDefEqProofs only [go_sem]) ?_
   simp -implicitDefEqProofs only [go_sem]
   refine callF (HC) (by simp -implicitDefEqProofs only [go_sem]) ?_
   simp -implicitDefEqProofs only [go_sem]
  ·rw [h2] at HE
   obtain ⟨hl, hn⟩ := zdo h1 h2
   rw [if_pos rfl, zo3 hl]
   have HC0 := HC (t.args[0]'(by omega)) (hn _ (List.getElem_mem _))
   have HC1 := HC (t.args[1]'(by omega)) (hn _ (List.getElem_mem _))
   have l0 : ((0 : Int) < (t.args.length : Int)) = True := eq_true (by omega)
   have l1 : ((1 : Int) < (t.args.length : Int)) = True := eq_true (by omega)
   have m0 : (0 < t.args.length) = True := eq_true (by omega)
   have m1 : (1 < t.args.length) = True := eq_true (by omega)
   have q0 := zaf tmC t.args 0 (by omega)
   have q1 := zaf tmC t.args 1 (by omega)
   generalize t.args[0]'(by omega) = x at HC0 q0 ⊢
   generalize t.args[1]'(by omega) = y at HC1 q1 ⊢
   rw [zaa x] at q0
   rw [zaa y] at q1
   simp only [ogD, zax] at HC0 HC1 ⊢
   simp only [tmD, zaa t, zaa x, zaa y] at HA HE HC0 HC1 ⊢
   cases hx : o.cov x
   ·rw [hx] at HC0
    refine zan Tryz.call60 Tryz.func60 rfl (by kernel_rfl) (za2 (by kernel_rfl)) ?_
    simp -implicitDefEqProofs only [go_sem, Tryz.results60]
    refine callF (HA) (by simp -implicitDefEqProofs only [go_sem]) ?_
    simp -implicitDefEqProofs only [go_sem]
    refine callF (HE) (by simp -implicitDefEqProofs only [go_sem]) ?_
    simp -implicitDefEqProofs only [go_sem]
    refine drawn (by kernel_rfl) ?_
    simp -implicitDefEqProofs only [go_sem, l0, l1, m0, m1, q0, q1]
    refine zau (HC0) (by simp -implicitDefEqProofs only [go_sem, l0, l1, m0, m1, q0, q1]) ?_
    simp -implicitDefEqProofs only [go_sem, l0, l1, m0, m1, q0, q1]
    kernel_rfl
   ·rw [hx] at HC0
    refine zan Tryz.call60 Tryz.func60 rfl (by kernel_rfl) (za2 (by kernel_rfl)) ?_
    simp -implicitDefEqProofs only [go_sem, Tryz.results60]
    refine callF (HA) (by simp -implicitDefEqProofs only [go_sem]) ?_
    simp -implicitDefEqProofs only [go_sem]
    refine callF (HE) (by simp -implicitDefEqProofs only [go_sem]) ?_
    simp -implicitDefEqProofs only [go_sem]
    refine drawn (by kernel_rfl) ?_
    simp -implicitDefEqProofs only [go_sem, l0, l1, m0, m1, q0, q1]
    refine zau (HC0) (by simp -implicitDefEqProofs only [go_sem, l0, l1, m0, m1, q0, q1]) ?_
    simp -implicitDefEqProofs only [go_sem, l0, l1, m0, m1, q0, q1]
    refine zb3 (HC1) (by simp -implicitDefEqProofs only [go_sem]) ?_
    simp -implicitDefEqProofs only [go_sem]
    kernel_rfl
theorem zm0 {o : Og} {l : Li} (h : zev o l.atom = true) (hw : l.atom.wt <= 1048575) : ∀ t ∈ mlB l, ET o t := fun t ht => by
 unfold zev at h
 rw [Bool.and_eq_true] at h
 unfold mlB at ht
 cases he : (l.atom.name == [61])
 ·rw [he] at ht h
  simp only [Bool.false_eq_true, if_false, List.mem_cons, List.not_mem_nil, or_false] at ht h
  rcases ht with rfl | rfl
  ·exact Or.inr ⟨zh6 h.1 he, h.2, hw⟩
  ·exact Or.inl rfl
 ·rw [he] at ht h
  simp only [if_true, List.all_eq_true] at ht h
  exact Or.inr ⟨(zdo h.1 he).2 t ht, h.2 t ht, Nat.le_trans (zc6 ht) hw⟩
theorem zu7 {o : Og} {l : Li} (h : zev o l.atom = true) (hw : l.atom.wt <= 1048575) : ∀ t ∈ mlI l, ET o t := fun t ht => by
 unfold mlI at ht
 split at ht
 ·exact zm0 h hw t ht
 ·exact (List.mem_append.1 ht).elim (zm0 h hw t) (zm0 h hw t)
theorem zy4 {o : Og} {l : Li} (h : zev o l.atom = true) : (mlI l).length <= 4 := by
 have hb : (mlB l).length = 2 := by
  unfold zev at h
  rw [Bool.and_eq_true] at h
  unfold mlB
  split
  ·next he => exact (zdo h.1 he).1
  ·rfl
 unfold mlI
 split
 ·omega
 ·rw [List.length_append]; omega
theorem zif (o : Og) (ho : o.ok = true) (a b : Li) (ha : zev o a.atom = true) (hb : zev o b.atom = true) (hwa : a.atom.wt <= 1048575) (hwb : b.atom.wt <= 1048575) : FC Tryz.prog 62 [ogD o, liD a, liD b] [iD (zd4 o (mlI a) (mlI b))] := by
 have la := zy4 ha
 have lb := zy4 hb
 have HA := zjw a (by have := Tm.wt_eq a.atom; omega)
 have HB := zjw b (by have := Tm.wt_eq b.atom; omega)
 have HC := zc9 o ho (mlI a) (mlI b) (zu7 ha hwa) (zu7 hb hwb) (by omega) (by omega)
 generalize mlI a = x at HA HC ⊢
 generalize mlI b = y at HB HC ⊢
 simp only [ogD, zax] at HC ⊢
 simp only [liD, zcw] at HA HB ⊢
 refine zan Tryz.call62 Tryz.func62 rfl (by kernel_rfl) (za2 (by kernel_rfl)) ?_
 simp -implicitDefEqProofs only [go_sem, Tryz.results62]
 refine drawn (by kernel_rfl) ?_
 simp -implicitDefEqProofs only [go_sem]
 refine zrx HA (by simp -implicitDefEqProofs only [go_sem]) ?_
 simp -implicitDefEqProofs only [go_sem]
 refine zrx HB (by simp -implicitDefEqProofs only [go_sem]) ?_
 simp -implicitDefEqProofs only [go_sem]
 refine zau (HC) (by simp -implicitDefEqProofs only [go_sem]) ?_
 simp -implicitDefEqProofs only [go_sem]
 kernel_rfl
end Go.Proofs.YtaaniggpnljckaaGreat
namespace Go.Proofs.YtaaniggpnljckaaGreat
set_option linter.unusedSimpArgs false
set_option linter.unusedVariables false
set_option linter.unusedSectionVars false
set_option maxRecDepth 4000
open Go.RowKit
noncomputable def cvC (o : Og) (ls : List Li) : Bool := ls.all fun l => zev o l.atom
theorem zi3 (o : Og) (c : Cq) (hw : ∀ l ∈ c.lits, l.atom.wt <= 1048576) : FC Tryz.prog 24 [ogD o, cqD c] [bD (cvC o c.lits)] := by
 have H1 : ∀ l ∈ c.lits, FC Tryz.prog 59 [liD l, .one (ogP o)] [bD (!zev o l.atom)] := fun l hl => by
  have HC := zlp o l.atom (hw l hl)
  simp only [ogD, zax] at HC
  simp only [tmD, zaa l.atom] at HC
  simp only [liD, zcw, ogP, zax]
  refine zan Tryz.call59 Tryz.func59 rfl (by kernel_rfl) (za2 (by kernel_rfl)) ?_
  simp -implicitDefEqProofs only [go_sem, Tryz.results59]
  refine callF (HC) (by simp -implicitDefEqProofs only [go_sem]) ?_
  simp -implicitDefEqProofs only [go_sem]
 have HF := zda c.lits (fun l => !zev o l.atom) _ [ogP o] H1
 rw [cvC, <- zhw]
 generalize (c.lits.any fun l => !zev o l.atom) = z at HF ⊢
 simp only [ogP, zax] at HF
 simp only [ogD, zax, cqD, zpw]
 refine zan Tryz.call24 Tryz.func24 rfl (by kernel_rfl) (za2 (by kernel_rfl)) ?_
 simp -implicitDefEqProofs only [go_sem, Tryz.results24]
 refine callF (HF) (by simp -implicitDefEqProofs only [go_sem]) ?_
 simp -implicitDefEqProofs only [go_sem]
noncomputable def qd0 (f : Li -> List Tm) (o : Og) (ls : List Li) (l : Li) : Bool := ls.any fun x => zd4 o (f x) (f l) == 2
noncomputable def mxL (f : Li -> List Tm) (o : Og) (ls : List Li) : Nat -> List Int
 | 0 => []
 | k + 1 => if qd0 f o ls (ls.getD k ⟨true, .mk [] []⟩) = true then mxL f o ls k else mxL f o ls k ++ [(k : Int)]
theorem zj4 (f : Li -> List Tm) (o : Og) (ls : List Li) : ∀ k, (mxL f o ls k).length <= k
 | 0 => Nat.le_refl _
 | k + 1 => by
  have := zj4 f o ls k
  rw [mxL]
  split
  ·omega
  ·rw [List.length_append, List.length_singleton]; omega
theorem zyr {f : Li -> List Tm} {o : Og} {ls : List Li} {k : Nat} (h : k < ls.length) : mxL f o ls (k + 1) = if qd0 f o ls ls[k] = true then mxL f o ls k else mxL f o ls k ++ [(k : Int)] := by
 rw [mxL, List.getD_eq_getElem?_getD, List.getElem?_eq_getElem h]; rfl
theorem zy0 (o : Og) (ho : o.ok = true) (c : Cq) (hc : cvC o c.lits = true) (hw : ∀ l ∈ c.lits, l.atom.wt <= 1048575) (hl : c.lits.length <= 1048576) : FC Tryz.prog 25 [ogD o, cqD c] [.one (ze4 (mxL mlI o c.lits c.lits.length))] := by
 have hcv : ∀ l ∈ c.lits, zev o l.atom = true := fun l h => List.all_eq_true.1 hc l h
 have H1 : ∀ l ∈ c.lits, ∀ x ∈ c.lits, FC Tryz.prog 61 [liD x, .one (ogP o), .one (.ptr (liC l))] [bD (zd4 o (mlI x) (mlI l) == 2)] := fun l hl x hx => by
  have HC := zif o ho x l (hcv x hx) (hcv l hl) (hw x hx) (hw l hl)
  simp only [ogD, zax, liD, zcw] at HC
  simp only [liD, zcw, ogP, zax]
  refine zan Tryz.call61 Tryz.func61 rfl (by kernel_rfl) (za2 (by kernel_rfl)) ?_
  simp -implicitDefEqProofs only [go_sem, Tryz.results61]
  refine callF (HC) (by simp -implicitDefEqProofs only [go_sem]) ?_
  simp -implicitDefEqProofs only [go_sem]
 have HF := fun l hl => zda c.lits (fun x => zd4 o (mlI x) (mlI l) == 2) _ [ogP o, .ptr (liC l)] (H1 l hl)
 simp only [ogP, zax] at HF
 simp only [ogD, zax, cqD, zpw]
 generalize c.lits = ls at hl HF ⊢
 refine zan Tryz.call25 Tryz.func25 rfl (by kernel_rfl) (za2 (by kernel_rfl)) ?_
 simp -implicitDefEqProofs only [go_sem, Tryz.results25]
 refine zay (by simp -implicitDefEqProofs only [go_sem]) ?_
 simp -implicitDefEqProofs only [go_sem]
 refine zaj (fun k : Nat => hd [(2, .one (.bx 2 0)), (3, .one (.bx 3 0)), (5, .one (.ow 256 0)), (10, vT (liS ls)), (11, vI ls.length), (12, vI k)] [(2, [.t (zb6 o.syms), .t (ze4 o.wts), .t (.int .i64 o.vr)]), (3, [.t (liS ls)])] [(256, ⟨true, 1, (mxL mlI o ls k).map fun s => [.int .i64 s], 0, true⟩)]) (fun k => k <= ls.length) (fun k => ls.length - k) 0 (zab ?_) (Nat.zero_le _) ?_
 ·simp -implicitDefEqProofs only [go_sem, mxL, List.map_nil]
 ·intro k hk
  by_cases hlt : k < ls.length
  ·have hm := zyr (f := mlI) (o := o) hlt
   have hml := zj4 mlI o ls k
   have ha1 : (mxL mlI o ls k).length <= 4294967295 := by omega
   have HF := HF ls[k] (List.getElem_mem hlt)
   have hgr : (ls.any fun x => zd4 o (mlI x) (mlI ls[k]) == 2) = qd0 mlI o ls ls[k] := rfl
   rw [hgr] at HF
   simp only [zcw ls[k]] at HF
   cases hg : qd0 mlI o ls ls[k]
   ·rw [hg] at HF hm
    simp only [Bool.false_eq_true, if_false] at hm
    simp -implicitDefEqProofs only [go_sem, hlt, zaf, zcw ls[k]]
    refine callF (HF) (by simp -implicitDefEqProofs only [go_sem]) ?_
    simp -implicitDefEqProofs only [go_sem]
    refine zay (by simp -implicitDefEqProofs only [go_sem]) ?_
    simp -implicitDefEqProofs only [go_sem]
    refine apD true (by simp -implicitDefEqProofs only [go_sem, ne_eq, List.length_map, ha1]) ?_
    simp -implicitDefEqProofs only [go_sem, ne_eq, List.length_map, ha1]
    refine ⟨k + 1, hlt, by omega, zab ?_⟩
    simp -implicitDefEqProofs only [go_sem]
    rw [zaq (by omega), hm, List.map_append, List.map_singleton]
    exact ⟨rfl, rfl⟩
   ·rw [hg] at HF hm
    simp only [if_true] at hm
    simp -implicitDefEqProofs only [go_sem, hlt, zaf, zcw ls[k]]
    refine callF (HF) (by simp -implicitDefEqProofs only [go_sem]) ?_
    simp -implicitDefEqProofs only [go_sem]
    refine ⟨k + 1, hlt, by omega, zab ?_⟩
    simp -implicitDefEqProofs only [go_sem]
    rw [zaq (by omega), hm]
    exact ⟨rfl, rfl⟩
  ·obtain rfl : k = ls.length := by omega
   simp -implicitDefEqProofs only [go_sem, hlt]
noncomputable def znv (o : Og) (c : Cq) : Bool := o.ok && decide (c.lits.length <= 8) && cvC o c.lits
noncomputable def mxR (o : Og) (c : Cq) : List Int := if znv o c = true then mxL mlI o c.lits c.lits.length else []
theorem zgd (o : Og) (c : Cq) (hw : ∀ l ∈ c.lits, l.atom.wt <= 1048575) (hl : c.lits.length <= 1048576) : FC Tryz.prog 10 [ogD o, cqD c] [.one (ze4 (mxR o c)), bD (znv o c)] := by
 have HO := zdq o
 have HC := zi3 o c (fun l h => Nat.le_trans (hw l h) (by omega))
 have HM := fun h1 h2 => zy0 o h1 c h2 hw hl
 have hv : znv o c = (o.ok && decide (c.lits.length <= 8) && cvC o c.lits) := rfl
 have hr : mxR o c = if znv o c = true then mxL mlI o c.lits c.lits.length else [] := rfl
 rw [hr, hv]
 clear hr hv
 simp only [ogD, zax, cqD, zpw] at HO HC HM ⊢
 generalize c.lits = ls at HC HM hl ⊢
 cases h0 : o.ok
 ·rw [h0] at HO
  refine zfn Tryz.call10 Tryz.func10 rfl (by kernel_rfl) (za2 (by kernel_rfl)) ?_
  simp -implicitDefEqProofs only [go_sem, Tryz.results10]
  refine callF (HO) (by simp -implicitDefEqProofs only [go_sem]) ?_
  simp -implicitDefEqProofs only [go_sem]
  try rfl
 ·rw [h0] at HO
  by_cases h8 : ls.length <= 8
  ·have h8' : ((8 : Int) < (ls.length : Int)) = False := eq_false (by omega)
   rw [decide_eq_true h8]
   cases h1 : cvC o ls
   ·rw [h1] at HC
    refine zfn Tryz.call10 Tryz.func10 rfl (by kernel_rfl) (za2 (by kernel_rfl)) ?_
    simp -implicitDefEqProofs only [go_sem, Tryz.results10]
    refine callF (HO) (by simp -implicitDefEqProofs only [go_sem, h8']) ?_
    simp -implicitDefEqProofs only [go_sem, h8']
    refine callF (HC) (by simp -implicitDefEqProofs only [go_sem]) ?_
    simp -implicitDefEqProofs only [go_sem]
    try rfl
   ·rw [h1] at HC
    have HM := HM h0 h1
    simp only [Bool.and_self, if_true]
    refine zfn Tryz.call10 Tryz.func10 rfl (by kernel_rfl) (za2 (by kernel_rfl)) ?_
    simp -implicitDefEqProofs only [go_sem, Tryz.results10]
    refine callF (HO) (by simp -implicitDefEqProofs only [go_sem, h8']) ?_
    simp -implicitDefEqProofs only [go_sem, h8']
    refine callF (HC) (by simp -implicitDefEqProofs only [go_sem]) ?_
    simp -implicitDefEqProofs only [go_sem]
    refine callF (HM) (by simp -implicitDefEqProofs only [go_sem]) ?_
    simp -implicitDefEqProofs only [go_sem]
    try rfl
  ·have h8' : ((8 : Int) < (ls.length : Int)) = True := eq_true (by omega)
   rw [decide_eq_false h8]
   refine zfn Tryz.call10 Tryz.func10 rfl (by kernel_rfl) (za2 (by kernel_rfl)) ?_
   simp -implicitDefEqProofs only [go_sem, Tryz.results10]
   refine callF (HO) (by simp -implicitDefEqProofs only [go_sem, h8']) ?_
   simp -implicitDefEqProofs only [go_sem, h8']
   try rfl
end Go.Proofs.YtaaniggpnljckaaGreat
namespace Go.Proofs.YtaaniggpnljckaaGreat
set_option linter.unusedSimpArgs false
set_option linter.unusedVariables false
set_option linter.unusedSectionVars false
set_option maxRecDepth 4000
open Go.RowKit
def qei (xs : List Tm) : List Tm := xs.flatMap fun x => [x, x]
def mlS (l : Li) : List Tm := if l.pos = true then mlB l else qei (mlB l)
theorem qfv {o : Og} {l : Li} (h : zev o l.atom = true) : (mlB l).length = 2 := by
 unfold zev at h
 rw [Bool.and_eq_true] at h
 unfold mlB
 split
 ·next he => exact (zdo h.1 he).1
 ·rfl
theorem qdq {o : Og} {l : Li} (h : zev o l.atom = true) (hw : l.atom.wt <= 1048575) : ∀ t ∈ mlS l, ET o t := fun t ht => by
 unfold mlS at ht
 split at ht
 ·exact zm0 h hw t ht
 ·unfold qei at ht
  obtain ⟨x, hx, ht⟩ := List.mem_flatMap.1 ht
  simp only [List.mem_cons, List.not_mem_nil, or_false] at ht
  rcases ht with rfl | rfl <;> exact zm0 h hw _ hx
theorem zy3 {o : Og} {l : Li} (h : zev o l.atom = true) : (mlS l).length <= 4 := by
 have := qfv h
 unfold mlS
 split
 ·omega
 ·unfold qei
  match hb : mlB l, this with
  | [a, b], _ => simp
theorem zrw : ∀ xs : List Tm, (qei xs).length = 2 * xs.length
 | [] => rfl
 | x :: xs => by
  have := zrw xs
  unfold qei at this ⊢
  simp only [List.flatMap_cons, List.length_append, List.length_cons, List.length_nil, this]; omega
def tkS (p : Bool) (xs : List Tm) (k : Nat) : List Tm := if p = true then xs.take k else qei (xs.take k)
theorem qca (p : Bool) (xs : List Tm) : tkS p xs 0 = [] := by unfold tkS qei; simp
theorem tkS_at {p : Bool} {xs : List Tm} {k : Nat} (h : k < xs.length) : tkS p xs (k + 1) = tkS p xs k ++ (if p = true then [xs[k]] else [xs[k], xs[k]]) := by
 unfold tkS qei
 cases p
 ·show List.flatMap _ (xs.take (k + 1)) = List.flatMap _ (xs.take k) ++ [xs[k], xs[k]]
  rw [List.take_succ_eq_append_getElem h, List.flatMap_append]; rfl
 ·show xs.take (k + 1) = xs.take k ++ [xs[k]]
  rw [List.take_succ_eq_append_getElem h]
theorem qfz (p : Bool) (xs : List Tm) (k : Nat) : (tkS p xs k).length <= 2 * k := by
 have h1 : (xs.take k).length <= k := by rw [List.length_take]; omega
 have h2 := zrw (xs.take k)
 unfold tkS
 split
 ·omega
 ·omega
def cvE (o : Og) (t : Tm) : Bool := t.name == [] || o.cov t
theorem qfg {o : Og} {l : Li} (h : l.atom.atomOk = true) : zev o l.atom = (mlB l).all (cvE o) := by
 unfold zev mlB
 rw [h, Bool.true_and]
 cases he : (l.atom.name == [61])
 ·have hn := (zwk (zh6 h he)).1
  have h0 : (l.atom.name == []) = false := by cases hq : l.atom.name; rw [hq] at hn; simp at hn; rfl
  simp only [Bool.false_eq_true, if_false, List.all_cons, List.all_nil, cvE, h0, Bool.false_or]
  have : ((Tm.mk [] []).name == []) = true := rfl
  rw [this]; simp
 ·simp only [if_true]
  have hn := (zdo h he).2
  rw [Bool.eq_iff_iff, List.all_eq_true, List.all_eq_true]
  have h0 : ∀ x ∈ l.atom.args, (x.name == []) = false := fun x hx => by
   have hn := (zwk (hn x hx)).1
   cases hq : x.name
   ·rw [hq] at hn; simp at hn
   ·rfl
  constructor
  ·intro q x hx
   unfold cvE; rw [h0 x hx, q x hx]; rfl
  ·intro q x hx
   have := q x hx
   unfold cvE at this; rwa [h0 x hx, Bool.false_or] at this
theorem qcl {l : Li} (h : l.atom.atomOk = true) : (mlB l).length = 2 := by
 unfold mlB
 split
 ·next he => exact (zdo h he).1
 ·rfl
theorem mlB_wt {l : Li} {W : Nat} (h : l.atom.wt <= W) : ∀ t ∈ mlB l, t.wt <= W := fun t ht => by
 unfold mlB at ht
 split at ht
 ·exact Nat.le_trans (zc6 ht) h
 ·simp only [List.mem_cons, List.not_mem_nil, or_false] at ht
  rcases ht with rfl | rfl
  ·exact h
  ·exact Nat.zero_le _
noncomputable def lsR (o : Og) (l : Li) : List Tm := if zev o l.atom = true then mlS l else []
set_option maxHeartbeats 2000000 in
theorem zo1 (o : Og) (ho : o.syms.length <= 1048576) (l : Li) (hw : l.atom.wt <= 1048576) : RC Tryz.prog 26 [ogD o, liD l] [.one (tmS (lsR o l)), bD (zev o l.atom)] := by
 have HA := qct l.atom (by omega)
 have hz : tmC (.mk [] []) = [.str [], .sl 2 []] := rfl
 have hcv : zev o l.atom = (l.atom.atomOk && (if (l.atom.name == [61]) = true then l.atom.args.all o.cov else o.cov l.atom)) := rfl
 have hr : lsR o l = if zev o l.atom = true then mlS l else [] := rfl
 cases h1 : l.atom.atomOk
 ·rw [h1] at HA
  rw [h1, Bool.false_and] at hcv
  rw [hcv] at hr ⊢
  rw [hr]
  simp only [tmD, zaa l.atom] at HA
  simp only [ogD, zax, liD, zcw]
  refine zfj Tryz.call26 Tryz.func26 rfl (by kernel_rfl) (za2 (by kernel_rfl)) ?_
  simp -implicitDefEqProofs only [go_sem, Tryz.results26]
  refine callF (HA) (by simp -implicitDefEqProofs only [go_sem]) ?_
  simp -implicitDefEqProofs only [go_sem]
  refine ze2 (by simp -implicitDefEqProofs only [go_sem]) ?_
  simp -implicitDefEqProofs only [go_sem]
  rfl
 rw [h1] at HA
 have hall := qfg (o := o) h1
 have hbl := qcl h1
 have hbw := mlB_wt hw
 have hms : mlS l = tkS l.pos (mlB l) 2 := by
  unfold mlS tkS
  rw [List.take_of_length_le (by omega)]
 have hv0 : (mlB l).all (cvE o) = ((mlB l).drop 0).all (cvE o) := rfl
 have HCv := fun x (hx : x ∈ mlB l) => zjd o ho x (hbw x hx)
 have hpos : ∀ b, l.pos = b -> RC Tryz.prog 26 [ogD o, liD l] [.one (tmS (lsR o l)), bD (zev o l.atom)] := fun b hb => by
  rw [hr, hms, hall]
  clear hr hms hall hcv
  have hmb : mlB l = if (l.atom.name == [61]) = true then l.atom.args else [l.atom, .mk [] []] := rfl
  generalize mlB l = xs at hbl hbw hv0 HCv hmb ⊢
  simp only [ogD, zax] at HCv ⊢
  simp only [tmD, zaa l.atom] at HA
  simp only [liD, zcw]
  cases he : (l.atom.name == [61])
  case' false =>
   rw [he] at hmb
   have hmc : xs.map tmC = [[.str l.atom.name, .sl 2 (l.atom.args.map tmC)], [.str [], .sl 2 []]] := by rw [hmb]; simp only [Bool.false_eq_true, if_false, List.map_cons, List.map_nil, hz, zaa l.atom]
   refine zfj Tryz.call26 Tryz.func26 rfl (by kernel_rfl) (za2 (by kernel_rfl)) ?_
   simp -implicitDefEqProofs only [go_sem, Tryz.results26]
   refine callF (HA) (by simp -implicitDefEqProofs only [go_sem]) ?_
   simp -implicitDefEqProofs only [go_sem]
   refine ze2 (by simp -implicitDefEqProofs only [go_sem, he]) ?_
   simp -implicitDefEqProofs only [go_sem, he]
   refine zco (by simp -implicitDefEqProofs only [go_sem]) ?_
   simp -implicitDefEqProofs only [go_sem]
  case' true =>
   rw [he] at hmb
   have hmc : xs.map tmC = l.atom.args.map tmC := by rw [hmb]; rfl
   refine zfj Tryz.call26 Tryz.func26 rfl (by kernel_rfl) (za2 (by kernel_rfl)) ?_
   simp -implicitDefEqProofs only [go_sem, Tryz.results26]
   refine callF (HA) (by simp -implicitDefEqProofs only [go_sem]) ?_
   simp -implicitDefEqProofs only [go_sem]
   refine ze2 (by simp -implicitDefEqProofs only [go_sem, he]) ?_
   simp -implicitDefEqProofs only [go_sem, he]
   refine zco (by simp -implicitDefEqProofs only [go_sem]) ?_
   simp -implicitDefEqProofs only [go_sem]
  all_goals
   refine zaj (fun k : Nat => hd [(2, .one (.bx 2 0)), (3, .one (.bx 3 0)), (6, vT (tmS xs)), (7, .one (.ow 800 0)), (8, vI k)] [(2, [.t (zb6 o.syms), .t (ze4 o.wts), .t (.int .i64 o.vr)]), (3, [.t (.bool b), .t (.str l.atom.name), .t (tmS l.atom.args)])] [(800, ⟨false, 2, (tkS b xs k).map tmC, 0, true⟩)]) (fun k => k <= 2 /\ xs.all (cvE o) = (xs.drop k).all (cvE o)) (fun k => 2 - k) 0 (zab ?_) ⟨Nat.zero_le _, hv0⟩ ?_
   ·simp -implicitDefEqProofs only [go_sem, qca, List.map_nil, hb]
    show _ = T.sl 2 (xs.map tmC)
    rw [hmc]
   ·intro k ⟨hk, hrr⟩
    by_cases hlt : k < 2
    ·have hlx : k < xs.length := by omega
     have hk2 : ((k : Int) < 2) = True := eq_true (by omega)
     rw [zjt hlx] at hrr
     have HC := HCv xs[k] (List.getElem_mem hlx)
     simp only [tmD, zaa xs[k]] at HC
     have htk := tkS_at (p := b) hlx
     have htl := qfz b xs k
     have ha1 : (tkS b xs k).length <= 4294967295 := by omega
     have ha2 : (tkS b xs k).length + 1 <= 4294967295 := by omega
     have ha3 : (tkS b xs k).length + 1 <= 4294967296 := by omega
     cases hn : (xs[k].name == [])
     ·cases hcx : o.cov xs[k]
      ·have hce : cvE o xs[k] = false := by unfold cvE; rw [hn, hcx]; rfl
       rw [hcx] at HC
       rw [hce, Bool.false_and] at hrr
       rw [hrr]
       simp -implicitDefEqProofs only [go_sem, hk2]
       refine drawn (by kernel_rfl) ?_
       simp -implicitDefEqProofs only [go_sem, hlx, zaf, zaa xs[k], hn, Bool.not_false]
       refine zb3 (HC) (by simp -implicitDefEqProofs only [go_sem]) ?_
       simp -implicitDefEqProofs only [go_sem]
       refine ⟨by kernel_rfl, ?_⟩
       refine ze2 (by simp -implicitDefEqProofs only [go_sem]) ?_
       simp -implicitDefEqProofs only [go_sem]
       rfl
      ·have hce : cvE o xs[k] = true := by unfold cvE; rw [hn, hcx]; rfl
       rw [hcx] at HC
       rw [hce, Bool.true_and] at hrr
       cases b
       ·simp -implicitDefEqProofs only [go_sem, hk2]
        refine drawn (by kernel_rfl) ?_
        simp -implicitDefEqProofs only [go_sem, hlx, zaf, zaa xs[k], hn, Bool.not_false]
        refine zb3 (HC) (by simp -implicitDefEqProofs only [go_sem]) ?_
        simp -implicitDefEqProofs only [go_sem]
        refine ⟨by kernel_rfl, ?_⟩
        simp -implicitDefEqProofs only [go_sem, hlx, zaf, zaa xs[k]]
        refine zco (by simp -implicitDefEqProofs only [go_sem]) ?_
        simp -implicitDefEqProofs only [go_sem]
        refine apD false (by simp -implicitDefEqProofs only [go_sem, ne_eq, List.length_map, ha1, hlx, zaf, zaa xs[k]]) ?_
        simp -implicitDefEqProofs only [go_sem, ne_eq, List.length_map, ha1, hlx, zaf, zaa xs[k]]
        refine zco (by simp -implicitDefEqProofs only [go_sem]) ?_
        simp -implicitDefEqProofs only [go_sem]
        refine apD false (by simp -implicitDefEqProofs only [go_sem, ne_eq, List.length_map, ha1, ha2, ha3, List.length_append, List.length_singleton]) ?_
        simp -implicitDefEqProofs only [go_sem, ne_eq, List.length_map, ha1, ha2, ha3, List.length_append, List.length_singleton]
        refine ⟨k + 1, ⟨by omega, hrr⟩, by omega, zab ?_⟩
        simp -implicitDefEqProofs only [go_sem]
        rw [zaq (by omega), htk, if_neg (by simp), List.map_append, List.map_cons, List.map_singleton, zaa xs[k], List.append_assoc]
        exact ⟨rfl, rfl⟩
       ·simp -implicitDefEqProofs only [go_sem, hk2]
        refine drawn (by kernel_rfl) ?_
        simp -implicitDefEqProofs only [go_sem, hlx, zaf, zaa xs[k], hn, Bool.not_false]
        refine zb3 (HC) (by simp -implicitDefEqProofs only [go_sem]) ?_
        simp -implicitDefEqProofs only [go_sem]
        refine ⟨by kernel_rfl, ?_⟩
        simp -implicitDefEqProofs only [go_sem, hlx, zaf, zaa xs[k]]
        refine zco (by simp -implicitDefEqProofs only [go_sem]) ?_
        simp -implicitDefEqProofs only [go_sem]
        refine apD false (by simp -implicitDefEqProofs only [go_sem, ne_eq, List.length_map, ha1]) ?_
        simp -implicitDefEqProofs only [go_sem, ne_eq, List.length_map, ha1]
        refine ⟨k + 1, ⟨by omega, hrr⟩, by omega, zab ?_⟩
        simp -implicitDefEqProofs only [go_sem]
        rw [zaq (by omega), htk, if_pos rfl, List.map_append, List.map_singleton, zaa xs[k]]
        exact ⟨rfl, rfl⟩
     ·have hce : cvE o xs[k] = true := by unfold cvE; rw [hn]; rfl
      rw [hce, Bool.true_and] at hrr
      cases b
      ·simp -implicitDefEqProofs only [go_sem, hk2]
       refine drawn (by kernel_rfl) ?_
       simp -implicitDefEqProofs only [go_sem, hlx, zaf, zaa xs[k], hn, Bool.not_true]
       refine ⟨by kernel_rfl, ?_⟩
       refine zco (by simp -implicitDefEqProofs only [go_sem]) ?_
       simp -implicitDefEqProofs only [go_sem]
       refine apD false (by simp -implicitDefEqProofs only [go_sem, ne_eq, List.length_map, ha1, hlx, zaf, zaa xs[k]]) ?_
       simp -implicitDefEqProofs only [go_sem, ne_eq, List.length_map, ha1, hlx, zaf, zaa xs[k]]
       refine zco (by simp -implicitDefEqProofs only [go_sem]) ?_
       simp -implicitDefEqProofs only [go_sem]
       refine apD false (by simp -implicitDefEqProofs only [go_sem, ne_eq, List.length_map, ha1, ha2, ha3, List.length_append, List.length_singleton]) ?_
       simp -implicitDefEqProofs only [go_sem, ne_eq, List.length_map, ha1, ha2, ha3, List.length_append, List.length_singleton]
       refine ⟨k + 1, ⟨by omega, hrr⟩, by omega, zab ?_⟩
       simp -implicitDefEqProofs only [go_sem]
       rw [zaq (by omega), htk, if_neg (by simp), List.map_append, List.map_cons, List.map_singleton, zaa xs[k], List.append_assoc]
       exact ⟨rfl, rfl⟩
      ·simp -implicitDefEqProofs only [go_sem, hk2]
       refine drawn (by kernel_rfl) ?_
       simp -implicitDefEqProofs only [go_sem, hlx, zaf, zaa xs[k], hn, Bool.not_true]
       refine ⟨by kernel_rfl, ?_⟩
       refine zco (by simp -implicitDefEqProofs only [go_sem]) ?_
       simp -implicitDefEqProofs only [go_sem]
       refine apD false (by simp -implicitDefEqProofs only [go_sem, ne_eq, List.length_map, ha1]) ?_
       simp -implicitDefEqProofs only [go_sem, ne_eq, List.length_map, ha1]
       refine ⟨k + 1, ⟨by omega, hrr⟩, by omega, zab ?_⟩
       simp -implicitDefEqProofs only [go_sem]
       rw [zaq (by omega), htk, if_pos rfl, List.map_append, List.map_singleton, zaa xs[k]]
       exact ⟨rfl, rfl⟩
    ·obtain rfl : k = 2 := by omega
     rw [List.drop_of_length_le (by omega), List.all_nil] at hrr
     rw [hrr, if_pos rfl, hb]
     simp -implicitDefEqProofs only [go_sem]
 exact hpos _ rfl
end Go.Proofs.YtaaniggpnljckaaGreat
namespace Go.Proofs.YtaaniggpnljckaaGreat
set_option linter.unusedSimpArgs false
set_option linter.unusedVariables false
set_option linter.unusedSectionVars false
set_option maxRecDepth 4000
open Go.RowKit
noncomputable def mxS (o : Og) (c : Cq) : List Int := if znv o c = true then mxL mlS o c.lits c.lits.length else []
abbrev sxB (o : Og) (ls : List Li) : List (Nat × List C) := [(2, [.t (zb6 o.syms), .t (ze4 o.wts), .t (.int .i64 o.vr)]), (3, [.t (liS ls)])]
abbrev sxR (ls : List Li) (k : Nat) : List (List T) := (ls.take k).map fun l => [tmS (mlS l)]
theorem qd2 (ls : List Li) {k : Nat} (h : k < ls.length) : (ls.map fun l => [tmS (mlS l)]).getD k [] = [tmS (mlS ls[k])] := zaf (fun l => [tmS (mlS l)]) ls k h
set_option maxHeartbeats 4000000 in
theorem qad (o : Og) (hol : o.syms.length <= 1048576) (c : Cq) (hw : ∀ l ∈ c.lits, l.atom.wt <= 1048575) (hl : c.lits.length <= 1048576) : FC Tryz.prog 11 [ogD o, cqD c] [.one (ze4 (mxS o c)), bD (znv o c)] := by
 have HO := zpz o
 have HL := fun l (h : l ∈ c.lits) => zo1 o hol l (Nat.le_trans (hw l h) (by omega))
 have HM : o.ok = true -> ∀ a b : Li, zev o a.atom = true -> zev o b.atom = true -> a.atom.wt <= 1048575 -> b.atom.wt <= 1048575 -> _ := fun h0 a b ha hb wa wb => zmk o h0 (mlS a) (mlS b) (qdq ha wa) (qdq hb wb) (Nat.le_trans (zy3 ha) (by omega)) (Nat.le_trans (zy3 hb) (by omega))
 have hv : znv o c = (o.ok && decide (c.lits.length <= 8) && cvC o c.lits) := rfl
 have hr : mxS o c = if znv o c = true then mxL mlS o c.lits c.lits.length else [] := rfl
 rw [hr, hv]
 clear hr hv
 simp only [ogD, zax] at HO HL HM ⊢
 simp only [cqD, zpw]
 generalize c.lits = ls at HL hl hw ⊢
 cases h0 : o.ok
 ·rw [h0] at HO
  refine zan Tryz.call11 Tryz.func11 rfl (by kernel_rfl) (za2 (by kernel_rfl)) ?_
  simp -implicitDefEqProofs only [go_sem, Tryz.results11]
  refine callF (HO) (by simp -implicitDefEqProofs only [go_sem]) ?_
  simp -implicitDefEqProofs only [go_sem]
  refine zay (by simp -implicitDefEqProofs only [go_sem]) ?_
  simp -implicitDefEqProofs only [go_sem]
  try rfl
 rw [h0] at HO
 by_cases h8 : ls.length <= 8
 case neg =>
  have h8' : ((8 : Int) < (ls.length : Int)) = True := eq_true (by omega)
  rw [decide_eq_false h8]
  refine zan Tryz.call11 Tryz.func11 rfl (by kernel_rfl) (za2 (by kernel_rfl)) ?_
  simp -implicitDefEqProofs only [go_sem, Tryz.results11]
  refine callF (HO) (by simp -implicitDefEqProofs only [go_sem, h8']) ?_
  simp -implicitDefEqProofs only [go_sem, h8']
  refine zay (by simp -implicitDefEqProofs only [go_sem]) ?_
  simp -implicitDefEqProofs only [go_sem]
  try rfl
 have h8' : ((8 : Int) < (ls.length : Int)) = False := eq_false (by omega)
 have hv0 : cvC o ls = (ls.drop 0).all fun l => zev o l.atom := rfl
 have hp0 : ∀ l ∈ ls.take 0, zev o l.atom = true := by simp
 rw [decide_eq_true h8]
 simp only [Bool.true_and]
 refine zan Tryz.call11 Tryz.func11 rfl (by kernel_rfl) (za2 (by kernel_rfl)) ?_
 simp -implicitDefEqProofs only [go_sem, Tryz.results11]
 refine callF (HO) (by simp -implicitDefEqProofs only [go_sem, h8']) ?_
 simp -implicitDefEqProofs only [go_sem, h8']
 refine zco (by simp -implicitDefEqProofs only [go_sem]) ?_
 simp -implicitDefEqProofs only [go_sem]
 refine zaj (fun k : Nat => hd [(2, .one (.bx 2 0)), (3, .one (.bx 3 0)), (6, .one (.ow 768 0)), (7, vI k)] (sxB o ls) [(768, ⟨false, 1, sxR ls k, 0, true⟩)]) (fun k => k <= ls.length /\ cvC o ls = ((ls.drop k).all fun l => zev o l.atom) /\ ∀ l ∈ ls.take k, zev o l.atom = true) (fun k => ls.length - k) 0 (zab ?_) ⟨Nat.zero_le _, hv0, hp0⟩ ?_
 ·simp -implicitDefEqProofs only [go_sem, sxR, List.take_zero, List.map_nil]
 intro k ⟨hk, hrr, hpp⟩
 by_cases hlt : k < ls.length
 ·rw [zjt hlt] at hrr
  have HL := HL ls[k] (List.getElem_mem hlt)
  have hls : lsR o ls[k] = if zev o ls[k].atom = true then mlS ls[k] else [] := rfl
  simp only [liD, zcw ls[k]] at HL
  have ha1 : k <= 4294967295 := by omega
  cases hc : zev o ls[k].atom
  ·rw [hc] at HL hrr hls
   rw [Bool.false_and] at hrr
   simp only [Bool.false_eq_true, if_false] at hls
   rw [hls] at HL
   rw [hrr]
   simp -implicitDefEqProofs only [go_sem, hlt]
   refine drawn (by kernel_rfl) ?_
   simp -implicitDefEqProofs only [go_sem, hlt, zaf, zcw ls[k]]
   refine zrx HL (by simp -implicitDefEqProofs only [go_sem]) ?_
   simp -implicitDefEqProofs only [go_sem]
   refine ⟨by kernel_rfl, ?_⟩
   refine zay (by simp -implicitDefEqProofs only [go_sem]) ?_
   simp -implicitDefEqProofs only [go_sem]
   try rfl
  ·rw [hc] at HL hrr hls
   rw [Bool.true_and] at hrr
   simp only [if_true] at hls
   rw [hls] at HL
   have hpn : ∀ l ∈ ls.take (k + 1), zev o l.atom = true := fun l hl => by
    rw [List.take_succ_eq_append_getElem hlt] at hl
    rcases List.mem_append.1 hl with h | h
    ·exact hpp l h
    ·rw [List.mem_singleton.1 h]; exact hc
   have hlk : (ls.take k).length = k := by rw [List.length_take]; omega
   simp -implicitDefEqProofs only [go_sem, hlt]
   refine drawn (by kernel_rfl) ?_
   simp -implicitDefEqProofs only [go_sem, hlt, zaf, zcw ls[k]]
   refine zrx HL (by simp -implicitDefEqProofs only [go_sem]) ?_
   simp -implicitDefEqProofs only [go_sem]
   refine ⟨by kernel_rfl, ?_⟩
   refine zco (by simp -implicitDefEqProofs only [go_sem]) ?_
   simp -implicitDefEqProofs only [go_sem]
   refine apD false (by simp -implicitDefEqProofs only [go_sem, ne_eq, List.length_map, hlk, ha1]) ?_
   simp -implicitDefEqProofs only [go_sem, ne_eq, List.length_map, hlk, ha1]
   refine ⟨k + 1, ⟨hlt, hrr, hpn⟩, by omega, zab ?_⟩
   simp -implicitDefEqProofs only [go_sem]
   rw [zaq (by omega), sxR, List.take_succ_eq_append_getElem hlt, List.map_append, List.map_singleton]
   exact ⟨rfl, rfl⟩
 ·have hkl : k = ls.length := by omega
  rw [hkl] at hrr hpp ⊢
  rw [List.take_length] at hpp
  rw [List.drop_of_length_le (Nat.le_refl _), List.all_nil] at hrr
  rw [hrr]
  have hll : ¬ ls.length < ls.length := by omega
  have hsx : sxR ls ls.length = ls.map fun l => [tmS (mlS l)] := by rw [sxR, List.take_length]
  rw [hsx]
  simp only [if_true]
  have HM := fun a (ha : a ∈ ls) b (hb : b ∈ ls) => HM h0 a b (hpp a ha) (hpp b hb) (hw a ha) (hw b hb)
  simp -implicitDefEqProofs only [go_sem, hll]
  refine zay (by simp -implicitDefEqProofs only [go_sem]) ?_
  simp -implicitDefEqProofs only [go_sem]
  refine zaj (fun i : Nat => hd [(2, .one (.bx 2 0)), (6, .one (.ow 768 0)), (10, .one (.ow 1568 0)), (11, vI i)] (sxB o ls) [(768, ⟨false, 1, ls.map fun l => [tmS (mlS l)], 0, true⟩), (1568, ⟨true, 1, (mxL mlS o ls i).map fun s => [.int .i64 s], 0, true⟩)]) (fun i => i <= ls.length) (fun i => ls.length - i) 0 (zab ?_) (Nat.zero_le _) ?_
  ·simp -implicitDefEqProofs only [go_sem, mxL, List.map_nil]
  intro i hi
  by_cases hlt2 : i < ls.length
  ·have hm := zyr (f := mlS) (o := o) hlt2
   have hml := zj4 mlS o ls i
   have ha1 : (mxL mlS o ls i).length <= 4294967295 := by omega
   have hgr : qd0 mlS o ls ls[i] = ls.any fun x => zd4 o (mlS x) (mlS ls[i]) == 2 := rfl
   simp -implicitDefEqProofs only [go_sem, hlt2, List.length_map]
   refine zaj (fun k : Nat => hd [(2, .one (.bx 2 0)), (6, .one (.ow 768 0)), (10, .one (.ow 1568 0)), (11, vI i), (12, vB (!((ls.take k).any fun x => zd4 o (mlS x) (mlS ls[i]) == 2))), (13, vI k)] (sxB o ls) [(768, ⟨false, 1, ls.map fun l => [tmS (mlS l)], 0, true⟩), (1568, ⟨true, 1, (mxL mlS o ls i).map fun s => [.int .i64 s], 0, true⟩)]) (fun k => k <= ls.length) (fun k => ls.length - k) 0 (zab ?_) (Nat.zero_le _) ?_
   ·simp -implicitDefEqProofs only [go_sem, List.take_zero, List.any_nil, Bool.not_false]
   ·intro k hk
    by_cases hkl : k < ls.length
    ·have hnk := zj6 (p := fun x => zd4 o (mlS x) (mlS ls[i]) == 2) hkl
     have HM := HM ls[k] (List.getElem_mem hkl) ls[i] (List.getElem_mem hlt2)
     have hne : (zd4 o (mlS ls[k]) (mlS ls[i]) != 2) = !(zd4 o (mlS ls[k]) (mlS ls[i]) == 2) := rfl
     generalize ((ls.take k).any fun x => zd4 o (mlS x) (mlS ls[i]) == 2) = f at hnk ⊢
     generalize zd4 o (mlS ls[k]) (mlS ls[i]) = q at HM hnk hne
     cases f
     ·rw [Bool.false_or] at hnk
      simp -implicitDefEqProofs only [go_sem, hkl, List.length_map]
      refine drawn (by kernel_rfl) ?_
      simp -implicitDefEqProofs only [go_sem, hlt2, hkl, List.length_map, qd2 ls hkl, qd2 ls hlt2, Bool.not_false]
      refine zb3 (HM) (by simp -implicitDefEqProofs only [go_sem]) ?_
      simp -implicitDefEqProofs only [go_sem]
      refine ⟨by kernel_rfl, k + 1, hkl, by omega, zab ?_⟩
      simp -implicitDefEqProofs only [go_sem]
      rw [zaq (by omega), hnk, hne]
      exact ⟨rfl, rfl⟩
     ·rw [Bool.true_or] at hnk
      simp -implicitDefEqProofs only [go_sem, hkl, List.length_map]
      refine drawn (by kernel_rfl) ?_
      simp -implicitDefEqProofs only [go_sem, Bool.not_true]
      refine ⟨by kernel_rfl, k + 1, hkl, by omega, zab ?_⟩
      simp -implicitDefEqProofs only [go_sem]
      rw [zaq (by omega), hnk]
      exact ⟨rfl, rfl⟩
    ·rw [List.take_of_length_le (show ls.length <= k by omega), <- hgr]
     cases hg : qd0 mlS o ls ls[i]
     ·rw [hg, if_neg (by simp)] at hm
      simp -implicitDefEqProofs only [go_sem, hkl, Bool.not_false, List.length_map]
      refine zay (by simp -implicitDefEqProofs only [go_sem]) ?_
      simp -implicitDefEqProofs only [go_sem]
      refine apD true (by simp -implicitDefEqProofs only [go_sem, ne_eq, List.length_map, ha1]) ?_
      simp -implicitDefEqProofs only [go_sem, ne_eq, List.length_map, ha1]
      refine ⟨i + 1, hlt2, by omega, zab ?_⟩
      simp -implicitDefEqProofs only [go_sem]
      rw [zaq (by omega), hm, List.map_append, List.map_singleton]
      exact ⟨rfl, rfl⟩
     ·rw [hg, if_pos rfl] at hm
      simp -implicitDefEqProofs only [go_sem, hkl, Bool.not_true, List.length_map]
      refine ⟨i + 1, hlt2, by omega, zab ?_⟩
      simp -implicitDefEqProofs only [go_sem]
      rw [zaq (by omega), hm]
      exact ⟨rfl, rfl⟩
  ·obtain rfl : i = ls.length := by omega
   simp -implicitDefEqProofs only [go_sem, hlt2, List.length_map]
end Go.Proofs.YtaaniggpnljckaaGreat
namespace Go.Proofs.YtaaniggpnljckaaGreat
set_option linter.unusedSimpArgs false
set_option linter.unusedVariables false
set_option linter.unusedSectionVars false
set_option maxRecDepth 4000
open Go.RowKit
theorem qgi (c : Int) : FC Tryz.prog 8 [iD c] [iD (bck c)] := by
 unfold bck
 by_cases h2 : c = 2
 ·subst h2
  refine zan Tryz.call8 Tryz.func8 rfl (by kernel_rfl) (za2 (by kernel_rfl)) ?_
  simp -implicitDefEqProofs only [go_sem, Tryz.results8]
 ·have e2 : (c == 2) = false := by rw [beq_eq_false_iff_ne]; exact h2
  rw [if_neg h2]
  by_cases h3 : c = 3
  ·subst h3
   refine zan Tryz.call8 Tryz.func8 rfl (by kernel_rfl) (za2 (by kernel_rfl)) ?_
   simp -implicitDefEqProofs only [go_sem, Tryz.results8]
  ·have e3 : (c == 3) = false := by rw [beq_eq_false_iff_ne]; exact h3
   rw [if_neg h3]
   refine zan Tryz.call8 Tryz.func8 rfl (by kernel_rfl) (za2 (by kernel_rfl)) ?_
   simp -implicitDefEqProofs only [go_sem, Tryz.results8, e2, e3]
theorem zyw (o : Og) {a b : List Tm} (ha : ∀ x ∈ a, x.wt <= 1048575) (hb : ∀ x ∈ b, x.wt <= 1048575) : zf1 o b a = (bck (zf1 o a b).1, (zf1 o a b).2) := by
 unfold zf1
 by_cases h : (o.ok && (decide (a.length <= 8) && a.all (zdi o)) && (decide (b.length <= 8) && b.all (zdi o))) = true
 ·have h' : (o.ok && (decide (b.length <= 8) && b.all (zdi o)) && (decide (a.length <= 8) && a.all (zdi o))) = true := by
   simp only [Bool.and_eq_true] at h ⊢
   exact ⟨⟨h.1.1, h.2⟩, h.1.2⟩
  rw [if_pos h, if_pos h']
  simp only [Bool.and_eq_true] at h
  rw [zyz o (fun t ht => (zgi ha h.1.2.2 t ht).el) (fun t ht => (zgi hb h.2.2 t ht).el)]
 ·have h' : ¬ (o.ok && (decide (b.length <= 8) && b.all (zdi o)) && (decide (a.length <= 8) && a.all (zdi o))) = true := by
   intro h'
   apply h
   simp only [Bool.and_eq_true] at h' ⊢
   exact ⟨⟨h'.1.1, h'.2⟩, h'.1.2⟩
  rw [if_neg h, if_neg h']
  rfl
theorem qga {o : Og} {a b : List Tm} (h : (zf1 o a b).2 = true) : (o.ok = true /\ a.length <= 8 /\ a.all (zdi o) = true /\ b.length <= 8 /\ b.all (zdi o) = true) /\ zf1 o a b = (zd4 o a b, true) := by
 unfold zf1 at h ⊢
 split at h
 ·rename_i hc
  rw [if_pos hc]
  simp only [Bool.and_eq_true, decide_eq_true_eq] at hc
  exact ⟨⟨hc.1.1, hc.1.2.1, hc.1.2.2, hc.2.1, hc.2.2⟩, rfl⟩
 ·cases h
theorem qg2 {o : Og} {a b : List Tm} (h : (zf1 o a b).2 = false) : zf1 o a b = (0, false) := by
 unfold zf1 at h ⊢
 split at h
 ·cases h
 ·rename_i hc
  rw [if_neg hc]
theorem zpx {o : Og} {a b : List Tm} (h1 : o.ok = true) (h2 : a.length <= 8) (h3 : a.all (zdi o) = true) (h4 : b.length <= 8) (h5 : b.all (zdi o) = true) : zf1 o a b = (zd4 o a b, true) := by
 unfold zf1
 rw [if_pos (by simp [h1, h2, h3, h4, h5])]
theorem zut {o : Og} {a b : List Tm} (h : (zf1 o a b).2 = true) (h0 : 0 < a.length) (ha : a.length < 8) (hb : b.length < 8) : zf1 o (a ++ [a[0]]) (b ++ [a[0]]) = ((zf1 o a b).1, true) /\ zf1 o (a ++ [a[0]]) a = (2, true) := by
 obtain ⟨⟨h1, h2, h3, h4, h5⟩, he⟩ := qga h
 have hx : zdi o a[0] = true := List.all_eq_true.1 h3 _ (List.getElem_mem h0)
 have hA : (a ++ [a[0]]).all (zdi o) = true := by rw [List.all_append, h3]; simp [hx]
 have hB : (b ++ [a[0]]).all (zdi o) = true := by rw [List.all_append, h5]; simp [hx]
 have lA : (a ++ [a[0]]).length <= 8 := by rw [List.length_append, List.length_singleton]; omega
 have lB : (b ++ [a[0]]).length <= 8 := by rw [List.length_append, List.length_singleton]; omega
 rw [zpx h1 lA hA lB hB, zpx h1 lA hA h2 h3, zwb, qaq, he]
 exact ⟨rfl, rfl⟩
theorem qef {f : Li -> List Tm} {o : Og} {ls : List Li} {i : Nat} (hi : i < ls.length) (hg : qd0 f o ls ls[i] = false) : ∀ k, i < k -> k <= ls.length -> 0 < (mxL f o ls k).length
 | 0, h, _ => absurd h (by omega)
 | k + 1, h, hk => by
  rw [zyr (by omega)]
  by_cases he : i = k
  ·subst he
   rw [hg, if_neg (by simp), List.length_append, List.length_singleton]; omega
  ·have := qef hi hg k (by omega) (by omega)
   split
   ·exact this
   ·rw [List.length_append]; omega
theorem qfy (o : Og) (c : Cq) (h : znv o c = true) (hw : ∀ l ∈ c.lits, l.atom.wt <= 1048575) : 0 < (mxR o c).length ↔ 0 < c.lits.length := by
 have hh := h
 unfold znv at hh
 simp only [Bool.and_eq_true] at hh
 have hET : ∀ l ∈ c.lits, ∀ t ∈ mlI l, ET o t := fun l hl => zu7 (List.all_eq_true.1 hh.2 l hl) (hw l hl)
 unfold mxR
 rw [if_pos h]
 constructor
 ·intro hp
  have := zj4 mlI o c.lits c.lits.length
  omega
 ·intro hp
  obtain ⟨m, hm, hx⟩ := qfo o (c.lits.map mlI) (fun a ha t ht => by
   obtain ⟨l, hl, rfl⟩ := List.mem_map.1 ha
   exact (hET l hl t ht).el) (by intro he; rw [List.map_eq_nil_iff] at he; rw [he] at hp; simp at hp)
  obtain ⟨l, hl, rfl⟩ := List.mem_map.1 hm
  obtain ⟨i, hi, rfl⟩ := List.getElem_of_mem hl
  refine qef hi ?_ _ hi (Nat.le_refl _)
  unfold qd0
  rw [Bool.eq_false_iff]
  intro ha
  obtain ⟨x, hxl, hx2⟩ := List.any_eq_true.1 ha
  exact hx (mlI x) (List.mem_map.2 ⟨x, hxl, rfl⟩) (by simpa using hx2)
end Go.Proofs.YtaaniggpnljckaaGreat
namespace Go.Proofs.YtaaniggpnljckaaGreat
set_option linter.unusedSimpArgs false
set_option linter.unusedVariables false
set_option linter.unusedSectionVars false
set_option maxRecDepth 4000
open Go.RowKit
variable {P : Program}
theorem zsw {args : List D} {w : World} {vs : List Value} {N : Nat} {g : Gh} {a : Act} {A : Nat -> Prop} (hr : zba w (fun b => b < w.heap.size /\ A b) args vs) (hR : Rel (fun b => b < w.heap.size /\ b ∉ ([] : List Nat)) N (zci (rd args)) g a w)
  (ht : a.tmps = (⟨vs⟩ : Array Value) ++ Array.replicate (N - vs.length) undef) (hA : ∀ b, A b -> g.A0 b) : Rel (fun b => b < w.heap.size /\ b ∉ ([] : List Nat)) N (ze8 args) g a w := by
 have hbx : ∀ (ds : List D) (k : Nat), zd5 k (rd ds) = fun _ => none := fun ds => by
  induction ds with
  | nil => intro k; rfl
  | cons d ds ih => intro k; exact ih (k + 1)
 have hG : ∀ b, (b < w.heap.size /\ A b) -> zbr (ze8 args) g w b := fun b hb => by
  refine ⟨⟨fun k hk => absurd rfl hk, fun e x he _ => (by cases he), hb.1, hA b hb.2⟩, ?_⟩
  rintro e ⟨x, hx, _⟩
  cases hx
 refine hR.slots_of (σ' := ze8 args) rfl ?_ hR.defers hR.size fun i => ?_
 ·show (fun _ => none) = zd5 0 (rd args)
  rw [hbx]
 ·show VR (zci (rd args)) g w (zfx 0 args i) _
  have hi := zh8 args 0 i
  rw [Nat.zero_add] at hi
  rw [hi]
  cases hd : args[i]? with
  | none => trivial
  | some d =>
   obtain ⟨v, hv1, hv2⟩ := zba.at hr i d hd
   have hlt : i < vs.length := (List.getElem?_eq_some_iff.1 hv1).1
   have e : a.tmps.getD i (g.R0.ξ i) = v := by
    rw [ht]
    rw [Array.getD_eq_getD_getElem?, Array.getElem?_append_left (by simpa using hlt)]
    simp [hv1]
   rw [e]
   have hx := zjb hG hv2
   exact (Mv.of_eq (σ := ze8 args) (σ' := zci (rd args)) g w rfl (by show zd5 0 (rd args) = fun _ => none; rw [hbx])).vr hx
theorem zhx {f : FuncId} {fn : Func} {c : Code} {args res : List D} (hc : za8 P f) (hf : P.funcs[f]? = some fn) (hb : fn.body = some c) (hd : zcp fn.ntmps c = true) (hN : (rd args).length <= fn.ntmps)
  (h : ex P c [] (PRe P fn.results.toList res) (ze8 args)) : RC P f args res := by
 refine ⟨hc, fun w vs A hv => ?_⟩
 refine calls_of_wp hf hb ?_
 have hg : ∀ (ds : List D) (vs : List Value), zba w (fun b => b < w.heap.size /\ A b) ds vs -> zas w (fun b => b < w.heap.size /\ A b /\ b ∉ ([] : List Nat)) (rd ds) vs [] [] := by
  intro ds
  induction ds with
  | nil => intro vs h; exact ⟨h, rfl, rfl⟩
  | cons d ds ih =>
   rintro vs ⟨v, vs', rfl, h1, h2⟩
   refine ⟨v, vs', rfl, ?_, ih _ h2⟩
   cases d with
   | one t => exact zai.keep (fun _ _ => rfl) (fun b hb => ⟨hb.1, hb.2, by simp⟩) t _ h1
   | agg ts => obtain ⟨a, h0, h1⟩ := h1; exact ⟨a, h0, zad.keep (fun _ _ => rfl) (fun b hb => ⟨hb.1, hb.2, by simp⟩) ts a h1⟩
 obtain ⟨g, hg, hR⟩ := Rel.start (A := A) (A0 := fun b => A b \/ w.heap.size <= b) (R0 := RP.of fun _ => True) (N := fn.ntmps) (hg _ _ hv) List.nodup_nil (zc4 args) hN (fun _ hb => Or.inl hb) (fun b hb => by simp at hb) (fun b hb => ⟨Or.inr (by
  refine Nat.le_of_not_lt fun hlt => hb ⟨hlt, by simp⟩), trivial⟩)
 have hR2 := zsw hv hR rfl (fun b hb => by rw [(Prod.mk.inj hg).1]; exact Or.inl hb)
 refine wp_mono (zbi (w0 := w) c (ze8 args) _ hd h g _ w hR2 (fun k hk => hk.1) (Bk.refl _ _) hg) fun e a' w' hq => ?_
 obtain ⟨σ', g', h1, h2, h3, h4, h5⟩ := hq
 have key : zam (zbh P σ' fn.results.toList) (fun vs => RVe σ' vs res) -> ∃ v, (results fn a'.tmps).run P w' = .ok v w' /\ ∃ us, Ending.returned v = .returned (zbk us) /\ zba w' (fun b => b < w'.heap.size /\ (A b \/ w.heap.size <= b)) res us /\ Below w.heap.size w w' := fun hk => by
  unfold zam at hk
  split at hk
  ·rename_i vs hvs
   obtain ⟨us, r1, r2⟩ := zbs h2 fn hvs
   refine ⟨_, r1, us, rfl, (RVe.rep h2 hk r2).keep (fun _ _ => rfl) fun b hb => ⟨hb.1, ?_⟩, h4.os, h4.tape, h4.output, h4.size, fun k hk => h4.block k ⟨hk, by simp⟩⟩
   have := hb.2
   simp only [Prod.mk.injEq] at h5
   rw [h5.1] at this
   exact this
  ·exact hk.elim
 cases e with
 | normal => exact ⟨h2.defers, key h1⟩
 | ret => exact ⟨h2.defers, key h1⟩
 | exit _ => exact h1.elim
 | goto _ => exact h1.elim
 | panic _ => exact h1.elim
 | outgrown => exact h1.elim
end Go.Proofs.YtaaniggpnljckaaGreat
namespace Go.Proofs.YtaaniggpnljckaaGreat
set_option linter.unusedSimpArgs false
set_option linter.unusedVariables false
set_option linter.unusedSectionVars false
set_option maxRecDepth 4000
open Go.RowKit
theorem zq4 {w : World} {A : Nat -> Prop} : ∀ (ds : List D) (vs : List Value) (fp tp : List Nat), zas w A (rd ds) vs fp tp -> zba w A ds vs /\ fp = [] /\ tp = []
 | [], vs, fp, tp, h => h
 | d :: ds, vs, fp, tp, h => by
  obtain ⟨v, vs', rfl, h1, h2⟩ := h
  obtain ⟨h3, h4, h5⟩ := zq4 ds vs' fp tp h2
  exact ⟨⟨v, vs', rfl, h1, h3⟩, h4, h5⟩
theorem qak {P : Program} {f : FuncId} {args : List D} {b : Bool} (h : RC P f args [bD b]) : FC P f args [bD b] := by
 refine ⟨h.1, fun w vs fp tp hv hn => ?_⟩
 obtain ⟨h1, rfl, rfl⟩ := zq4 _ _ _ _ hv
 refine (h.2 w vs (fun k => k ∉ ([] : List Nat)) h1).mono ?_
 rintro e w' ⟨us, rfl, hr, hb⟩
 obtain ⟨u, us', rfl, hu, hz⟩ := hr
 have hz : us' = [] := hz
 subst hz
 have hu : u = .bool b := hu
 subst hu
 exact ⟨[.bool b], [], [], rfl, ⟨_, [], [], [], [], [], rfl, rfl, rfl, ⟨⟨rfl, rfl⟩, rfl⟩, rfl, rfl, rfl⟩, List.nodup_nil, fun b hb => absurd hb (by simp), ⟨hb.os, hb.tape, hb.output, hb.size, fun k hk => hb.block k hk.1⟩⟩
end Go.Proofs.YtaaniggpnljckaaGreat
namespace Go.Proofs.YtaaniggpnljckaaGreat
set_option linter.unusedSimpArgs false
set_option linter.unusedVariables false
set_option linter.unusedSectionVars false
set_option maxRecDepth 4000
open Go.RowKit
theorem qe0 (code : List UInt8) : FC Tryz.prog 4 [.one (zi7 code)] [bD (decide (65536 < (code.length : Int)))] := by
 refine zan Tryz.call4 Tryz.func4 rfl (by kernel_rfl) (za2 (by kernel_rfl)) ?_
 simp -implicitDefEqProofs only [go_sem, Tryz.results4]
set_option maxHeartbeats 4000000 in
theorem qdi (code : List UInt8) : RC Tryz.prog 3 [.one (zi7 code)] [bD true] := by
 have HB := qe0 code
 by_cases hbig : (65536 : Int) < code.length
 ·rw [show decide ((65536 : Int) < code.length) = true by simpa using hbig] at HB
  refine zhx Tryz.call3 Tryz.func3 rfl (by kernel_rfl) (za2 (by kernel_rfl)) ?_
  simp -implicitDefEqProofs only [go_sem, Tryz.results3]
  refine callF (HB) (by simp -implicitDefEqProofs only [go_sem]) ?_
  simp -implicitDefEqProofs only [go_sem]
 rw [show decide ((65536 : Int) < code.length) = false by simpa using hbig] at HB
 obtain ⟨o, a, b, ow, ho, ⟨la, wa⟩, ⟨lb, wb⟩, HD⟩ := qch code
 obtain ⟨p, cl, hp, ⟨lc, wc⟩, HE⟩ := qaf code
 have wa' : ∀ x ∈ a, x.wt <= 1048575 := fun x hx => by have := wa x hx; omega
 have wb' : ∀ x ∈ b, x.wt <= 1048575 := fun x hx => by have := wb x hx; omega
 have wc' : ∀ l ∈ cl.lits, l.atom.wt <= 1048575 := fun x hx => by have := wc x hx; omega
 have H1 := zhl o a b wa' wb' (by omega) (by omega)
 have H2 := zhl o b a wb' wa' (by omega) (by omega)
 have H3 := qdf o ho a b wa' wb' (by omega) (by omega)
 have HR := qgi (zf1 o a b).1
 have H4 := zgd p cl wc' (by omega)
 have H5 := qad p hp cl wc' (by omega)
 have hmx := qfy p cl
 rw [zyw o wa' wb'] at H2
 have hmm := zut (o := o) (a := a) (b := b)
 have hno := qg2 (o := o) (a := a) (b := b)
 simp only [ogD, zax, cqD, cqC] at HD HE H1 H2 H3 H4 H5
 have hbb : ∀ x : Bool, (x != x) = false := fun x => by simp
 have hfin : (!znv p cl) = false -> T.bool (decide ((0 : Int) < ((mxR p cl).length : Int)) == decide ((0 : Int) < (cl.lits.length : Int))) = T.bool true := fun h => by
  have hp := hmx (by simpa using h) wc'
  have e : decide ((0 : Int) < ((mxR p cl).length : Int)) = decide ((0 : Int) < (cl.lits.length : Int)) := decide_eq_decide.2 ⟨fun h => by have := hp.1 (by omega); omega, fun h => by have := hp.2 (by omega); omega⟩
  rw [e, beq_self_eq_true]
 have hlast : ((!znv p cl == znv p cl) = true -> T.bool false = T.bool true) /\ ((!znv p cl == znv p cl) = false -> ((!znv p cl) = false -> T.bool (decide ((0 : Int) < ((mxR p cl).length : Int)) == decide ((0 : Int) < (cl.lits.length : Int))) = T.bool true) /\ ((!znv p cl) = true -> True)) := ⟨fun h => by simp at h, fun _ => ⟨hfin, fun _ => trivial⟩⟩
 clear hfin hmx
 have hff : (!(false == false)) = false := rfl
 have htt : (!(true == true)) = false := rfl
 have hcc : ∀ x : Int, (x != x) = false := fun x => by simp
 cases hok : (zf1 o a b).2
 ·rw [hno hok] at H1 H2 H3 HR
  rw [show bck 0 = 0 from rfl] at H2 HR
  cases ow
  case' true =>
   refine zhx Tryz.call3 Tryz.func3 rfl (by kernel_rfl) (za2 (by kernel_rfl)) ?_
   simp -implicitDefEqProofs only [go_sem, Tryz.results3]
   refine callF (HB) (by simp -implicitDefEqProofs only [go_sem]) ?_
   simp -implicitDefEqProofs only [go_sem]
   refine callQ [] (HD) (by decide) (by simp -implicitDefEqProofs only [go_sem]) (by simp -implicitDefEqProofs only [go_sem]) ?_
   simp -implicitDefEqProofs only [go_sem]
   refine zxd 864 rfl rfl ?_
   simp -implicitDefEqProofs only [go_sem]
   refine zxd 865 rfl rfl ?_
   simp -implicitDefEqProofs only [go_sem]
  case' false =>
   refine zhx Tryz.call3 Tryz.func3 rfl (by kernel_rfl) (za2 (by kernel_rfl)) ?_
   simp -implicitDefEqProofs only [go_sem, Tryz.results3]
   refine callF (HB) (by simp -implicitDefEqProofs only [go_sem]) ?_
   simp -implicitDefEqProofs only [go_sem]
   refine callQ [] (HD) (by decide) (by simp -implicitDefEqProofs only [go_sem]) (by simp -implicitDefEqProofs only [go_sem]) ?_
   simp -implicitDefEqProofs only [go_sem]
  all_goals
   refine zxd 867 rfl rfl ?_
   simp -implicitDefEqProofs only [go_sem]
   refine zxd 868 rfl rfl ?_
   simp -implicitDefEqProofs only [go_sem]
   refine callF (H1) (by simp -implicitDefEqProofs only [go_sem]) ?_
   simp -implicitDefEqProofs only [go_sem]
   refine callF (H2) (by simp -implicitDefEqProofs only [go_sem]) ?_
   simp -implicitDefEqProofs only [go_sem]
   refine callF (H3) (by simp -implicitDefEqProofs only [go_sem, hcc, hff, htt]) ?_
   simp -implicitDefEqProofs only [go_sem, hcc, hff, htt]
   refine callF (HR) (by simp -implicitDefEqProofs only [go_sem, hcc, hff, htt]) ?_
   simp -implicitDefEqProofs only [go_sem, hcc, hff, htt]
   refine callQ [] (HE) (by decide) (by simp -implicitDefEqProofs only [go_sem]) (by simp -implicitDefEqProofs only [go_sem]) ?_
   simp -implicitDefEqProofs only [go_sem]
   refine callF (H4) (by simp -implicitDefEqProofs only [go_sem]) ?_
   simp -implicitDefEqProofs only [go_sem]
   refine callF (H5) (by simp -implicitDefEqProofs only [go_sem, hbb]) ?_
   simp -implicitDefEqProofs only [go_sem, hbb]
   exact hlast
 ·have h1 : zf1 o a b = ((zf1 o a b).1, true) := by rw [<- hok]
  rw [h1] at H1 H2 H3
  generalize (zf1 o a b).1 = c at *
  cases ow
  case' true =>
   refine zhx Tryz.call3 Tryz.func3 rfl (by kernel_rfl) (za2 (by kernel_rfl)) ?_
   simp -implicitDefEqProofs only [go_sem, Tryz.results3]
   refine callF (HB) (by simp -implicitDefEqProofs only [go_sem]) ?_
   simp -implicitDefEqProofs only [go_sem]
   refine callQ [] (HD) (by decide) (by simp -implicitDefEqProofs only [go_sem]) (by simp -implicitDefEqProofs only [go_sem]) ?_
   simp -implicitDefEqProofs only [go_sem]
   refine zxd 864 rfl rfl ?_
   simp -implicitDefEqProofs only [go_sem]
   refine zxd 865 rfl rfl ?_
   simp -implicitDefEqProofs only [go_sem]
  case' false =>
   refine zhx Tryz.call3 Tryz.func3 rfl (by kernel_rfl) (za2 (by kernel_rfl)) ?_
   simp -implicitDefEqProofs only [go_sem, Tryz.results3]
   refine callF (HB) (by simp -implicitDefEqProofs only [go_sem]) ?_
   simp -implicitDefEqProofs only [go_sem]
   refine callQ [] (HD) (by decide) (by simp -implicitDefEqProofs only [go_sem]) (by simp -implicitDefEqProofs only [go_sem]) ?_
   simp -implicitDefEqProofs only [go_sem]
  all_goals
   refine zxd 867 rfl rfl ?_
   simp -implicitDefEqProofs only [go_sem]
   refine zxd 868 rfl rfl ?_
   simp -implicitDefEqProofs only [go_sem]
   refine callF (H1) (by simp -implicitDefEqProofs only [go_sem]) ?_
   simp -implicitDefEqProofs only [go_sem]
   refine callF (H2) (by simp -implicitDefEqProofs only [go_sem]) ?_
   simp -implicitDefEqProofs only [go_sem]
   refine callF (H3) (by simp -implicitDefEqProofs only [go_sem, hcc, hff, htt]) ?_
   simp -implicitDefEqProofs only [go_sem, hcc, hff, htt]
   refine callF (HR) (by simp -implicitDefEqProofs only [go_sem, hcc, hff, htt]) ?_
   simp -implicitDefEqProofs only [go_sem, hcc, hff, htt]
   refine ⟨fun h0 => ⟨fun h1 => ⟨fun h2 => ?_, fun h2 => ?_⟩, fun h1 => ?_⟩, fun h0 => ?_⟩
   rotate_left
   iterate 3
    refine callQ [] (HE) (by decide) (by simp -implicitDefEqProofs only [go_sem]) (by simp -implicitDefEqProofs only [go_sem]) ?_
    simp -implicitDefEqProofs only [go_sem]
    refine callF (H4) (by simp -implicitDefEqProofs only [go_sem]) ?_
    simp -implicitDefEqProofs only [go_sem]
    refine callF (H5) (by simp -implicitDefEqProofs only [go_sem, hbb]) ?_
    simp -implicitDefEqProofs only [go_sem, hbb]
    exact hlast
   have g0 : 0 < a.length := by simpa using h0
   have g1 : a.length < 8 := by simp only [decide_eq_true_eq] at h1; omega
   have g2 : b.length < 8 := by simp only [decide_eq_true_eq] at h2; omega
   obtain ⟨m1, m2⟩ := hmm hok g0 g1 g2
   have wm : ∀ x ∈ a ++ [a[0]], x.wt <= 1048575 := fun x hx => by
    rcases List.mem_append.1 hx with h | h
    ·exact wa' x h
    ·rw [List.mem_singleton.1 h]; exact wa' _ (List.getElem_mem g0)
   have wn : ∀ x ∈ b ++ [a[0]], x.wt <= 1048575 := fun x hx => by
    rcases List.mem_append.1 hx with h | h
    ·exact wb' x h
    ·rw [List.mem_singleton.1 h]; exact wa' _ (List.getElem_mem g0)
   have lm : (a ++ [a[0]]).length <= 1048576 := by rw [List.length_append, List.length_singleton]; omega
   have ln : (b ++ [a[0]]).length <= 1048576 := by rw [List.length_append, List.length_singleton]; omega
   have H6 := zhl o (a ++ [a[0]]) (b ++ [a[0]]) wm wn lm ln
   have H7 := zhl o (a ++ [a[0]]) a wm wa' lm (by omega)
   rw [m1] at H6
   rw [m2] at H7
   simp only [ogD, zax, tmS, List.map_append, List.map_cons, List.map_nil, zaa a[0]] at H6 H7
   have la5 : a.length <= 4294967295 := by omega
   have la6 : a.length <= 4294967296 := by omega
   have lb5 : b.length <= 4294967295 := by omega
   have lb6 : b.length <= 4294967296 := by omega
   have g0i : ((0 : Int) < (a.length : Int)) = True := eq_true (by omega)
   have gd : (a.map tmC).getD 0 [] = [.str a[0].name, .sl 2 (a[0].args.map tmC)] := by rw [zaf tmC a 0 g0, zaa]
   refine drawn (by kernel_rfl) ?_
   simp -implicitDefEqProofs only [go_sem]
   refine zhm (by simp -implicitDefEqProofs only [go_sem]) ?_
   simp -implicitDefEqProofs only [go_sem]
   refine zlk false (by simp -implicitDefEqProofs only [go_sem, ne_eq, List.length_map, la5, la6, Nat.zero_add, g0i, g0, gd, List.length_cons, List.length_nil, List.nil_append]) ?_
   simp -implicitDefEqProofs only [go_sem, ne_eq, List.length_map, la5, la6, Nat.zero_add, g0i, g0, gd, List.length_cons, List.length_nil, List.nil_append]
   refine zhm (by simp -implicitDefEqProofs only [go_sem]) ?_
   simp -implicitDefEqProofs only [go_sem]
   refine zlk false (by simp -implicitDefEqProofs only [go_sem, ne_eq, List.length_map, la5, la6, Nat.zero_add, g0i, g0, gd, List.length_cons, List.length_nil, List.nil_append]) ?_
   simp -implicitDefEqProofs only [go_sem, ne_eq, List.length_map, la5, la6, Nat.zero_add, g0i, g0, gd, List.length_cons, List.length_nil, List.nil_append]
   refine ⟨by kernel_rfl, ?_⟩
   refine frzSD 2784 ?_
   simp -implicitDefEqProofs only [go_sem]
   refine drawn (by kernel_rfl) ?_
   simp -implicitDefEqProofs only [go_sem]
   refine zhm (by simp -implicitDefEqProofs only [go_sem]) ?_
   simp -implicitDefEqProofs only [go_sem]
   refine zlk false (by simp -implicitDefEqProofs only [go_sem, ne_eq, List.length_map, lb5, lb6, Nat.zero_add, g0i, g0, gd, List.length_cons, List.length_nil, List.nil_append]) ?_
   simp -implicitDefEqProofs only [go_sem, ne_eq, List.length_map, lb5, lb6, Nat.zero_add, g0i, g0, gd, List.length_cons, List.length_nil, List.nil_append]
   refine zhm (by simp -implicitDefEqProofs only [go_sem]) ?_
   simp -implicitDefEqProofs only [go_sem]
   refine zlk false (by simp -implicitDefEqProofs only [go_sem, ne_eq, List.length_map, lb5, lb6, Nat.zero_add, g0i, g0, gd, List.length_cons, List.length_nil, List.nil_append]) ?_
   simp -implicitDefEqProofs only [go_sem, ne_eq, List.length_map, lb5, lb6, Nat.zero_add, g0i, g0, gd, List.length_cons, List.length_nil, List.nil_append]
   refine zau (H6) (by simp -implicitDefEqProofs only [go_sem]) ?_
   simp -implicitDefEqProofs only [go_sem]
   refine ⟨by kernel_rfl, ?_⟩
   refine callF (H7) (by simp -implicitDefEqProofs only [go_sem, hcc, hff, htt]) ?_
   simp -implicitDefEqProofs only [go_sem, hcc, hff, htt]
   refine callQ [] (HE) (by decide) (by simp -implicitDefEqProofs only [go_sem]) (by simp -implicitDefEqProofs only [go_sem]) ?_
   simp -implicitDefEqProofs only [go_sem]
   refine callF (H4) (by simp -implicitDefEqProofs only [go_sem]) ?_
   simp -implicitDefEqProofs only [go_sem]
   refine callF (H5) (by simp -implicitDefEqProofs only [go_sem, hbb]) ?_
   simp -implicitDefEqProofs only [go_sem, hbb]
   exact hlast
theorem zz4 (code : List UInt8) : FC Tryz.prog 3 [.one (zi7 code)] [bD true] := qak (qdi code)
end Go.Proofs.YtaaniggpnljckaaGreat
