/-
  The walk over plain data, and contracts of functions of the program and of its laws.
  Conditions: those that each theorem names.
-/
import Derived.Test.YtemnhgmgeijkcaaGreatQC7
import Derived.Test.YtemnhgmgeijkcaaGreatQC6
namespace Go.Proofs.YtemnhgmgeijkcaaGreat
set_option linter.unusedSimpArgs false
set_option linter.unusedVariables false
set_option linter.unusedSectionVars false
set_option maxRecDepth 4000
open Go.RowKit
theorem qfk {α : Type} (g : α -> Nat) : ∀ {l1 l2 : List α}, l1.Sublist l2 -> (l1.map g).sum <= (l2.map g).sum := fun h => by
 induction h with
 | slnil => exact Nat.le_refl _
 | cons a _ ih => rw [List.map_cons, List.sum_cons]; omega
 | cons_cons a _ ih => rw [List.map_cons, List.sum_cons, List.map_cons, List.sum_cons]; omega
theorem sum_K {α : Type} (g : α -> Nat) (K : Nat) (zs : List α) : (zs.map fun x => K * g x).sum = K * (zs.map g).sum := by
 induction zs with
 | nil => rfl
 | cons x zs ih => rw [List.map_cons, List.sum_cons, ih, List.map_cons, List.sum_cons, Nat.mul_add]
theorem qf2 (n : Str) (t : Tm) (W : Nat) (hW : t.wt <= W) : ∀ f : Fm, f.forms = true -> (zbt n t f).1.wt <= (520 + 30 * W) * f.nodes := zcb fun o a v xs ih hf => by
 obtain ⟨hh, hx⟩ := qdp hf
 have hw0 := zva _ hf
 have hn : (Fm.mk o a v xs).nodes = 1 + (xs.map Fm.nodes).sum := Fm.nodes_eq _
 have hN : 520 * (Fm.mk o a v xs).nodes <= (520 + 30 * W) * (Fm.mk o a v xs).nodes := Nat.mul_le_mul_right _ (by omega)
 have hw2 : (Fm.mk o a v xs).wt = a.wt + v.length + xs.length + (xs.map Fm.wt).sum := Fm.wt_eq _
 rw [zr2]
 show (if (o == 3) = true then ((Fm.mk o (zfz (bnd n t) a) v []), _) else if (isQ o && (v == n || !((zoo xs).contains n))) = true then ((Fm.mk o a v xs), true) else if (isQ o && (zba [] (voS t)).contains v) = true then ((Fm.mk o (.mk [] []) v []), false) else ((Fm.mk o (.mk [] []) v ((xs.takeWhile fun x => (zbt n t x).2).map fun x => (zbt n t x).1)), _)).1.wt <= _
 split
 ·rename_i h3
  obtain ⟨rfl, rfl, rfl, h4⟩ := qij h3 hh
  have hw : (Fm.mk 3 (zfz (bnd n t) a) [] []).wt = (zfz (bnd n t) a).wt + 0 + 0 + 0 := Fm.wt_eq _
  have h5 := zy2 (bnd n t) W (fun p hp => Nat.le_trans (qbi n t p hp) hW) a
  have h6 := zqf h4
  have h7 : a.nodes <= 30 := by
   rw [zpi, Bool.and_eq_true] at h4
   have h8 := h4.2
   unfold zd7 at h8
   simp only [Bool.and_eq_true, decide_eq_true_eq] at h8
   exact h8.1
  have h8 : a.nodes * W <= 30 * W := Nat.mul_le_mul_right W h7
  have h9 : (Fm.mk 3 a [] []).nodes = 1 := by rw [hn]; rfl
  rw [h9, Nat.mul_one]
  show (Fm.mk 3 (zfz (bnd n t) a) [] []).wt <= _
  rw [hw]
  omega
 ·rename_i h3
  split
  ·show (Fm.mk o a v xs).wt <= _
   omega
  ·split
   ·have hw : (Fm.mk o (.mk [] []) v []).wt = 0 + v.length + 0 + 0 := Fm.wt_eq _
    show (Fm.mk o (.mk [] []) v []).wt <= _
    omega
   ·have hl : xs.length <= 2 /\ v.length <= 4 := by
     rcases zel hf with ⟨h1, h2⟩ | ⟨p, h1, _⟩ | ⟨o', p, q, _, h1, _⟩ | ⟨o', v', p, ho, h1, _⟩
     ·have h1 : xs = [] := h1
      refine ⟨by rw [h1]; simp, ?_⟩
      have := zu7 hh (by rcases h2 with h | h | h <;> (rw [h]; rfl))
      have this : v = [] := this
      rw [this]; simp
     ·cases h1; exact ⟨by simp, by simp⟩
     ·cases h1; exact ⟨by simp, by simp⟩
     ·cases h1
      refine ⟨by simp, ?_⟩
      have := zup hh (by rcases ho with h | h <;> (rw [show (Fm.mk o _ v [p]).op = o from rfl, h]; rfl))
      have this : zbc v = true := this
      unfold zbc inB at this
      simp only [Bool.and_eq_true, decide_eq_true_eq] at this
      omega
    generalize hys : (xs.takeWhile fun x => (zbt n t x).2) = ys
    have hsub : ys.Sublist xs := by rw [<- hys]; exact List.takeWhile_sublist _
    have hw : (Fm.mk o (.mk [] []) v (ys.map fun x => (zbt n t x).1)).wt = 0 + v.length + (ys.map fun x => (zbt n t x).1).length + ((ys.map fun x => (zbt n t x).1).map Fm.wt).sum := Fm.wt_eq _
    show (Fm.mk o (.mk [] []) v (ys.map fun x => (zbt n t x).1)).wt <= _
    have hs1 : (ys.map fun x => (zbt n t x).1.wt).sum <= (ys.map fun x => (520 + 30 * W) * x.nodes).sum := zvn _ _ ys fun x hm => ih x (hsub.subset hm) (hx x (hsub.subset hm))
    have e2 : ((ys.map fun x => (zbt n t x).1).map Fm.wt).sum = (ys.map fun x => (zbt n t x).1.wt).sum := by rw [List.map_map]; rfl
    rw [sum_K] at hs1
    have hs3 := Nat.mul_le_mul_left (520 + 30 * W) (qfk Fm.nodes hsub)
    have hl2 := hsub.length_le
    rw [hw, List.length_map, e2, hn, Nat.mul_add, Nat.mul_one]
    omega
theorem qi2 {n : Str} {t : Tm} {f : Fm} (ht : t.good = true) (hf : f.good = true) : (zbt n t f).1.wt <= 308800 := by
 have h1 := qf2 n t 240 (qf0 ht) f (zeh hf)
 have hn : f.nodes <= 40 := by
  unfold Fm.good at hf
  rw [Bool.and_eq_true, decide_eq_true_eq] at hf
  exact hf.1
 have h2 : (520 + 30 * 240) * f.nodes <= (520 + 30 * 240) * 40 := Nat.mul_le_mul_left _ hn
 omega
theorem zep (s : Sq) (hs : s.good = true) (l r : Int) (more extra : List Fm) (hm : ∀ x ∈ more, x.wt <= 1048576) (he : ∀ x ∈ extra, x.wt <= 1048576) (h1 : more.length <= 100000) (h2 : extra.length <= 100000) : FC Tryz.prog 149 [sqD s, iD l, .one (fmS more), iD r, .one (fmS extra)] [sqD (zbg s l more r extra)] := by
 obtain ⟨l1, l2, g1, g2⟩ := zg6 hs
 exact qbt s l r more extra (fun x hx => Nat.le_trans (zc2 (g1 x hx)) (by omega)) (fun x hx => Nat.le_trans (zc2 (g2 x hx)) (by omega)) hm he (by omega) (by omega)
set_option maxHeartbeats 4000000 in
theorem zlh (s : Sq) (hs : s.good = true) (d : Dv) (hr : inB d.rule 11 14 = true) (hd : d.term.wt <= 1048576) (f : Fm) (hf : f.good = true) (ho : f.op = 8 \/ f.op = 9) : FC Tryz.prog 200 [sqD s, iD d.rule, iD d.main, fmD f, tmD d.term] [.one (sqS (qS s d f).1), bD (qS s d f).2] := by
  obtain ⟨hpg, hp, hv⟩ := zfn hf ho
  obtain ⟨r, sq, m, t, c, ps⟩ := d
  obtain ⟨fo, fa, fv, fp⟩ := f
  simp only [Dv.rule, Dv.term, Dv.main, Fm.parts, Fm.var] at hr hd hp hpg hv ⊢
  have hr' : r = 11 \/ r = 12 \/ r = 13 \/ r = 14 := by unfold inB at hr; simp only [Bool.and_eq_true, decide_eq_true_eq] at hr; omega
  have hQ : qS s (.mk r sq m t c ps) (.mk fo fa fv fp) = (if (t.good && (zbt fv t (fp.getD 0 zao)).2) = true then
    (if r = 11 then ([zbg s (-1) [(zbt fv t (fp.getD 0 zao)).1] (-1) []], true)
     else if r = 14 then ([zbg s (-1) [] (-1) [(zbt fv t (fp.getD 0 zao)).1]], true)
     else if (!zbc t.name || ze6 s t.name) = true then ([], false)
     else if r = 12 then ([zbg s (-1) [] m [(zbt fv t (fp.getD 0 zao)).1]], true)
     else ([zbg s m [(zbt fv t (fp.getD 0 zao)).1] (-1) []], true))
  else ([], false)) := rfl
  rw [hQ]
  clear hQ hf
  generalize fp.getD 0 zao = p at hp hpg ⊢
  subst hp
  have hpw := zc2 hpg
  have HT := zv2 t (by omega)
  cases htg : t.good
  · rw [htg] at HT
    rw [Bool.false_and, if_neg (by simp)]
    show FC _ _ _ [.one (.sl 2 []), _]
    simp only [sqD, zah, fmD, zdl, tmD, zab t, List.map_cons, List.map_nil] at HT ⊢
    refine zag Tryz.call200 Tryz.func200 rfl (by kernel_rfl) (zau (by kernel_rfl)) ?_
    simp -implicitDefEqProofs only [go_sem, Tryz.results200]
    refine callF (HT) (by simp -implicitDefEqProofs only [go_sem]) ?_
    simp -implicitDefEqProofs only [go_sem]
    refine zal (by simp -implicitDefEqProofs only [go_sem]) ?_
    simp -implicitDefEqProofs only [go_sem]
  · rw [htg] at HT
    have hpw2 := qi2 (n := fv) htg hpg
    have HP := qmt fv t hd p (zeh hpg) (by omega) (by have := Nat.mul_le_mul (show 1 + p.wt <= 20801 by omega) hd; omega)
    have HN := fun (l r : Int) (more extra : List Fm) hm he h1 h2 => zep s hs l r more extra hm he h1 h2
    have HV := zi2 t.name
    have HNm := zwv s hs
    have HIn := zun (zba (zba [] (vfs s.left)) (vfs s.right)) t.name
    rw [zxs] at HIn
    generalize zba (zba [] (vfs s.left)) (vfs s.right) = ns at HNm HIn
    generalize zbt fv t p = B at HP hpw2 ⊢
    obtain ⟨a, b⟩ := B
    simp only at hpw2 HP ⊢
    have hw1 : ∀ x ∈ [a], x.wt <= 1048576 := fun x hx => by rw [List.mem_singleton.1 hx]; omega
    have hw0 : ∀ x ∈ ([] : List Fm), x.wt <= 1048576 := fun x hx => by cases hx
    have h2 : (zbg s (-1) [a] (-1) []) = (zbg s (-1) [a] (-1) []) := rfl
    have hsq : ∀ q : Sq, List.map sqC [q] = [[.sl 5 (q.left.map fmC), .sl 5 (q.right.map fmC)]] := fun _ => rfl
    rw [Bool.true_and]
    simp only [sqD, zah, fmD, zdl, zaa p, zaa a, tmD, zab t, List.map_cons, List.map_nil] at HT HP HNm ⊢
    cases b
    · rw [if_neg (by simp)]
      show FC _ _ _ [.one (.sl 2 []), _]
      refine zag Tryz.call200 Tryz.func200 rfl (by kernel_rfl) (zau (by kernel_rfl)) ?_
      simp -implicitDefEqProofs only [go_sem, Tryz.results200]
      refine callF (HT) (by simp -implicitDefEqProofs only [go_sem]) ?_
      simp -implicitDefEqProofs only [go_sem]
      refine drawn (by kernel_rfl) ?_
      simp -implicitDefEqProofs only [go_sem]
      refine zan (HP) (by simp -implicitDefEqProofs only [go_sem]) ?_
      simp -implicitDefEqProofs only [go_sem]
      refine ⟨by kernel_rfl, ?_⟩
      refine zal (by simp -implicitDefEqProofs only [go_sem]) ?_
      simp -implicitDefEqProofs only [go_sem]
    · rw [if_pos rfl]
      rcases hr' with rfl | rfl | rfl | rfl
      · rw [if_pos rfl]
        have HX := HN (-1) (-1) [a] [] hw1 hw0 (by simp) (by simp)
        generalize zbg s (-1) [a] (-1) [] = Q at HX ⊢
        rw [sqS, hsq]
        simp only [sqD, zah, zaa a, List.map_cons, List.map_nil] at HX
        refine zag Tryz.call200 Tryz.func200 rfl (by kernel_rfl) (zau (by kernel_rfl)) ?_
        simp -implicitDefEqProofs only [go_sem, Tryz.results200]
        refine callF (HT) (by simp -implicitDefEqProofs only [go_sem]) ?_
        simp -implicitDefEqProofs only [go_sem]
        refine drawn (by kernel_rfl) ?_
        simp -implicitDefEqProofs only [go_sem]
        refine zan (HP) (by simp -implicitDefEqProofs only [go_sem]) ?_
        simp -implicitDefEqProofs only [go_sem]
        refine ⟨by kernel_rfl, ?_⟩
        refine zal (by simp -implicitDefEqProofs only [go_sem]) ?_
        simp -implicitDefEqProofs only [go_sem]
        refine zal (by simp -implicitDefEqProofs only [go_sem]) ?_
        simp -implicitDefEqProofs only [go_sem]
        refine callF (HX) (by simp -implicitDefEqProofs only [go_sem, zaa a]) ?_
        simp -implicitDefEqProofs only [go_sem, zaa a]
        refine zal (by simp -implicitDefEqProofs only [go_sem]) ?_
        simp -implicitDefEqProofs only [go_sem]
      · rw [if_neg (by decide), if_neg (by decide)]
        generalize zbc t.name = vo at HV ⊢
        generalize ze6 s t.name = fr at HIn ⊢
        cases vo
        · rw [if_pos (by simp)]
          show FC _ _ _ [.one (.sl 2 []), _]
          refine zag Tryz.call200 Tryz.func200 rfl (by kernel_rfl) (zau (by kernel_rfl)) ?_
          simp -implicitDefEqProofs only [go_sem, Tryz.results200]
          refine callF (HT) (by simp -implicitDefEqProofs only [go_sem]) ?_
          simp -implicitDefEqProofs only [go_sem]
          refine drawn (by kernel_rfl) ?_
          simp -implicitDefEqProofs only [go_sem]
          refine zan (HP) (by simp -implicitDefEqProofs only [go_sem]) ?_
          simp -implicitDefEqProofs only [go_sem]
          refine ⟨by kernel_rfl, ?_⟩
          refine zal (by simp -implicitDefEqProofs only [go_sem]) ?_
          simp -implicitDefEqProofs only [go_sem]
          refine zal (by simp -implicitDefEqProofs only [go_sem]) ?_
          simp -implicitDefEqProofs only [go_sem]
          refine drawn (by kernel_rfl) ?_
          simp -implicitDefEqProofs only [go_sem]
          refine zan (HV) (by simp -implicitDefEqProofs only [go_sem]) ?_
          simp -implicitDefEqProofs only [go_sem]
          refine ⟨by kernel_rfl, ?_⟩
          refine zal (by simp -implicitDefEqProofs only [go_sem]) ?_
          simp -implicitDefEqProofs only [go_sem]
        · cases fr
          · rw [if_neg (by simp), if_pos rfl]
            have HX := HN (-1) m [] [a] hw0 hw1 (by simp) (by simp)
            generalize zbg s (-1) [] m [a] = Q at HX ⊢
            rw [sqS, hsq]
            simp only [sqD, zah, zaa a, List.map_cons, List.map_nil] at HX
            refine zag Tryz.call200 Tryz.func200 rfl (by kernel_rfl) (zau (by kernel_rfl)) ?_
            simp -implicitDefEqProofs only [go_sem, Tryz.results200]
            refine callF (HT) (by simp -implicitDefEqProofs only [go_sem]) ?_
            simp -implicitDefEqProofs only [go_sem]
            refine drawn (by kernel_rfl) ?_
            simp -implicitDefEqProofs only [go_sem]
            refine zan (HP) (by simp -implicitDefEqProofs only [go_sem]) ?_
            simp -implicitDefEqProofs only [go_sem]
            refine ⟨by kernel_rfl, ?_⟩
            refine zal (by simp -implicitDefEqProofs only [go_sem]) ?_
            simp -implicitDefEqProofs only [go_sem]
            refine zal (by simp -implicitDefEqProofs only [go_sem]) ?_
            simp -implicitDefEqProofs only [go_sem]
            refine drawn (by kernel_rfl) ?_
            simp -implicitDefEqProofs only [go_sem]
            refine zan (HV) (by simp -implicitDefEqProofs only [go_sem]) ?_
            simp -implicitDefEqProofs only [go_sem]
            refine za6 (HNm) (by simp -implicitDefEqProofs only [go_sem]) ?_
            simp -implicitDefEqProofs only [go_sem]
            refine za6 (HIn) (by simp -implicitDefEqProofs only [go_sem]) ?_
            simp -implicitDefEqProofs only [go_sem]
            refine ⟨by kernel_rfl, ?_⟩
            refine callF (HX) (by simp -implicitDefEqProofs only [go_sem, zaa a]) ?_
            simp -implicitDefEqProofs only [go_sem, zaa a]
            refine zal (by simp -implicitDefEqProofs only [go_sem]) ?_
            simp -implicitDefEqProofs only [go_sem]
          · rw [if_pos (by simp)]
            show FC _ _ _ [.one (.sl 2 []), _]
            refine zag Tryz.call200 Tryz.func200 rfl (by kernel_rfl) (zau (by kernel_rfl)) ?_
            simp -implicitDefEqProofs only [go_sem, Tryz.results200]
            refine callF (HT) (by simp -implicitDefEqProofs only [go_sem]) ?_
            simp -implicitDefEqProofs only [go_sem]
            refine drawn (by kernel_rfl) ?_
            simp -implicitDefEqProofs only [go_sem]
            refine zan (HP) (by simp -implicitDefEqProofs only [go_sem]) ?_
            simp -implicitDefEqProofs only [go_sem]
            refine ⟨by kernel_rfl, ?_⟩
            refine zal (by simp -implicitDefEqProofs only [go_sem]) ?_
            simp -implicitDefEqProofs only [go_sem]
            refine zal (by simp -implicitDefEqProofs only [go_sem]) ?_
            simp -implicitDefEqProofs only [go_sem]
            refine drawn (by kernel_rfl) ?_
            simp -implicitDefEqProofs only [go_sem]
            refine zan (HV) (by simp -implicitDefEqProofs only [go_sem]) ?_
            simp -implicitDefEqProofs only [go_sem]
            refine za6 (HNm) (by simp -implicitDefEqProofs only [go_sem]) ?_
            simp -implicitDefEqProofs only [go_sem]
            refine za6 (HIn) (by simp -implicitDefEqProofs only [go_sem]) ?_
            simp -implicitDefEqProofs only [go_sem]
            refine ⟨by kernel_rfl, ?_⟩
            refine zal (by simp -implicitDefEqProofs only [go_sem]) ?_
            simp -implicitDefEqProofs only [go_sem]
      · rw [if_neg (by decide), if_neg (by decide)]
        generalize zbc t.name = vo at HV ⊢
        generalize ze6 s t.name = fr at HIn ⊢
        cases vo
        · rw [if_pos (by simp)]
          show FC _ _ _ [.one (.sl 2 []), _]
          refine zag Tryz.call200 Tryz.func200 rfl (by kernel_rfl) (zau (by kernel_rfl)) ?_
          simp -implicitDefEqProofs only [go_sem, Tryz.results200]
          refine callF (HT) (by simp -implicitDefEqProofs only [go_sem]) ?_
          simp -implicitDefEqProofs only [go_sem]
          refine drawn (by kernel_rfl) ?_
          simp -implicitDefEqProofs only [go_sem]
          refine zan (HP) (by simp -implicitDefEqProofs only [go_sem]) ?_
          simp -implicitDefEqProofs only [go_sem]
          refine ⟨by kernel_rfl, ?_⟩
          refine zal (by simp -implicitDefEqProofs only [go_sem]) ?_
          simp -implicitDefEqProofs only [go_sem]
          refine zal (by simp -implicitDefEqProofs only [go_sem]) ?_
          simp -implicitDefEqProofs only [go_sem]
          refine drawn (by kernel_rfl) ?_
          simp -implicitDefEqProofs only [go_sem]
          refine zan (HV) (by simp -implicitDefEqProofs only [go_sem]) ?_
          simp -implicitDefEqProofs only [go_sem]
          refine ⟨by kernel_rfl, ?_⟩
          refine zal (by simp -implicitDefEqProofs only [go_sem]) ?_
          simp -implicitDefEqProofs only [go_sem]
        · cases fr
          · rw [if_neg (by simp), if_neg (by decide)]
            have HX := HN m (-1) [a] [] hw1 hw0 (by simp) (by simp)
            generalize zbg s m [a] (-1) [] = Q at HX ⊢
            rw [sqS, hsq]
            simp only [sqD, zah, zaa a, List.map_cons, List.map_nil] at HX
            refine zag Tryz.call200 Tryz.func200 rfl (by kernel_rfl) (zau (by kernel_rfl)) ?_
            simp -implicitDefEqProofs only [go_sem, Tryz.results200]
            refine callF (HT) (by simp -implicitDefEqProofs only [go_sem]) ?_
            simp -implicitDefEqProofs only [go_sem]
            refine drawn (by kernel_rfl) ?_
            simp -implicitDefEqProofs only [go_sem]
            refine zan (HP) (by simp -implicitDefEqProofs only [go_sem]) ?_
            simp -implicitDefEqProofs only [go_sem]
            refine ⟨by kernel_rfl, ?_⟩
            refine zal (by simp -implicitDefEqProofs only [go_sem]) ?_
            simp -implicitDefEqProofs only [go_sem]
            refine zal (by simp -implicitDefEqProofs only [go_sem]) ?_
            simp -implicitDefEqProofs only [go_sem]
            refine drawn (by kernel_rfl) ?_
            simp -implicitDefEqProofs only [go_sem]
            refine zan (HV) (by simp -implicitDefEqProofs only [go_sem]) ?_
            simp -implicitDefEqProofs only [go_sem]
            refine za6 (HNm) (by simp -implicitDefEqProofs only [go_sem]) ?_
            simp -implicitDefEqProofs only [go_sem]
            refine za6 (HIn) (by simp -implicitDefEqProofs only [go_sem]) ?_
            simp -implicitDefEqProofs only [go_sem]
            refine ⟨by kernel_rfl, ?_⟩
            refine callF (HX) (by simp -implicitDefEqProofs only [go_sem, zaa a]) ?_
            simp -implicitDefEqProofs only [go_sem, zaa a]
            refine zal (by simp -implicitDefEqProofs only [go_sem]) ?_
            simp -implicitDefEqProofs only [go_sem]
          · rw [if_pos (by simp)]
            show FC _ _ _ [.one (.sl 2 []), _]
            refine zag Tryz.call200 Tryz.func200 rfl (by kernel_rfl) (zau (by kernel_rfl)) ?_
            simp -implicitDefEqProofs only [go_sem, Tryz.results200]
            refine callF (HT) (by simp -implicitDefEqProofs only [go_sem]) ?_
            simp -implicitDefEqProofs only [go_sem]
            refine drawn (by kernel_rfl) ?_
            simp -implicitDefEqProofs only [go_sem]
            refine zan (HP) (by simp -implicitDefEqProofs only [go_sem]) ?_
            simp -implicitDefEqProofs only [go_sem]
            refine ⟨by kernel_rfl, ?_⟩
            refine zal (by simp -implicitDefEqProofs only [go_sem]) ?_
            simp -implicitDefEqProofs only [go_sem]
            refine zal (by simp -implicitDefEqProofs only [go_sem]) ?_
            simp -implicitDefEqProofs only [go_sem]
            refine drawn (by kernel_rfl) ?_
            simp -implicitDefEqProofs only [go_sem]
            refine zan (HV) (by simp -implicitDefEqProofs only [go_sem]) ?_
            simp -implicitDefEqProofs only [go_sem]
            refine za6 (HNm) (by simp -implicitDefEqProofs only [go_sem]) ?_
            simp -implicitDefEqProofs only [go_sem]
            refine za6 (HIn) (by simp -implicitDefEqProofs only [go_sem]) ?_
            simp -implicitDefEqProofs only [go_sem]
            refine ⟨by kernel_rfl, ?_⟩
            refine zal (by simp -implicitDefEqProofs only [go_sem]) ?_
            simp -implicitDefEqProofs only [go_sem]
      · rw [if_neg (by decide), if_pos rfl]
        have HX := HN (-1) (-1) [] [a] hw0 hw1 (by simp) (by simp)
        generalize zbg s (-1) [] (-1) [a] = Q at HX ⊢
        rw [sqS, hsq]
        simp only [sqD, zah, zaa a, List.map_cons, List.map_nil] at HX
        refine zag Tryz.call200 Tryz.func200 rfl (by kernel_rfl) (zau (by kernel_rfl)) ?_
        simp -implicitDefEqProofs only [go_sem, Tryz.results200]
        refine callF (HT) (by simp -implicitDefEqProofs only [go_sem]) ?_
        simp -implicitDefEqProofs only [go_sem]
        refine drawn (by kernel_rfl) ?_
        simp -implicitDefEqProofs only [go_sem]
        refine zan (HP) (by simp -implicitDefEqProofs only [go_sem]) ?_
        simp -implicitDefEqProofs only [go_sem]
        refine ⟨by kernel_rfl, ?_⟩
        refine zal (by simp -implicitDefEqProofs only [go_sem]) ?_
        simp -implicitDefEqProofs only [go_sem]
        refine zal (by simp -implicitDefEqProofs only [go_sem]) ?_
        simp -implicitDefEqProofs only [go_sem]
        refine callF (HX) (by simp -implicitDefEqProofs only [go_sem, zaa a]) ?_
        simp -implicitDefEqProofs only [go_sem, zaa a]
        refine zal (by simp -implicitDefEqProofs only [go_sem]) ?_
        simp -implicitDefEqProofs only [go_sem]
end Go.Proofs.YtemnhgmgeijkcaaGreat
namespace Go.Proofs.YtemnhgmgeijkcaaGreat
set_option linter.unusedSimpArgs false
set_option linter.unusedVariables false
set_option linter.unusedSectionVars false
set_option maxRecDepth 4000
open Go.RowKit
theorem hsq1 (q : Sq) : List.map sqC [q] = [[.sl 5 (q.left.map fmC), .sl 5 (q.right.map fmC)]] := rfl
theorem hsq2 (q q2 : Sq) : List.map sqC [q, q2] = [[.sl 5 (q.left.map fmC), .sl 5 (q.right.map fmC)], [.sl 5 (q2.left.map fmC), .sl 5 (q2.right.map fmC)]] := rfl
set_option maxHeartbeats 2000000 in
theorem prop_3 (s : Sq) (hs : s.good = true) (m : Int) (p : Fm) (hp : p.wt <= 1048576) : FC Tryz.prog 201 [sqD s, iD 3, iD m, .one (fmS [p])] [.one (sqS [zbg s m [] (-1) [p]])] := by
 have hw0 : ∀ x ∈ ([] : List Fm), x.wt <= 1048576 := fun x hx => by cases hx
 have hp1 : ∀ x ∈ [p], x.wt <= 1048576 := fun x hx => by rw [List.mem_singleton.1 hx]; exact hp
 have H0 := zep s hs m (-1) [] [p] hw0 hp1 (by simp) (by simp)
 generalize zbg s m [] (-1) [p] = Q0 at H0 ⊢
 rw [sqS, hsq1]
 simp only [sqD, zah, fmS, List.map_cons, List.map_nil] at H0 ⊢
 refine zag Tryz.call201 Tryz.func201 rfl (by kernel_rfl) (zau (by kernel_rfl)) ?_
 simp -implicitDefEqProofs only [go_sem, Tryz.results201]
 refine zal (by simp -implicitDefEqProofs only [go_sem]) ?_
 simp -implicitDefEqProofs only [go_sem]
 refine callF (H0) (by simp -implicitDefEqProofs only [go_sem]) ?_
 simp -implicitDefEqProofs only [go_sem]
 refine zal (by simp -implicitDefEqProofs only [go_sem]) ?_
 simp -implicitDefEqProofs only [go_sem]
set_option maxHeartbeats 2000000 in
theorem prop_4 (s : Sq) (hs : s.good = true) (m : Int) (p : Fm) (hp : p.wt <= 1048576) : FC Tryz.prog 201 [sqD s, iD 4, iD m, .one (fmS [p])] [.one (sqS [zbg s (-1) [p] m []])] := by
 have hw0 : ∀ x ∈ ([] : List Fm), x.wt <= 1048576 := fun x hx => by cases hx
 have hp1 : ∀ x ∈ [p], x.wt <= 1048576 := fun x hx => by rw [List.mem_singleton.1 hx]; exact hp
 have H0 := zep s hs (-1) m [p] [] hp1 hw0 (by simp) (by simp)
 generalize zbg s (-1) [p] m [] = Q0 at H0 ⊢
 rw [sqS, hsq1]
 simp only [sqD, zah, fmS, List.map_cons, List.map_nil] at H0 ⊢
 refine zag Tryz.call201 Tryz.func201 rfl (by kernel_rfl) (zau (by kernel_rfl)) ?_
 simp -implicitDefEqProofs only [go_sem, Tryz.results201]
 refine zal (by simp -implicitDefEqProofs only [go_sem]) ?_
 simp -implicitDefEqProofs only [go_sem]
 refine callF (H0) (by simp -implicitDefEqProofs only [go_sem]) ?_
 simp -implicitDefEqProofs only [go_sem]
 refine zal (by simp -implicitDefEqProofs only [go_sem]) ?_
 simp -implicitDefEqProofs only [go_sem]
set_option maxHeartbeats 2000000 in
theorem prop_5 (s : Sq) (hs : s.good = true) (m : Int) (p q : Fm) (hp : p.wt <= 1048576) (hq : q.wt <= 1048576) : FC Tryz.prog 201 [sqD s, iD 5, iD m, .one (fmS [p, q])] [.one (sqS [zbg s m [p, q] (-1) []])] := by
 have hw0 : ∀ x ∈ ([] : List Fm), x.wt <= 1048576 := fun x hx => by cases hx
 have hp1 : ∀ x ∈ [p], x.wt <= 1048576 := fun x hx => by rw [List.mem_singleton.1 hx]; exact hp
 have hq1 : ∀ x ∈ [q], x.wt <= 1048576 := fun x hx => by rw [List.mem_singleton.1 hx]; exact hq
 have hpq : ∀ x ∈ [p, q], x.wt <= 1048576 := fun x hx => by
  simp only [List.mem_cons, List.not_mem_nil, or_false] at hx
  rcases hx with rfl | rfl
  ·exact hp
  ·exact hq
 have H0 := zep s hs m (-1) [p, q] [] hpq hw0 (by simp) (by simp)
 generalize zbg s m [p, q] (-1) [] = Q0 at H0 ⊢
 rw [sqS, hsq1]
 simp only [sqD, zah, fmS, List.map_cons, List.map_nil] at H0 ⊢
 refine zag Tryz.call201 Tryz.func201 rfl (by kernel_rfl) (zau (by kernel_rfl)) ?_
 simp -implicitDefEqProofs only [go_sem, Tryz.results201]
 refine zal (by simp -implicitDefEqProofs only [go_sem]) ?_
 simp -implicitDefEqProofs only [go_sem]
 refine callF (H0) (by simp -implicitDefEqProofs only [go_sem]) ?_
 simp -implicitDefEqProofs only [go_sem]
 refine zal (by simp -implicitDefEqProofs only [go_sem]) ?_
 simp -implicitDefEqProofs only [go_sem]
set_option maxHeartbeats 2000000 in
theorem prop_6 (s : Sq) (hs : s.good = true) (m : Int) (p q : Fm) (hp : p.wt <= 1048576) (hq : q.wt <= 1048576) : FC Tryz.prog 201 [sqD s, iD 6, iD m, .one (fmS [p, q])] [.one (sqS [zbg s (-1) [] m [p], zbg s (-1) [] m [q]])] := by
 have hw0 : ∀ x ∈ ([] : List Fm), x.wt <= 1048576 := fun x hx => by cases hx
 have hp1 : ∀ x ∈ [p], x.wt <= 1048576 := fun x hx => by rw [List.mem_singleton.1 hx]; exact hp
 have hq1 : ∀ x ∈ [q], x.wt <= 1048576 := fun x hx => by rw [List.mem_singleton.1 hx]; exact hq
 have hpq : ∀ x ∈ [p, q], x.wt <= 1048576 := fun x hx => by
  simp only [List.mem_cons, List.not_mem_nil, or_false] at hx
  rcases hx with rfl | rfl
  ·exact hp
  ·exact hq
 have H0 := zep s hs (-1) m [] [p] hw0 hp1 (by simp) (by simp)
 have H1 := zep s hs (-1) m [] [q] hw0 hq1 (by simp) (by simp)
 generalize zbg s (-1) [] m [p] = Q0 at H0 ⊢
 generalize zbg s (-1) [] m [q] = Q1 at H1 ⊢
 rw [sqS, hsq2]
 simp only [sqD, zah, fmS, List.map_cons, List.map_nil] at H0 H1 ⊢
 refine zag Tryz.call201 Tryz.func201 rfl (by kernel_rfl) (zau (by kernel_rfl)) ?_
 simp -implicitDefEqProofs only [go_sem, Tryz.results201]
 refine zal (by simp -implicitDefEqProofs only [go_sem]) ?_
 simp -implicitDefEqProofs only [go_sem]
 refine drawn (by kernel_rfl) ?_
 simp -implicitDefEqProofs only [go_sem]
 refine zan (H0) (by simp -implicitDefEqProofs only [go_sem]) ?_
 simp -implicitDefEqProofs only [go_sem]
 refine zan (H1) (by simp -implicitDefEqProofs only [go_sem]) ?_
 simp -implicitDefEqProofs only [go_sem]
 refine zbp (by simp -implicitDefEqProofs only [go_sem]) ?_
 simp -implicitDefEqProofs only [go_sem]
 kernel_rfl
set_option maxHeartbeats 2000000 in
theorem prop_7 (s : Sq) (hs : s.good = true) (m : Int) (p q : Fm) (hp : p.wt <= 1048576) (hq : q.wt <= 1048576) : FC Tryz.prog 201 [sqD s, iD 7, iD m, .one (fmS [p, q])] [.one (sqS [zbg s m [p] (-1) [], zbg s m [q] (-1) []])] := by
 have hw0 : ∀ x ∈ ([] : List Fm), x.wt <= 1048576 := fun x hx => by cases hx
 have hp1 : ∀ x ∈ [p], x.wt <= 1048576 := fun x hx => by rw [List.mem_singleton.1 hx]; exact hp
 have hq1 : ∀ x ∈ [q], x.wt <= 1048576 := fun x hx => by rw [List.mem_singleton.1 hx]; exact hq
 have hpq : ∀ x ∈ [p, q], x.wt <= 1048576 := fun x hx => by
  simp only [List.mem_cons, List.not_mem_nil, or_false] at hx
  rcases hx with rfl | rfl
  ·exact hp
  ·exact hq
 have H0 := zep s hs m (-1) [p] [] hp1 hw0 (by simp) (by simp)
 have H1 := zep s hs m (-1) [q] [] hq1 hw0 (by simp) (by simp)
 generalize zbg s m [p] (-1) [] = Q0 at H0 ⊢
 generalize zbg s m [q] (-1) [] = Q1 at H1 ⊢
 rw [sqS, hsq2]
 simp only [sqD, zah, fmS, List.map_cons, List.map_nil] at H0 H1 ⊢
 refine zag Tryz.call201 Tryz.func201 rfl (by kernel_rfl) (zau (by kernel_rfl)) ?_
 simp -implicitDefEqProofs only [go_sem, Tryz.results201]
 refine zal (by simp -implicitDefEqProofs only [go_sem]) ?_
 simp -implicitDefEqProofs only [go_sem]
 refine drawn (by kernel_rfl) ?_
 simp -implicitDefEqProofs only [go_sem]
 refine zan (H0) (by simp -implicitDefEqProofs only [go_sem]) ?_
 simp -implicitDefEqProofs only [go_sem]
 refine zan (H1) (by simp -implicitDefEqProofs only [go_sem]) ?_
 simp -implicitDefEqProofs only [go_sem]
 refine zbp (by simp -implicitDefEqProofs only [go_sem]) ?_
 simp -implicitDefEqProofs only [go_sem]
 kernel_rfl
set_option maxHeartbeats 2000000 in
theorem prop_8 (s : Sq) (hs : s.good = true) (m : Int) (p q : Fm) (hp : p.wt <= 1048576) (hq : q.wt <= 1048576) : FC Tryz.prog 201 [sqD s, iD 8, iD m, .one (fmS [p, q])] [.one (sqS [zbg s (-1) [] m [p, q]])] := by
 have hw0 : ∀ x ∈ ([] : List Fm), x.wt <= 1048576 := fun x hx => by cases hx
 have hp1 : ∀ x ∈ [p], x.wt <= 1048576 := fun x hx => by rw [List.mem_singleton.1 hx]; exact hp
 have hq1 : ∀ x ∈ [q], x.wt <= 1048576 := fun x hx => by rw [List.mem_singleton.1 hx]; exact hq
 have hpq : ∀ x ∈ [p, q], x.wt <= 1048576 := fun x hx => by
  simp only [List.mem_cons, List.not_mem_nil, or_false] at hx
  rcases hx with rfl | rfl
  ·exact hp
  ·exact hq
 have H0 := zep s hs (-1) m [] [p, q] hw0 hpq (by simp) (by simp)
 generalize zbg s (-1) [] m [p, q] = Q0 at H0 ⊢
 rw [sqS, hsq1]
 simp only [sqD, zah, fmS, List.map_cons, List.map_nil] at H0 ⊢
 refine zag Tryz.call201 Tryz.func201 rfl (by kernel_rfl) (zau (by kernel_rfl)) ?_
 simp -implicitDefEqProofs only [go_sem, Tryz.results201]
 refine zal (by simp -implicitDefEqProofs only [go_sem]) ?_
 simp -implicitDefEqProofs only [go_sem]
 refine callF (H0) (by simp -implicitDefEqProofs only [go_sem]) ?_
 simp -implicitDefEqProofs only [go_sem]
 refine zal (by simp -implicitDefEqProofs only [go_sem]) ?_
 simp -implicitDefEqProofs only [go_sem]
set_option maxHeartbeats 2000000 in
theorem prop_9 (s : Sq) (hs : s.good = true) (m : Int) (p q : Fm) (hp : p.wt <= 1048576) (hq : q.wt <= 1048576) : FC Tryz.prog 201 [sqD s, iD 9, iD m, .one (fmS [p, q])] [.one (sqS [zbg s m [] (-1) [p], zbg s m [q] (-1) []])] := by
 have hw0 : ∀ x ∈ ([] : List Fm), x.wt <= 1048576 := fun x hx => by cases hx
 have hp1 : ∀ x ∈ [p], x.wt <= 1048576 := fun x hx => by rw [List.mem_singleton.1 hx]; exact hp
 have hq1 : ∀ x ∈ [q], x.wt <= 1048576 := fun x hx => by rw [List.mem_singleton.1 hx]; exact hq
 have hpq : ∀ x ∈ [p, q], x.wt <= 1048576 := fun x hx => by
  simp only [List.mem_cons, List.not_mem_nil, or_false] at hx
  rcases hx with rfl | rfl
  ·exact hp
  ·exact hq
 have H0 := zep s hs m (-1) [] [p] hw0 hp1 (by simp) (by simp)
 have H1 := zep s hs m (-1) [q] [] hq1 hw0 (by simp) (by simp)
 generalize zbg s m [] (-1) [p] = Q0 at H0 ⊢
 generalize zbg s m [q] (-1) [] = Q1 at H1 ⊢
 rw [sqS, hsq2]
 simp only [sqD, zah, fmS, List.map_cons, List.map_nil] at H0 H1 ⊢
 refine zag Tryz.call201 Tryz.func201 rfl (by kernel_rfl) (zau (by kernel_rfl)) ?_
 simp -implicitDefEqProofs only [go_sem, Tryz.results201]
 refine zal (by simp -implicitDefEqProofs only [go_sem]) ?_
 simp -implicitDefEqProofs only [go_sem]
 refine drawn (by kernel_rfl) ?_
 simp -implicitDefEqProofs only [go_sem]
 refine zan (H0) (by simp -implicitDefEqProofs only [go_sem]) ?_
 simp -implicitDefEqProofs only [go_sem]
 refine zan (H1) (by simp -implicitDefEqProofs only [go_sem]) ?_
 simp -implicitDefEqProofs only [go_sem]
 refine zbp (by simp -implicitDefEqProofs only [go_sem]) ?_
 simp -implicitDefEqProofs only [go_sem]
 kernel_rfl
set_option maxHeartbeats 2000000 in
theorem qkf (s : Sq) (hs : s.good = true) (m : Int) (p q : Fm) (hp : p.wt <= 1048576) (hq : q.wt <= 1048576) : FC Tryz.prog 201 [sqD s, iD 10, iD m, .one (fmS [p, q])] [.one (sqS [zbg s (-1) [p] m [q]])] := by
 have hw0 : ∀ x ∈ ([] : List Fm), x.wt <= 1048576 := fun x hx => by cases hx
 have hp1 : ∀ x ∈ [p], x.wt <= 1048576 := fun x hx => by rw [List.mem_singleton.1 hx]; exact hp
 have hq1 : ∀ x ∈ [q], x.wt <= 1048576 := fun x hx => by rw [List.mem_singleton.1 hx]; exact hq
 have hpq : ∀ x ∈ [p, q], x.wt <= 1048576 := fun x hx => by
  simp only [List.mem_cons, List.not_mem_nil, or_false] at hx
  rcases hx with rfl | rfl
  ·exact hp
  ·exact hq
 have H0 := zep s hs (-1) m [p] [q] hp1 hq1 (by simp) (by simp)
 generalize zbg s (-1) [p] m [q] = Q0 at H0 ⊢
 rw [sqS, hsq1]
 simp only [sqD, zah, fmS, List.map_cons, List.map_nil] at H0 ⊢
 refine zag Tryz.call201 Tryz.func201 rfl (by kernel_rfl) (zau (by kernel_rfl)) ?_
 simp -implicitDefEqProofs only [go_sem, Tryz.results201]
 refine zal (by simp -implicitDefEqProofs only [go_sem]) ?_
 simp -implicitDefEqProofs only [go_sem]
 refine callF (H0) (by simp -implicitDefEqProofs only [go_sem]) ?_
 simp -implicitDefEqProofs only [go_sem]
 refine zal (by simp -implicitDefEqProofs only [go_sem]) ?_
 simp -implicitDefEqProofs only [go_sem]
theorem zew (s : Sq) (hs : s.good = true) (d : Dv) (hr : 3 <= d.rule /\ d.rule <= 10) (f : Fm) (hf : f.good = true) (ho : f.op = opL d.rule) : FC Tryz.prog 201 [sqD s, iD d.rule, iD d.main, .one (fmS f.parts)] [.one (sqS ((zck s d.rule f).1.map (zfa s d)))] := by
 obtain ⟨r, sq, m, t, c, ps⟩ := d
 simp only [Dv.rule, Dv.main] at hr ho ⊢
 have hw := zc2 hf
 have hpw : ∀ x ∈ f.parts, x.wt <= 1048576 := fun x hx => Nat.le_trans (zct hx) (by omega)
 have hr' : r = 3 \/ r = 4 \/ r = 5 \/ r = 6 \/ r = 7 \/ r = 8 \/ r = 9 \/ r = 10 := by omega
 rcases hr' with rfl | rfl | rfl | rfl | rfl | rfl | rfl | rfl
 ·obtain ⟨p, hp⟩ := zj8 hf ho
  rw [hp] at hpw ⊢
  have h := prop_3 s hs m p (hpw p (by simp))
  have e : ((zck s 3 f).1.map (zfa s (.mk 3 sq m t c ps))) = [zbg s m [] (-1) [p]] := by
   have e0 : zck s 3 f = ([⟨[], [f.parts.getD 0 zao]⟩], true) := rfl
   rw [e0, hp]; rfl
  rw [e]; exact h
 ·obtain ⟨p, hp⟩ := zj8 hf ho
  rw [hp] at hpw ⊢
  have h := prop_4 s hs m p (hpw p (by simp))
  have e : ((zck s 4 f).1.map (zfa s (.mk 4 sq m t c ps))) = [zbg s (-1) [p] m []] := by
   have e0 : zck s 4 f = ([⟨[f.parts.getD 0 zao], []⟩], true) := rfl
   rw [e0, hp]; rfl
  rw [e]; exact h
 ·obtain ⟨p, q, hp⟩ := zc3 hf (Or.inl ho)
  rw [hp] at hpw ⊢
  have h := prop_5 s hs m p q (hpw p (by simp)) (hpw q (by simp))
  have e : ((zck s 5 f).1.map (zfa s (.mk 5 sq m t c ps))) = [zbg s m [p, q] (-1) []] := by
   unfold zck
   simp only [show (5 : Int) = 1 ↔ False by decide, show (5 : Int) = 2 ↔ False by decide, show (5 : Int) = 3 ↔ False by decide, show (5 : Int) = 4 ↔ False by decide, hp, if_false]
   rfl
  rw [e]; exact h
 ·obtain ⟨p, q, hp⟩ := zc3 hf (Or.inl ho)
  rw [hp] at hpw ⊢
  have h := prop_6 s hs m p q (hpw p (by simp)) (hpw q (by simp))
  have e : ((zck s 6 f).1.map (zfa s (.mk 6 sq m t c ps))) = [zbg s (-1) [] m [p], zbg s (-1) [] m [q]] := by
   unfold zck
   simp only [show (6 : Int) = 1 ↔ False by decide, show (6 : Int) = 2 ↔ False by decide, show (6 : Int) = 3 ↔ False by decide, show (6 : Int) = 4 ↔ False by decide, hp, if_false]
   rfl
  rw [e]; exact h
 ·obtain ⟨p, q, hp⟩ := zc3 hf (Or.inr (Or.inl ho))
  rw [hp] at hpw ⊢
  have h := prop_7 s hs m p q (hpw p (by simp)) (hpw q (by simp))
  have e : ((zck s 7 f).1.map (zfa s (.mk 7 sq m t c ps))) = [zbg s m [p] (-1) [], zbg s m [q] (-1) []] := by
   unfold zck
   simp only [show (7 : Int) = 1 ↔ False by decide, show (7 : Int) = 2 ↔ False by decide, show (7 : Int) = 3 ↔ False by decide, show (7 : Int) = 4 ↔ False by decide, hp, if_false]
   rfl
  rw [e]; exact h
 ·obtain ⟨p, q, hp⟩ := zc3 hf (Or.inr (Or.inl ho))
  rw [hp] at hpw ⊢
  have h := prop_8 s hs m p q (hpw p (by simp)) (hpw q (by simp))
  have e : ((zck s 8 f).1.map (zfa s (.mk 8 sq m t c ps))) = [zbg s (-1) [] m [p, q]] := by
   unfold zck
   simp only [show (8 : Int) = 1 ↔ False by decide, show (8 : Int) = 2 ↔ False by decide, show (8 : Int) = 3 ↔ False by decide, show (8 : Int) = 4 ↔ False by decide, hp, if_false]
   rfl
  rw [e]; exact h
 ·obtain ⟨p, q, hp⟩ := zc3 hf (Or.inr (Or.inr ho))
  rw [hp] at hpw ⊢
  have h := prop_9 s hs m p q (hpw p (by simp)) (hpw q (by simp))
  have e : ((zck s 9 f).1.map (zfa s (.mk 9 sq m t c ps))) = [zbg s m [] (-1) [p], zbg s m [q] (-1) []] := by
   unfold zck
   simp only [show (9 : Int) = 1 ↔ False by decide, show (9 : Int) = 2 ↔ False by decide, show (9 : Int) = 3 ↔ False by decide, show (9 : Int) = 4 ↔ False by decide, hp, if_false]
   rfl
  rw [e]; exact h
 ·obtain ⟨p, q, hp⟩ := zc3 hf (Or.inr (Or.inr ho))
  rw [hp] at hpw ⊢
  have h := qkf s hs m p q (hpw p (by simp)) (hpw q (by simp))
  have e : ((zck s 10 f).1.map (zfa s (.mk 10 sq m t c ps))) = [zbg s (-1) [p] m [q]] := by
   unfold zck
   simp only [show (10 : Int) = 1 ↔ False by decide, show (10 : Int) = 2 ↔ False by decide, show (10 : Int) = 3 ↔ False by decide, show (10 : Int) = 4 ↔ False by decide, hp, if_false]
   rfl
  rw [e]; exact h
end Go.Proofs.YtemnhgmgeijkcaaGreat
namespace Go.Proofs.YtemnhgmgeijkcaaGreat
set_option linter.unusedSimpArgs false
set_option linter.unusedVariables false
set_option linter.unusedSectionVars false
set_option maxRecDepth 4000
open Go.RowKit
theorem zh7 (t : Tm) : same t (.mk [] []) = t.none := by
 obtain ⟨n, a⟩ := t
 rw [Bool.eq_iff_iff, zbs]
 unfold Tm.none
 simp only [Tm.name, Tm.args, Bool.and_eq_true, beq_iff_eq, decide_eq_true_eq, List.length_eq_zero_iff, Tm.mk.injEq]
theorem zn2 {side : List Fm} {m : Int} (h : inB m 0 (side.length - 1) = true) : ∃ j : Nat, m = j /\ j < side.length := by
 unfold inB at h
 simp only [Bool.and_eq_true, decide_eq_true_eq] at h
 exact ⟨m.toNat, by omega, by omega⟩
set_option maxHeartbeats 2000000 in
theorem qkn (s sq : Sq) (r m : Int) (t : Tm) (c : Fm) (ps : List Dv) (h : ((!inB r 11 14 && !t.none) || (!(r == 15) && !same c zao)) = true) : FC Tryz.prog 138 [sqD s, dvD (.mk r sq m t c ps)] [.one (sqS []), bD false] := by
 have HQ := zfv r 11 14
 have HT := zig t (.mk [] [])
 have HC := zh8 c zao
 have hzt : tmD (.mk [] []) = .agg [.str [], .sl 2 []] := rfl
 have hzf : fmD zao = .agg [.int .i64 0, .str [], .sl 2 [], .str [], .sl 5 []] := rfl
 rw [zh7, hzt] at HT
 rw [hzf] at HC
 simp only [sqD, zah, dvD, zbo, tmD, zab t, fmD, zaa c] at HT HC ⊢
 show FC _ _ _ [.one (.sl 2 []), _]
 have hne15 : (r != 15) = !(r == 15) := rfl
 generalize inB r 11 14 = q at HQ h
 generalize t.none = n at HT h
 generalize same c zao = sc at HC h
 cases q
 ·cases n
  ·refine zag Tryz.call138 Tryz.func138 rfl (by kernel_rfl) (zau (by kernel_rfl)) ?_
   simp -implicitDefEqProofs only [go_sem, Tryz.results138]
   refine zal (by simp -implicitDefEqProofs only [go_sem]) ?_
   simp -implicitDefEqProofs only [go_sem]
   refine callF (HQ) (by simp -implicitDefEqProofs only [go_sem]) ?_
   simp -implicitDefEqProofs only [go_sem]
   refine callF (HT) (by simp -implicitDefEqProofs only [go_sem]) ?_
   simp -implicitDefEqProofs only [go_sem]
  ·simp only [Bool.not_false, Bool.not_true, Bool.and_false, Bool.false_or, Bool.and_eq_true, Bool.not_eq_true'] at h
   obtain ⟨h15, rfl⟩ := h
   have hne15 : (r != 15) = true := by unfold bne; rw [h15]; rfl
   refine zag Tryz.call138 Tryz.func138 rfl (by kernel_rfl) (zau (by kernel_rfl)) ?_
   simp -implicitDefEqProofs only [go_sem, Tryz.results138]
   refine zal (by simp -implicitDefEqProofs only [go_sem]) ?_
   simp -implicitDefEqProofs only [go_sem]
   refine callF (HQ) (by simp -implicitDefEqProofs only [go_sem]) ?_
   simp -implicitDefEqProofs only [go_sem]
   refine callF (HT) (by simp -implicitDefEqProofs only [go_sem, hne15]) ?_
   simp -implicitDefEqProofs only [go_sem, hne15]
   refine callF (HC) (by simp -implicitDefEqProofs only [go_sem]) ?_
   simp -implicitDefEqProofs only [go_sem]
 ·simp only [Bool.not_true, Bool.false_and, Bool.false_or, Bool.and_eq_true, Bool.not_eq_true'] at h
  obtain ⟨h15, rfl⟩ := h
  have hne15 : (r != 15) = true := by unfold bne; rw [h15]; rfl
  refine zag Tryz.call138 Tryz.func138 rfl (by kernel_rfl) (zau (by kernel_rfl)) ?_
  simp -implicitDefEqProofs only [go_sem, Tryz.results138]
  refine zal (by simp -implicitDefEqProofs only [go_sem]) ?_
  simp -implicitDefEqProofs only [go_sem]
  refine callF (HQ) (by simp -implicitDefEqProofs only [go_sem, hne15]) ?_
  simp -implicitDefEqProofs only [go_sem, hne15]
  refine callF (HC) (by simp -implicitDefEqProofs only [go_sem]) ?_
  simp -implicitDefEqProofs only [go_sem]
set_option maxHeartbeats 2000000 in
theorem qic (s sq : Sq) (hs : s.good = true) (m : Int) (t : Tm) (c : Fm) (ps : List Dv) (hn : t.none = true) (hc : c.wt <= 1048576) : FC Tryz.prog 138 [sqD s, dvD (.mk 15 sq m t c ps)] [.one (sqS [zbg s (-1) [] (-1) [c], zbg s (-1) [c] (-1) []]), bD (m == 0 && c.good)] := by
 have HQ : FC Tryz.prog 195 [iD 15, iD 11, iD 14] [bD false] := zfv 15 11 14
 have HT := zig t (.mk [] [])
 have hzt : tmD (.mk [] []) = .agg [.str [], .sl 2 []] := rfl
 rw [zh7, hzt, hn] at HT
 have hw0 : ∀ x ∈ ([] : List Fm), x.wt <= 1048576 := fun x hx => by cases hx
 have hw1 : ∀ x ∈ [c], x.wt <= 1048576 := fun x hx => by rw [List.mem_singleton.1 hx]; exact hc
 have HA := zep s hs (-1) (-1) [] [c] hw0 hw1 (by simp) (by simp)
 have HB := zep s hs (-1) (-1) [c] [] hw1 hw0 (by simp) (by simp)
 have HG := zt7 c (by omega)
 generalize zbg s (-1) [] (-1) [c] = Q0 at HA ⊢
 generalize zbg s (-1) [c] (-1) [] = Q1 at HB ⊢
 generalize c.good = cg at HG ⊢
 rw [sqS, hsq2]
 simp only [sqD, zah, dvD, zbo, tmD, zab t, fmD, fmS, zaa c, List.map_cons, List.map_nil] at HT HA HB HG ⊢
 cases hm : (m == 0)
 ·rw [Bool.false_and]
  refine zag Tryz.call138 Tryz.func138 rfl (by kernel_rfl) (zau (by kernel_rfl)) ?_
  simp -implicitDefEqProofs only [go_sem, Tryz.results138]
  refine zal (by simp -implicitDefEqProofs only [go_sem]) ?_
  simp -implicitDefEqProofs only [go_sem]
  refine callF (HQ) (by simp -implicitDefEqProofs only [go_sem]) ?_
  simp -implicitDefEqProofs only [go_sem]
  refine callF (HT) (by simp -implicitDefEqProofs only [go_sem]) ?_
  simp -implicitDefEqProofs only [go_sem]
  refine zcq (by simp -implicitDefEqProofs only [go_sem]) ?_
  simp -implicitDefEqProofs only [go_sem]
  refine drawn (by kernel_rfl) ?_
  simp -implicitDefEqProofs only [go_sem]
  refine zkb (by simp -implicitDefEqProofs only [go_sem]) ?_
  simp -implicitDefEqProofs only [go_sem]
  refine zan (HA) (by simp -implicitDefEqProofs only [go_sem]) ?_
  simp -implicitDefEqProofs only [go_sem]
  refine zkb (by simp -implicitDefEqProofs only [go_sem]) ?_
  simp -implicitDefEqProofs only [go_sem]
  refine zan (HB) (by simp -implicitDefEqProofs only [go_sem]) ?_
  simp -implicitDefEqProofs only [go_sem]
  refine zbp (by simp -implicitDefEqProofs only [go_sem, hm]) ?_
  simp -implicitDefEqProofs only [go_sem, hm]
  kernel_rfl
 ·rw [Bool.true_and]
  refine zag Tryz.call138 Tryz.func138 rfl (by kernel_rfl) (zau (by kernel_rfl)) ?_
  simp -implicitDefEqProofs only [go_sem, Tryz.results138]
  refine zal (by simp -implicitDefEqProofs only [go_sem]) ?_
  simp -implicitDefEqProofs only [go_sem]
  refine callF (HQ) (by simp -implicitDefEqProofs only [go_sem]) ?_
  simp -implicitDefEqProofs only [go_sem]
  refine callF (HT) (by simp -implicitDefEqProofs only [go_sem]) ?_
  simp -implicitDefEqProofs only [go_sem]
  refine zcq (by simp -implicitDefEqProofs only [go_sem]) ?_
  simp -implicitDefEqProofs only [go_sem]
  refine drawn (by kernel_rfl) ?_
  simp -implicitDefEqProofs only [go_sem]
  refine zkb (by simp -implicitDefEqProofs only [go_sem]) ?_
  simp -implicitDefEqProofs only [go_sem]
  refine zan (HA) (by simp -implicitDefEqProofs only [go_sem]) ?_
  simp -implicitDefEqProofs only [go_sem]
  refine zkb (by simp -implicitDefEqProofs only [go_sem]) ?_
  simp -implicitDefEqProofs only [go_sem]
  refine zan (HB) (by simp -implicitDefEqProofs only [go_sem]) ?_
  simp -implicitDefEqProofs only [go_sem]
  refine zbp (by simp -implicitDefEqProofs only [go_sem, hm]) ?_
  simp -implicitDefEqProofs only [go_sem, hm]
  refine za6 (HG) (by simp -implicitDefEqProofs only [go_sem]) ?_
  simp -implicitDefEqProofs only [go_sem]
  kernel_rfl
set_option maxHeartbeats 8000000 in
theorem rule_q (s sq : Sq) (r m : Int) (t : Tm) (c : Fm) (ps : List Dv) (hs : s.good = true) (hq : inB r 11 14 = true) (ht : t.wt <= 1048576) (h15 : (r == 15) = false) (hcz : same c zao = true) (X : List Sq × Bool) (hX : X = if (inB r 1 15 && zbn s (.mk r sq m t c ps)) = true then qS s (.mk r sq m t c ps) (zb0 s (.mk r sq m t c ps)) else ([], false)) : FC Tryz.prog 138 [sqD s, dvD (.mk r sq m t c ps)] [.one (sqS X.1), bD X.2] := by
 obtain ⟨l1, l2, g1, g2⟩ := zg6 hs
 have hne15 : (r != 15) = true := by unfold bne; rw [h15]; rfl
 have h15' : r ≠ 15 := by simpa using h15
 have HR := zfv r 1 15
 have HOn := onL_c r
 have HQ := zfv r 11 14
 have HT := zig t (.mk [] [])
 have HC := zh8 c zao
 have hzt : tmD (.mk [] []) = .agg [.str [], .sl 2 []] := rfl
 have hzf : fmD zao = .agg [.int .i64 0, .str [], .sl 2 [], .str [], .sl 5 []] := rfl
 rw [zh7, hzt] at HT
 rw [hzf] at HC
 rw [hq] at HQ
 rw [hcz] at HC
 have hr4 : 11 <= r /\ r <= 14 := by unfold inB at hq; simpa only [Bool.and_eq_true, decide_eq_true_eq] using hq
 have hin : inB r 1 15 = true := by unfold inB; simp only [Bool.and_eq_true, decide_eq_true_eq]; omega
 have h1 : (r == 1) = false := by rw [beq_eq_false_iff_ne]; omega
 have h2 : (r == 2) = false := by rw [beq_eq_false_iff_ne]; omega
 have hmk : ∀ side, zem s r = side -> zbn s (.mk r sq m t c ps) = (inB m 0 (side.length - 1) && (opL r == 0 || (side.getD m.toNat zao).op == opL r)) := fun side hh => by rw [<- hh]; rfl
 have hmf : ∀ side, zem s r = side -> zb0 s (.mk r sq m t c ps) = side.getD m.toNat zao := fun side hh => by rw [<- hh]; rfl
 have HXX := fun f hf ho => zlh s hs (.mk r sq m t c ps) hq ht f hf ho
 simp only [Dv.rule, Dv.main, Dv.term] at HXX
 have ho0 : (opL r == 0) = false := by
  rcases (show r = 11 \/ r = 12 \/ r = 13 \/ r = 14 by omega) with rfl | rfl | rfl | rfl <;> rfl
 have hopq : ∀ o : Int, o = opL r -> o = 8 \/ o = 9 := fun o e => by
  rcases (show r = 11 \/ r = 12 \/ r = 13 \/ r = 14 by omega) with rfl | rfl | rfl | rfl
  ·exact Or.inl e
  ·exact Or.inl e
  ·exact Or.inr e
  ·exact Or.inr e
 rw [hin] at HR
 rw [hin, Bool.true_and] at hX
 have HO := qj0 r (by omega)
 cases hon : onL r
 ·have hsd : zem s r = s.right := by unfold zem; rw [hon]; rfl
  have hmk := hmk _ hsd
  have hmf := hmf _ hsd
  have gg := g2
  rw [hon] at HOn
  have HM := zfv m 0 (s.right.length - 1)
  have hw : IntKind.i64.wrap ((s.right.length : Int) - 1) = (s.right.length : Int) - 1 := zbk (by omega) (by omega)
  cases hir : inB m 0 (s.right.length - 1)
  ·rw [hir] at HM
   rw [hir, Bool.false_and] at hmk
   rw [hmk, if_neg (by simp)] at hX
   subst hX
   simp only [sqD, zah, dvD, zbo, tmD, zab t, fmD, zaa c] at HT HC ⊢
   show FC _ _ _ [.one (.sl 2 []), _]
   refine zag Tryz.call138 Tryz.func138 rfl (by kernel_rfl) (zau (by kernel_rfl)) ?_
   simp -implicitDefEqProofs only [go_sem, Tryz.results138]
   refine zal (by simp -implicitDefEqProofs only [go_sem]) ?_
   simp -implicitDefEqProofs only [go_sem]
   refine callF (HQ) (by simp -implicitDefEqProofs only [go_sem, hne15]) ?_
   simp -implicitDefEqProofs only [go_sem, hne15]
   refine callF (HC) (by simp -implicitDefEqProofs only [go_sem, h15]) ?_
   simp -implicitDefEqProofs only [go_sem, h15]
   refine callF (HOn) (by simp -implicitDefEqProofs only [go_sem]) ?_
   simp -implicitDefEqProofs only [go_sem]
   refine callF (HR) (by simp -implicitDefEqProofs only [go_sem, hw]) ?_
   simp -implicitDefEqProofs only [go_sem, hw]
   refine callF (HM) (by simp -implicitDefEqProofs only [go_sem]) ?_
   simp -implicitDefEqProofs only [go_sem]
  ·rw [hir] at HM
   obtain ⟨j, rfl, hj⟩ := zn2 hir
   rw [Int.toNat_natCast, zcs hj] at hmf
   rw [hir, Bool.true_and, Int.toNat_natCast, zcs hj] at hmk
   have hg := gg _ (List.getElem_mem hj)
   rw [ho0, Bool.false_or] at hmk
   cases hop : (s.right[j].op == opL r)
   ·have hne : (s.right[j].op != opL r) = true := by unfold bne; rw [hop]; rfl
    rw [hop] at hmk
    rw [hmk, if_neg (by simp)] at hX
    subst hX
    simp only [sqD, zah, dvD, zbo, tmD, zab t, fmD, zaa c] at HT HC ⊢
    show FC _ _ _ [.one (.sl 2 []), _]
    refine zag Tryz.call138 Tryz.func138 rfl (by kernel_rfl) (zau (by kernel_rfl)) ?_
    simp -implicitDefEqProofs only [go_sem, Tryz.results138]
    refine zal (by simp -implicitDefEqProofs only [go_sem]) ?_
    simp -implicitDefEqProofs only [go_sem]
    refine callF (HQ) (by simp -implicitDefEqProofs only [go_sem, hne15]) ?_
    simp -implicitDefEqProofs only [go_sem, hne15]
    refine callF (HC) (by simp -implicitDefEqProofs only [go_sem, h15]) ?_
    simp -implicitDefEqProofs only [go_sem, h15]
    refine callF (HOn) (by simp -implicitDefEqProofs only [go_sem]) ?_
    simp -implicitDefEqProofs only [go_sem]
    refine callF (HR) (by simp -implicitDefEqProofs only [go_sem, hw]) ?_
    simp -implicitDefEqProofs only [go_sem, hw]
    refine callF (HM) (by simp -implicitDefEqProofs only [go_sem, hj, zaf, zaa s.right[j], h1]) ?_
    simp -implicitDefEqProofs only [go_sem, hj, zaf, zaa s.right[j], h1]
    refine drawn (by kernel_rfl) ?_
    simp -implicitDefEqProofs only [go_sem]
    refine zan (HO) (by simp -implicitDefEqProofs only [go_sem, hop, hne]) ?_
    simp -implicitDefEqProofs only [go_sem, hop, hne]
    kernel_rfl
   ·have hne : (s.right[j].op != opL r) = false := by unfold bne; rw [hop]; rfl
    rw [hop] at hmk
    rw [hmk, if_pos rfl, hmf] at hX
    have hop' : s.right[j].op = opL r := by simpa using hop
    have HX := HXX s.right[j] hg (hopq _ hop')
    rw [<- hX] at HX
    obtain ⟨L, b⟩ := X
    simp only [sqD, zah, fmD, zaa s.right[j], tmD, zab t] at HX
    simp only [sqD, zah, dvD, zbo, tmD, zab t, fmD, zaa c] at HT HC ⊢
    refine zag Tryz.call138 Tryz.func138 rfl (by kernel_rfl) (zau (by kernel_rfl)) ?_
    simp -implicitDefEqProofs only [go_sem, Tryz.results138]
    refine zal (by simp -implicitDefEqProofs only [go_sem]) ?_
    simp -implicitDefEqProofs only [go_sem]
    refine callF (HQ) (by simp -implicitDefEqProofs only [go_sem, hne15]) ?_
    simp -implicitDefEqProofs only [go_sem, hne15]
    refine callF (HC) (by simp -implicitDefEqProofs only [go_sem, h15]) ?_
    simp -implicitDefEqProofs only [go_sem, h15]
    refine callF (HOn) (by simp -implicitDefEqProofs only [go_sem]) ?_
    simp -implicitDefEqProofs only [go_sem]
    refine callF (HR) (by simp -implicitDefEqProofs only [go_sem, hw]) ?_
    simp -implicitDefEqProofs only [go_sem, hw]
    refine callF (HM) (by simp -implicitDefEqProofs only [go_sem, hj, zaf, zaa s.right[j], h1]) ?_
    simp -implicitDefEqProofs only [go_sem, hj, zaf, zaa s.right[j], h1]
    refine drawn (by kernel_rfl) ?_
    simp -implicitDefEqProofs only [go_sem]
    refine zan (HO) (by simp -implicitDefEqProofs only [go_sem, hop, hne]) ?_
    simp -implicitDefEqProofs only [go_sem, hop, hne]
    refine ⟨by kernel_rfl, ?_⟩
    simp -implicitDefEqProofs only [go_sem, h2]
    refine callF (HX) (by simp -implicitDefEqProofs only [go_sem]) ?_
    simp -implicitDefEqProofs only [go_sem]
 ·have hsd : zem s r = s.left := by unfold zem; rw [hon]; rfl
  have hmk := hmk _ hsd
  have hmf := hmf _ hsd
  have gg := g1
  rw [hon] at HOn
  have HM := zfv m 0 (s.left.length - 1)
  have hw : IntKind.i64.wrap ((s.left.length : Int) - 1) = (s.left.length : Int) - 1 := zbk (by omega) (by omega)
  cases hir : inB m 0 (s.left.length - 1)
  ·rw [hir] at HM
   rw [hir, Bool.false_and] at hmk
   rw [hmk, if_neg (by simp)] at hX
   subst hX
   simp only [sqD, zah, dvD, zbo, tmD, zab t, fmD, zaa c] at HT HC ⊢
   show FC _ _ _ [.one (.sl 2 []), _]
   refine zag Tryz.call138 Tryz.func138 rfl (by kernel_rfl) (zau (by kernel_rfl)) ?_
   simp -implicitDefEqProofs only [go_sem, Tryz.results138]
   refine zal (by simp -implicitDefEqProofs only [go_sem]) ?_
   simp -implicitDefEqProofs only [go_sem]
   refine callF (HQ) (by simp -implicitDefEqProofs only [go_sem, hne15]) ?_
   simp -implicitDefEqProofs only [go_sem, hne15]
   refine callF (HC) (by simp -implicitDefEqProofs only [go_sem, h15]) ?_
   simp -implicitDefEqProofs only [go_sem, h15]
   refine callF (HOn) (by simp -implicitDefEqProofs only [go_sem]) ?_
   simp -implicitDefEqProofs only [go_sem]
   refine callF (HR) (by simp -implicitDefEqProofs only [go_sem, hw]) ?_
   simp -implicitDefEqProofs only [go_sem, hw]
   refine callF (HM) (by simp -implicitDefEqProofs only [go_sem]) ?_
   simp -implicitDefEqProofs only [go_sem]
  ·rw [hir] at HM
   obtain ⟨j, rfl, hj⟩ := zn2 hir
   rw [Int.toNat_natCast, zcs hj] at hmf
   rw [hir, Bool.true_and, Int.toNat_natCast, zcs hj] at hmk
   have hg := gg _ (List.getElem_mem hj)
   rw [ho0, Bool.false_or] at hmk
   cases hop : (s.left[j].op == opL r)
   ·have hne : (s.left[j].op != opL r) = true := by unfold bne; rw [hop]; rfl
    rw [hop] at hmk
    rw [hmk, if_neg (by simp)] at hX
    subst hX
    simp only [sqD, zah, dvD, zbo, tmD, zab t, fmD, zaa c] at HT HC ⊢
    show FC _ _ _ [.one (.sl 2 []), _]
    refine zag Tryz.call138 Tryz.func138 rfl (by kernel_rfl) (zau (by kernel_rfl)) ?_
    simp -implicitDefEqProofs only [go_sem, Tryz.results138]
    refine zal (by simp -implicitDefEqProofs only [go_sem]) ?_
    simp -implicitDefEqProofs only [go_sem]
    refine callF (HQ) (by simp -implicitDefEqProofs only [go_sem, hne15]) ?_
    simp -implicitDefEqProofs only [go_sem, hne15]
    refine callF (HC) (by simp -implicitDefEqProofs only [go_sem, h15]) ?_
    simp -implicitDefEqProofs only [go_sem, h15]
    refine callF (HOn) (by simp -implicitDefEqProofs only [go_sem]) ?_
    simp -implicitDefEqProofs only [go_sem]
    refine callF (HR) (by simp -implicitDefEqProofs only [go_sem, hw]) ?_
    simp -implicitDefEqProofs only [go_sem, hw]
    refine callF (HM) (by simp -implicitDefEqProofs only [go_sem, hj, zaf, zaa s.left[j], h1]) ?_
    simp -implicitDefEqProofs only [go_sem, hj, zaf, zaa s.left[j], h1]
    refine drawn (by kernel_rfl) ?_
    simp -implicitDefEqProofs only [go_sem]
    refine zan (HO) (by simp -implicitDefEqProofs only [go_sem, hop, hne]) ?_
    simp -implicitDefEqProofs only [go_sem, hop, hne]
    kernel_rfl
   ·have hne : (s.left[j].op != opL r) = false := by unfold bne; rw [hop]; rfl
    rw [hop] at hmk
    rw [hmk, if_pos rfl, hmf] at hX
    have hop' : s.left[j].op = opL r := by simpa using hop
    have HX := HXX s.left[j] hg (hopq _ hop')
    rw [<- hX] at HX
    obtain ⟨L, b⟩ := X
    simp only [sqD, zah, fmD, zaa s.left[j], tmD, zab t] at HX
    simp only [sqD, zah, dvD, zbo, tmD, zab t, fmD, zaa c] at HT HC ⊢
    refine zag Tryz.call138 Tryz.func138 rfl (by kernel_rfl) (zau (by kernel_rfl)) ?_
    simp -implicitDefEqProofs only [go_sem, Tryz.results138]
    refine zal (by simp -implicitDefEqProofs only [go_sem]) ?_
    simp -implicitDefEqProofs only [go_sem]
    refine callF (HQ) (by simp -implicitDefEqProofs only [go_sem, hne15]) ?_
    simp -implicitDefEqProofs only [go_sem, hne15]
    refine callF (HC) (by simp -implicitDefEqProofs only [go_sem, h15]) ?_
    simp -implicitDefEqProofs only [go_sem, h15]
    refine callF (HOn) (by simp -implicitDefEqProofs only [go_sem]) ?_
    simp -implicitDefEqProofs only [go_sem]
    refine callF (HR) (by simp -implicitDefEqProofs only [go_sem, hw]) ?_
    simp -implicitDefEqProofs only [go_sem, hw]
    refine callF (HM) (by simp -implicitDefEqProofs only [go_sem, hj, zaf, zaa s.left[j], h1]) ?_
    simp -implicitDefEqProofs only [go_sem, hj, zaf, zaa s.left[j], h1]
    refine drawn (by kernel_rfl) ?_
    simp -implicitDefEqProofs only [go_sem]
    refine zan (HO) (by simp -implicitDefEqProofs only [go_sem, hop, hne]) ?_
    simp -implicitDefEqProofs only [go_sem, hop, hne]
    refine ⟨by kernel_rfl, ?_⟩
    simp -implicitDefEqProofs only [go_sem, h2]
    refine callF (HX) (by simp -implicitDefEqProofs only [go_sem]) ?_
    simp -implicitDefEqProofs only [go_sem]
set_option maxHeartbeats 8000000 in
theorem rule_p (s sq : Sq) (r m : Int) (t : Tm) (c : Fm) (ps : List Dv) (hs : s.good = true) (hq : inB r 11 14 = false) (hn : t.none = true) (h15 : (r == 15) = false) (hcz : same c zao = true) (X : List Sq × Bool) (hX : X = if (inB r 1 15 && zbn s (.mk r sq m t c ps)) = true then ((zck s r (zb0 s (.mk r sq m t c ps))).1.map (zfa s (.mk r sq m t c ps)), (zck s r (zb0 s (.mk r sq m t c ps))).2) else ([], false)) : FC Tryz.prog 138 [sqD s, dvD (.mk r sq m t c ps)] [.one (sqS X.1), bD X.2] := by
 obtain ⟨l1, l2, g1, g2⟩ := zg6 hs
 have hne15 : (r != 15) = true := by unfold bne; rw [h15]; rfl
 have h15' : r ≠ 15 := by simpa using h15
 have HR := zfv r 1 15
 have HOn := onL_c r
 have HQ := zfv r 11 14
 have HT := zig t (.mk [] [])
 have HC := zh8 c zao
 have hzt : tmD (.mk [] []) = .agg [.str [], .sl 2 []] := rfl
 have hzf : fmD zao = .agg [.int .i64 0, .str [], .sl 2 [], .str [], .sl 5 []] := rfl
 rw [zh7, hzt] at HT
 rw [hzf] at HC
 rw [hq] at HQ
 rw [hcz] at HC
 rw [hn] at HT
 have hmk : ∀ side, zem s r = side -> zbn s (.mk r sq m t c ps) = (inB m 0 (side.length - 1) && (opL r == 0 || (side.getD m.toNat zao).op == opL r)) := fun side hh => by rw [<- hh]; rfl
 have hmf : ∀ side, zem s r = side -> zb0 s (.mk r sq m t c ps) = side.getD m.toNat zao := fun side hh => by rw [<- hh]; rfl
 cases hon : onL r
 ·have hsd : zem s r = s.right := by unfold zem; rw [hon]; rfl
  have hmk := hmk _ hsd
  have hmf := hmf _ hsd
  have gg := g2
  rw [hon] at HOn
  have HM := zfv m 0 (s.right.length - 1)
  have hw : IntKind.i64.wrap ((s.right.length : Int) - 1) = (s.right.length : Int) - 1 := zbk (by omega) (by omega)
  cases hin : inB r 1 15
  ·rw [hin] at HR
   rw [hin, Bool.false_and, if_neg (by simp)] at hX
   subst hX
   simp only [sqD, zah, dvD, zbo, tmD, zab t, fmD, zaa c] at HT HC ⊢
   show FC _ _ _ [.one (.sl 2 []), _]
   refine zag Tryz.call138 Tryz.func138 rfl (by kernel_rfl) (zau (by kernel_rfl)) ?_
   simp -implicitDefEqProofs only [go_sem, Tryz.results138]
   refine zal (by simp -implicitDefEqProofs only [go_sem]) ?_
   simp -implicitDefEqProofs only [go_sem]
   refine callF (HQ) (by simp -implicitDefEqProofs only [go_sem]) ?_
   simp -implicitDefEqProofs only [go_sem]
   refine callF (HT) (by simp -implicitDefEqProofs only [go_sem, hne15]) ?_
   simp -implicitDefEqProofs only [go_sem, hne15]
   refine callF (HC) (by simp -implicitDefEqProofs only [go_sem, h15]) ?_
   simp -implicitDefEqProofs only [go_sem, h15]
   refine callF (HOn) (by simp -implicitDefEqProofs only [go_sem]) ?_
   simp -implicitDefEqProofs only [go_sem]
   refine callF (HR) (by simp -implicitDefEqProofs only [go_sem]) ?_
   simp -implicitDefEqProofs only [go_sem]
  ·rw [hin] at HR
   rw [hin, Bool.true_and] at hX
   have hr14 : 1 <= r /\ r <= 14 := by unfold inB at hin; simp only [Bool.and_eq_true, decide_eq_true_eq] at hin; omega
   have HO := qj0 r hr14
   cases hir : inB m 0 (s.right.length - 1)
   ·rw [hir] at HM
    rw [hir, Bool.false_and] at hmk
    rw [hmk, if_neg (by simp)] at hX
    subst hX
    simp only [sqD, zah, dvD, zbo, tmD, zab t, fmD, zaa c] at HT HC ⊢
    show FC _ _ _ [.one (.sl 2 []), _]
    refine zag Tryz.call138 Tryz.func138 rfl (by kernel_rfl) (zau (by kernel_rfl)) ?_
    simp -implicitDefEqProofs only [go_sem, Tryz.results138]
    refine zal (by simp -implicitDefEqProofs only [go_sem]) ?_
    simp -implicitDefEqProofs only [go_sem]
    refine callF (HQ) (by simp -implicitDefEqProofs only [go_sem]) ?_
    simp -implicitDefEqProofs only [go_sem]
    refine callF (HT) (by simp -implicitDefEqProofs only [go_sem, hne15]) ?_
    simp -implicitDefEqProofs only [go_sem, hne15]
    refine callF (HC) (by simp -implicitDefEqProofs only [go_sem, h15]) ?_
    simp -implicitDefEqProofs only [go_sem, h15]
    refine callF (HOn) (by simp -implicitDefEqProofs only [go_sem]) ?_
    simp -implicitDefEqProofs only [go_sem]
    refine callF (HR) (by simp -implicitDefEqProofs only [go_sem, hw]) ?_
    simp -implicitDefEqProofs only [go_sem, hw]
    refine callF (HM) (by simp -implicitDefEqProofs only [go_sem]) ?_
    simp -implicitDefEqProofs only [go_sem]
   ·rw [hir] at HM
    obtain ⟨j, rfl, hj⟩ := zn2 hir
    rw [Int.toNat_natCast, zcs hj] at hmf
    rw [hir, Bool.true_and, Int.toNat_natCast, zcs hj] at hmk
    have hg := gg _ (List.getElem_mem hj)
    cases h1 : (r == 1)
    ·have ho0 : (opL r == 0) = false := by
      have h1' : r ≠ 1 := by simpa using h1
      rcases (show r = 2 \/ r = 3 \/ r = 4 \/ r = 5 \/ r = 6 \/ r = 7 \/ r = 8 \/ r = 9 \/ r = 10 \/ r = 11 \/ r = 12 \/ r = 13 \/ r = 14 by omega) with rfl | rfl | rfl | rfl | rfl | rfl | rfl | rfl | rfl | rfl | rfl | rfl | rfl <;> rfl
     rw [ho0, Bool.false_or] at hmk
     cases hop : (s.right[j].op == opL r)
     ·have hne : (s.right[j].op != opL r) = true := by unfold bne; rw [hop]; rfl
      rw [hop] at hmk
      rw [hmk, if_neg (by simp)] at hX
      subst hX
      simp only [sqD, zah, dvD, zbo, tmD, zab t, fmD, zaa c] at HT HC ⊢
      show FC _ _ _ [.one (.sl 2 []), _]
      refine zag Tryz.call138 Tryz.func138 rfl (by kernel_rfl) (zau (by kernel_rfl)) ?_
      simp -implicitDefEqProofs only [go_sem, Tryz.results138]
      refine zal (by simp -implicitDefEqProofs only [go_sem]) ?_
      simp -implicitDefEqProofs only [go_sem]
      refine callF (HQ) (by simp -implicitDefEqProofs only [go_sem]) ?_
      simp -implicitDefEqProofs only [go_sem]
      refine callF (HT) (by simp -implicitDefEqProofs only [go_sem, hne15]) ?_
      simp -implicitDefEqProofs only [go_sem, hne15]
      refine callF (HC) (by simp -implicitDefEqProofs only [go_sem, h15]) ?_
      simp -implicitDefEqProofs only [go_sem, h15]
      refine callF (HOn) (by simp -implicitDefEqProofs only [go_sem]) ?_
      simp -implicitDefEqProofs only [go_sem]
      refine callF (HR) (by simp -implicitDefEqProofs only [go_sem, hw]) ?_
      simp -implicitDefEqProofs only [go_sem, hw]
      refine callF (HM) (by simp -implicitDefEqProofs only [go_sem, hj, zaf, zaa s.right[j], h1]) ?_
      simp -implicitDefEqProofs only [go_sem, hj, zaf, zaa s.right[j], h1]
      refine drawn (by kernel_rfl) ?_
      simp -implicitDefEqProofs only [go_sem]
      refine zan (HO) (by simp -implicitDefEqProofs only [go_sem, hop, hne]) ?_
      simp -implicitDefEqProofs only [go_sem, hop, hne]
      kernel_rfl
     ·have hne : (s.right[j].op != opL r) = false := by unfold bne; rw [hop]; rfl
      rw [hop] at hmk
      rw [hmk, if_pos rfl, hmf] at hX
      have hop' : s.right[j].op = opL r := by simpa using hop
      cases h2 : (r == 2)
      ·have hr3 : 3 <= r /\ r <= 10 := by
        have h1' : r ≠ 1 := by simpa using h1
        have h2' : r ≠ 2 := by simpa using h2
        unfold inB at hq
        simp only [Bool.and_eq_false_iff, decide_eq_false_iff_not] at hq
        omega
       have HX := zew s hs (.mk r sq j t c ps) hr3 s.right[j] hg hop'
       simp only [Dv.rule, Dv.main] at HX
       have hX : X = ((zck s r s.right[j]).1.map (zfa s (.mk r sq j t c ps)), true) := by
        rw [hX]
        refine Prod.ext rfl ?_
        show (zck s r s.right[j]).2 = true
        rcases (show r = 3 \/ r = 4 \/ r = 5 \/ r = 6 \/ r = 7 \/ r = 8 \/ r = 9 \/ r = 10 by omega) with rfl | rfl | rfl | rfl | rfl | rfl | rfl | rfl <;> rfl
       subst hX
       generalize (zck s r s.right[j]).1.map (zfa s (.mk r sq j t c ps)) = L at HX ⊢
       simp only [sqD, zah] at HX
       simp only [sqD, zah, dvD, zbo, tmD, zab t, fmD, zaa c] at HT HC ⊢
       refine zag Tryz.call138 Tryz.func138 rfl (by kernel_rfl) (zau (by kernel_rfl)) ?_
       simp -implicitDefEqProofs only [go_sem, Tryz.results138]
       refine zal (by simp -implicitDefEqProofs only [go_sem]) ?_
       simp -implicitDefEqProofs only [go_sem]
       refine callF (HQ) (by simp -implicitDefEqProofs only [go_sem]) ?_
       simp -implicitDefEqProofs only [go_sem]
       refine callF (HT) (by simp -implicitDefEqProofs only [go_sem, hne15]) ?_
       simp -implicitDefEqProofs only [go_sem, hne15]
       refine callF (HC) (by simp -implicitDefEqProofs only [go_sem, h15]) ?_
       simp -implicitDefEqProofs only [go_sem, h15]
       refine callF (HOn) (by simp -implicitDefEqProofs only [go_sem]) ?_
       simp -implicitDefEqProofs only [go_sem]
       refine callF (HR) (by simp -implicitDefEqProofs only [go_sem, hw]) ?_
       simp -implicitDefEqProofs only [go_sem, hw]
       refine callF (HM) (by simp -implicitDefEqProofs only [go_sem, hj, zaf, zaa s.right[j], h1]) ?_
       simp -implicitDefEqProofs only [go_sem, hj, zaf, zaa s.right[j], h1]
       refine drawn (by kernel_rfl) ?_
       simp -implicitDefEqProofs only [go_sem]
       refine zan (HO) (by simp -implicitDefEqProofs only [go_sem, hop, hne]) ?_
       simp -implicitDefEqProofs only [go_sem, hop, hne]
       refine ⟨by kernel_rfl, ?_⟩
       simp -implicitDefEqProofs only [go_sem, h2]
       refine callF (HX) (by simp -implicitDefEqProofs only [go_sem]) ?_
       simp -implicitDefEqProofs only [go_sem]
      ·have er : r = 2 := by simpa using h2
       subst er
       have hX : X = ([], true) := by rw [hX]; rfl
       subst hX
       simp only [sqD, zah, dvD, zbo, tmD, zab t, fmD, zaa c] at HT HC ⊢
       show FC _ _ _ [.one (.sl 2 []), _]
       refine zag Tryz.call138 Tryz.func138 rfl (by kernel_rfl) (zau (by kernel_rfl)) ?_
       simp -implicitDefEqProofs only [go_sem, Tryz.results138]
       refine zal (by simp -implicitDefEqProofs only [go_sem]) ?_
       simp -implicitDefEqProofs only [go_sem]
       refine callF (HQ) (by simp -implicitDefEqProofs only [go_sem]) ?_
       simp -implicitDefEqProofs only [go_sem]
       refine callF (HT) (by simp -implicitDefEqProofs only [go_sem, hne15]) ?_
       simp -implicitDefEqProofs only [go_sem, hne15]
       refine callF (HC) (by simp -implicitDefEqProofs only [go_sem, h15]) ?_
       simp -implicitDefEqProofs only [go_sem, h15]
       refine callF (HOn) (by simp -implicitDefEqProofs only [go_sem]) ?_
       simp -implicitDefEqProofs only [go_sem]
       refine callF (HR) (by simp -implicitDefEqProofs only [go_sem, hw]) ?_
       simp -implicitDefEqProofs only [go_sem, hw]
       refine callF (HM) (by simp -implicitDefEqProofs only [go_sem, hj, zaf, zaa s.right[j], h1]) ?_
       simp -implicitDefEqProofs only [go_sem, hj, zaf, zaa s.right[j], h1]
       refine drawn (by kernel_rfl) ?_
       simp -implicitDefEqProofs only [go_sem]
       refine zan (HO) (by simp -implicitDefEqProofs only [go_sem, hop, hne, h2]) ?_
       simp -implicitDefEqProofs only [go_sem, hop, hne, h2]
       kernel_rfl
    ·have er : r = 1 := by simpa using h1
     subst er
     have hmk : zbn s (.mk 1 sq j t c ps) = true := by rw [hmk]; rfl
     rw [hmk, if_pos rfl] at hX
     have hX : X = ([], (s.right[j].op == 2 || s.right.any fun g => same s.right[j] g)) := by rw [hX, hmf]; rfl
     subst hX
     have HH := zt6 s.right s.right[j]
     generalize (s.right.any fun g => same s.right[j] g) = b at HH
     simp only [fmD, zaa s.right[j]] at HH
     simp only [sqD, zah, dvD, zbo, tmD, zab t, fmD, zaa c] at HT HC ⊢
     show FC _ _ _ [.one (.sl 2 []), _]
     cases hop : (s.right[j].op == 2)
     ·rw [Bool.false_or]
      refine zag Tryz.call138 Tryz.func138 rfl (by kernel_rfl) (zau (by kernel_rfl)) ?_
      simp -implicitDefEqProofs only [go_sem, Tryz.results138]
      refine zal (by simp -implicitDefEqProofs only [go_sem]) ?_
      simp -implicitDefEqProofs only [go_sem]
      refine callF (HQ) (by simp -implicitDefEqProofs only [go_sem]) ?_
      simp -implicitDefEqProofs only [go_sem]
      refine callF (HT) (by simp -implicitDefEqProofs only [go_sem, hne15]) ?_
      simp -implicitDefEqProofs only [go_sem, hne15]
      refine callF (HC) (by simp -implicitDefEqProofs only [go_sem, h15]) ?_
      simp -implicitDefEqProofs only [go_sem, h15]
      refine callF (HOn) (by simp -implicitDefEqProofs only [go_sem]) ?_
      simp -implicitDefEqProofs only [go_sem]
      refine callF (HR) (by simp -implicitDefEqProofs only [go_sem, hw]) ?_
      simp -implicitDefEqProofs only [go_sem, hw]
      refine callF (HM) (by simp -implicitDefEqProofs only [go_sem, hj, zaf, zaa s.right[j], h1]) ?_
      simp -implicitDefEqProofs only [go_sem, hj, zaf, zaa s.right[j], h1]
      simp -implicitDefEqProofs only [go_sem, hop]
      refine callF (HH) (by simp -implicitDefEqProofs only [go_sem]) ?_
      simp -implicitDefEqProofs only [go_sem]
     ·rw [Bool.true_or]
      refine zag Tryz.call138 Tryz.func138 rfl (by kernel_rfl) (zau (by kernel_rfl)) ?_
      simp -implicitDefEqProofs only [go_sem, Tryz.results138]
      refine zal (by simp -implicitDefEqProofs only [go_sem]) ?_
      simp -implicitDefEqProofs only [go_sem]
      refine callF (HQ) (by simp -implicitDefEqProofs only [go_sem]) ?_
      simp -implicitDefEqProofs only [go_sem]
      refine callF (HT) (by simp -implicitDefEqProofs only [go_sem, hne15]) ?_
      simp -implicitDefEqProofs only [go_sem, hne15]
      refine callF (HC) (by simp -implicitDefEqProofs only [go_sem, h15]) ?_
      simp -implicitDefEqProofs only [go_sem, h15]
      refine callF (HOn) (by simp -implicitDefEqProofs only [go_sem]) ?_
      simp -implicitDefEqProofs only [go_sem]
      refine callF (HR) (by simp -implicitDefEqProofs only [go_sem, hw]) ?_
      simp -implicitDefEqProofs only [go_sem, hw]
      refine callF (HM) (by simp -implicitDefEqProofs only [go_sem, hj, zaf, zaa s.right[j], h1]) ?_
      simp -implicitDefEqProofs only [go_sem, hj, zaf, zaa s.right[j], h1]
      simp -implicitDefEqProofs only [go_sem, hop]
 ·have hsd : zem s r = s.left := by unfold zem; rw [hon]; rfl
  have hmk := hmk _ hsd
  have hmf := hmf _ hsd
  have gg := g1
  rw [hon] at HOn
  have HM := zfv m 0 (s.left.length - 1)
  have hw : IntKind.i64.wrap ((s.left.length : Int) - 1) = (s.left.length : Int) - 1 := zbk (by omega) (by omega)
  cases hin : inB r 1 15
  ·rw [hin] at HR
   rw [hin, Bool.false_and, if_neg (by simp)] at hX
   subst hX
   simp only [sqD, zah, dvD, zbo, tmD, zab t, fmD, zaa c] at HT HC ⊢
   show FC _ _ _ [.one (.sl 2 []), _]
   refine zag Tryz.call138 Tryz.func138 rfl (by kernel_rfl) (zau (by kernel_rfl)) ?_
   simp -implicitDefEqProofs only [go_sem, Tryz.results138]
   refine zal (by simp -implicitDefEqProofs only [go_sem]) ?_
   simp -implicitDefEqProofs only [go_sem]
   refine callF (HQ) (by simp -implicitDefEqProofs only [go_sem]) ?_
   simp -implicitDefEqProofs only [go_sem]
   refine callF (HT) (by simp -implicitDefEqProofs only [go_sem, hne15]) ?_
   simp -implicitDefEqProofs only [go_sem, hne15]
   refine callF (HC) (by simp -implicitDefEqProofs only [go_sem, h15]) ?_
   simp -implicitDefEqProofs only [go_sem, h15]
   refine callF (HOn) (by simp -implicitDefEqProofs only [go_sem]) ?_
   simp -implicitDefEqProofs only [go_sem]
   refine callF (HR) (by simp -implicitDefEqProofs only [go_sem]) ?_
   simp -implicitDefEqProofs only [go_sem]
  ·rw [hin] at HR
   rw [hin, Bool.true_and] at hX
   have hr14 : 1 <= r /\ r <= 14 := by unfold inB at hin; simp only [Bool.and_eq_true, decide_eq_true_eq] at hin; omega
   have HO := qj0 r hr14
   cases hir : inB m 0 (s.left.length - 1)
   ·rw [hir] at HM
    rw [hir, Bool.false_and] at hmk
    rw [hmk, if_neg (by simp)] at hX
    subst hX
    simp only [sqD, zah, dvD, zbo, tmD, zab t, fmD, zaa c] at HT HC ⊢
    show FC _ _ _ [.one (.sl 2 []), _]
    refine zag Tryz.call138 Tryz.func138 rfl (by kernel_rfl) (zau (by kernel_rfl)) ?_
    simp -implicitDefEqProofs only [go_sem, Tryz.results138]
    refine zal (by simp -implicitDefEqProofs only [go_sem]) ?_
    simp -implicitDefEqProofs only [go_sem]
    refine callF (HQ) (by simp -implicitDefEqProofs only [go_sem]) ?_
    simp -implicitDefEqProofs only [go_sem]
    refine callF (HT) (by simp -implicitDefEqProofs only [go_sem, hne15]) ?_
    simp -implicitDefEqProofs only [go_sem, hne15]
    refine callF (HC) (by simp -implicitDefEqProofs only [go_sem, h15]) ?_
    simp -implicitDefEqProofs only [go_sem, h15]
    refine callF (HOn) (by simp -implicitDefEqProofs only [go_sem]) ?_
    simp -implicitDefEqProofs only [go_sem]
    refine callF (HR) (by simp -implicitDefEqProofs only [go_sem, hw]) ?_
    simp -implicitDefEqProofs only [go_sem, hw]
    refine callF (HM) (by simp -implicitDefEqProofs only [go_sem]) ?_
    simp -implicitDefEqProofs only [go_sem]
   ·rw [hir] at HM
    obtain ⟨j, rfl, hj⟩ := zn2 hir
    rw [Int.toNat_natCast, zcs hj] at hmf
    rw [hir, Bool.true_and, Int.toNat_natCast, zcs hj] at hmk
    have hg := gg _ (List.getElem_mem hj)
    cases h1 : (r == 1)
    ·have ho0 : (opL r == 0) = false := by
      have h1' : r ≠ 1 := by simpa using h1
      rcases (show r = 2 \/ r = 3 \/ r = 4 \/ r = 5 \/ r = 6 \/ r = 7 \/ r = 8 \/ r = 9 \/ r = 10 \/ r = 11 \/ r = 12 \/ r = 13 \/ r = 14 by omega) with rfl | rfl | rfl | rfl | rfl | rfl | rfl | rfl | rfl | rfl | rfl | rfl | rfl <;> rfl
     rw [ho0, Bool.false_or] at hmk
     cases hop : (s.left[j].op == opL r)
     ·have hne : (s.left[j].op != opL r) = true := by unfold bne; rw [hop]; rfl
      rw [hop] at hmk
      rw [hmk, if_neg (by simp)] at hX
      subst hX
      simp only [sqD, zah, dvD, zbo, tmD, zab t, fmD, zaa c] at HT HC ⊢
      show FC _ _ _ [.one (.sl 2 []), _]
      refine zag Tryz.call138 Tryz.func138 rfl (by kernel_rfl) (zau (by kernel_rfl)) ?_
      simp -implicitDefEqProofs only [go_sem, Tryz.results138]
      refine zal (by simp -implicitDefEqProofs only [go_sem]) ?_
      simp -implicitDefEqProofs only [go_sem]
      refine callF (HQ) (by simp -implicitDefEqProofs only [go_sem]) ?_
      simp -implicitDefEqProofs only [go_sem]
      refine callF (HT) (by simp -implicitDefEqProofs only [go_sem, hne15]) ?_
      simp -implicitDefEqProofs only [go_sem, hne15]
      refine callF (HC) (by simp -implicitDefEqProofs only [go_sem, h15]) ?_
      simp -implicitDefEqProofs only [go_sem, h15]
      refine callF (HOn) (by simp -implicitDefEqProofs only [go_sem]) ?_
      simp -implicitDefEqProofs only [go_sem]
      refine callF (HR) (by simp -implicitDefEqProofs only [go_sem, hw]) ?_
      simp -implicitDefEqProofs only [go_sem, hw]
      refine callF (HM) (by simp -implicitDefEqProofs only [go_sem, hj, zaf, zaa s.left[j], h1]) ?_
      simp -implicitDefEqProofs only [go_sem, hj, zaf, zaa s.left[j], h1]
      refine drawn (by kernel_rfl) ?_
      simp -implicitDefEqProofs only [go_sem]
      refine zan (HO) (by simp -implicitDefEqProofs only [go_sem, hop, hne]) ?_
      simp -implicitDefEqProofs only [go_sem, hop, hne]
      kernel_rfl
     ·have hne : (s.left[j].op != opL r) = false := by unfold bne; rw [hop]; rfl
      rw [hop] at hmk
      rw [hmk, if_pos rfl, hmf] at hX
      have hop' : s.left[j].op = opL r := by simpa using hop
      cases h2 : (r == 2)
      ·have hr3 : 3 <= r /\ r <= 10 := by
        have h1' : r ≠ 1 := by simpa using h1
        have h2' : r ≠ 2 := by simpa using h2
        unfold inB at hq
        simp only [Bool.and_eq_false_iff, decide_eq_false_iff_not] at hq
        omega
       have HX := zew s hs (.mk r sq j t c ps) hr3 s.left[j] hg hop'
       simp only [Dv.rule, Dv.main] at HX
       have hX : X = ((zck s r s.left[j]).1.map (zfa s (.mk r sq j t c ps)), true) := by
        rw [hX]
        refine Prod.ext rfl ?_
        show (zck s r s.left[j]).2 = true
        rcases (show r = 3 \/ r = 4 \/ r = 5 \/ r = 6 \/ r = 7 \/ r = 8 \/ r = 9 \/ r = 10 by omega) with rfl | rfl | rfl | rfl | rfl | rfl | rfl | rfl <;> rfl
       subst hX
       generalize (zck s r s.left[j]).1.map (zfa s (.mk r sq j t c ps)) = L at HX ⊢
       simp only [sqD, zah] at HX
       simp only [sqD, zah, dvD, zbo, tmD, zab t, fmD, zaa c] at HT HC ⊢
       refine zag Tryz.call138 Tryz.func138 rfl (by kernel_rfl) (zau (by kernel_rfl)) ?_
       simp -implicitDefEqProofs only [go_sem, Tryz.results138]
       refine zal (by simp -implicitDefEqProofs only [go_sem]) ?_
       simp -implicitDefEqProofs only [go_sem]
       refine callF (HQ) (by simp -implicitDefEqProofs only [go_sem]) ?_
       simp -implicitDefEqProofs only [go_sem]
       refine callF (HT) (by simp -implicitDefEqProofs only [go_sem, hne15]) ?_
       simp -implicitDefEqProofs only [go_sem, hne15]
       refine callF (HC) (by simp -implicitDefEqProofs only [go_sem, h15]) ?_
       simp -implicitDefEqProofs only [go_sem, h15]
       refine callF (HOn) (by simp -implicitDefEqProofs only [go_sem]) ?_
       simp -implicitDefEqProofs only [go_sem]
       refine callF (HR) (by simp -implicitDefEqProofs only [go_sem, hw]) ?_
       simp -implicitDefEqProofs only [go_sem, hw]
       refine callF (HM) (by simp -implicitDefEqProofs only [go_sem, hj, zaf, zaa s.left[j], h1]) ?_
       simp -implicitDefEqProofs only [go_sem, hj, zaf, zaa s.left[j], h1]
       refine drawn (by kernel_rfl) ?_
       simp -implicitDefEqProofs only [go_sem]
       refine zan (HO) (by simp -implicitDefEqProofs only [go_sem, hop, hne]) ?_
       simp -implicitDefEqProofs only [go_sem, hop, hne]
       refine ⟨by kernel_rfl, ?_⟩
       simp -implicitDefEqProofs only [go_sem, h2]
       refine callF (HX) (by simp -implicitDefEqProofs only [go_sem]) ?_
       simp -implicitDefEqProofs only [go_sem]
      ·have er : r = 2 := by simpa using h2
       subst er
       have hX : X = ([], true) := by rw [hX]; rfl
       subst hX
       simp only [sqD, zah, dvD, zbo, tmD, zab t, fmD, zaa c] at HT HC ⊢
       show FC _ _ _ [.one (.sl 2 []), _]
       refine zag Tryz.call138 Tryz.func138 rfl (by kernel_rfl) (zau (by kernel_rfl)) ?_
       simp -implicitDefEqProofs only [go_sem, Tryz.results138]
       refine zal (by simp -implicitDefEqProofs only [go_sem]) ?_
       simp -implicitDefEqProofs only [go_sem]
       refine callF (HQ) (by simp -implicitDefEqProofs only [go_sem]) ?_
       simp -implicitDefEqProofs only [go_sem]
       refine callF (HT) (by simp -implicitDefEqProofs only [go_sem, hne15]) ?_
       simp -implicitDefEqProofs only [go_sem, hne15]
       refine callF (HC) (by simp -implicitDefEqProofs only [go_sem, h15]) ?_
       simp -implicitDefEqProofs only [go_sem, h15]
       refine callF (HOn) (by simp -implicitDefEqProofs only [go_sem]) ?_
       simp -implicitDefEqProofs only [go_sem]
       refine callF (HR) (by simp -implicitDefEqProofs only [go_sem, hw]) ?_
       simp -implicitDefEqProofs only [go_sem, hw]
       refine callF (HM) (by simp -implicitDefEqProofs only [go_sem, hj, zaf, zaa s.left[j], h1]) ?_
       simp -implicitDefEqProofs only [go_sem, hj, zaf, zaa s.left[j], h1]
       refine drawn (by kernel_rfl) ?_
       simp -implicitDefEqProofs only [go_sem]
       refine zan (HO) (by simp -implicitDefEqProofs only [go_sem, hop, hne, h2]) ?_
       simp -implicitDefEqProofs only [go_sem, hop, hne, h2]
       kernel_rfl
    ·have er : r = 1 := by simpa using h1
     subst er
     have hmk : zbn s (.mk 1 sq j t c ps) = true := by rw [hmk]; rfl
     rw [hmk, if_pos rfl] at hX
     have hX : X = ([], (s.left[j].op == 2 || s.right.any fun g => same s.left[j] g)) := by rw [hX, hmf]; rfl
     subst hX
     have HH := zt6 s.right s.left[j]
     generalize (s.right.any fun g => same s.left[j] g) = b at HH
     simp only [fmD, zaa s.left[j]] at HH
     simp only [sqD, zah, dvD, zbo, tmD, zab t, fmD, zaa c] at HT HC ⊢
     show FC _ _ _ [.one (.sl 2 []), _]
     cases hop : (s.left[j].op == 2)
     ·rw [Bool.false_or]
      refine zag Tryz.call138 Tryz.func138 rfl (by kernel_rfl) (zau (by kernel_rfl)) ?_
      simp -implicitDefEqProofs only [go_sem, Tryz.results138]
      refine zal (by simp -implicitDefEqProofs only [go_sem]) ?_
      simp -implicitDefEqProofs only [go_sem]
      refine callF (HQ) (by simp -implicitDefEqProofs only [go_sem]) ?_
      simp -implicitDefEqProofs only [go_sem]
      refine callF (HT) (by simp -implicitDefEqProofs only [go_sem, hne15]) ?_
      simp -implicitDefEqProofs only [go_sem, hne15]
      refine callF (HC) (by simp -implicitDefEqProofs only [go_sem, h15]) ?_
      simp -implicitDefEqProofs only [go_sem, h15]
      refine callF (HOn) (by simp -implicitDefEqProofs only [go_sem]) ?_
      simp -implicitDefEqProofs only [go_sem]
      refine callF (HR) (by simp -implicitDefEqProofs only [go_sem, hw]) ?_
      simp -implicitDefEqProofs only [go_sem, hw]
      refine callF (HM) (by simp -implicitDefEqProofs only [go_sem, hj, zaf, zaa s.left[j], h1]) ?_
      simp -implicitDefEqProofs only [go_sem, hj, zaf, zaa s.left[j], h1]
      simp -implicitDefEqProofs only [go_sem, hop]
      refine callF (HH) (by simp -implicitDefEqProofs only [go_sem]) ?_
      simp -implicitDefEqProofs only [go_sem]
     ·rw [Bool.true_or]
      refine zag Tryz.call138 Tryz.func138 rfl (by kernel_rfl) (zau (by kernel_rfl)) ?_
      simp -implicitDefEqProofs only [go_sem, Tryz.results138]
      refine zal (by simp -implicitDefEqProofs only [go_sem]) ?_
      simp -implicitDefEqProofs only [go_sem]
      refine callF (HQ) (by simp -implicitDefEqProofs only [go_sem]) ?_
      simp -implicitDefEqProofs only [go_sem]
      refine callF (HT) (by simp -implicitDefEqProofs only [go_sem, hne15]) ?_
      simp -implicitDefEqProofs only [go_sem, hne15]
      refine callF (HC) (by simp -implicitDefEqProofs only [go_sem, h15]) ?_
      simp -implicitDefEqProofs only [go_sem, h15]
      refine callF (HOn) (by simp -implicitDefEqProofs only [go_sem]) ?_
      simp -implicitDefEqProofs only [go_sem]
      refine callF (HR) (by simp -implicitDefEqProofs only [go_sem, hw]) ?_
      simp -implicitDefEqProofs only [go_sem, hw]
      refine callF (HM) (by simp -implicitDefEqProofs only [go_sem, hj, zaf, zaa s.left[j], h1]) ?_
      simp -implicitDefEqProofs only [go_sem, hj, zaf, zaa s.left[j], h1]
      simp -implicitDefEqProofs only [go_sem, hop]
end Go.Proofs.YtemnhgmgeijkcaaGreat
namespace Go.Proofs.YtemnhgmgeijkcaaGreat
set_option linter.unusedSimpArgs false
set_option linter.unusedVariables false
set_option linter.unusedSectionVars false
set_option maxRecDepth 4000
open Go.RowKit
variable {P : Program}
def C.fb (j : Nat) (ts : List T) : C -> C
 | .bx b o => if b = j then .el ts o else .bx b o
 | .fn f [k] => if k = j then .t (.fn f [.ptr ts]) else .fn f [k]
 | .fn _ _ => .any
 | c => c
def qfn : List C -> Option (List T)
 | [] => some []
 | .t x :: cs => (qfn cs).map (x :: ·)
 | .rn x :: cs => (qfn cs).map (x :: ·)
 | _ :: _ => none
def fbS (f : Nat -> V) (j : Nat) (ts : List T) : Nat -> V := fun i => (f i).map (C.fb j ts)
def fbB (f : Nat -> Option (List C)) (j : Nat) (ts : List T) : Nat -> Option (List C) := fun b => if b = j then none else (f b).map fun cs => cs.map (C.fb j ts)
theorem fbS_at (f : Nat -> V) (j : Nat) (ts : List T) (i : Nat) : fbS f j ts i = (f i).map (C.fb j ts) := rfl
def St.fb (σ : St) (j : Nat) (ts : List T) : St := ⟨fbS σ.sl j ts, fbB σ.bx j ts, σ.ev⟩
theorem qca {σ : St} {g : Gh} {w : World} : ∀ {cs : List C} {ts : List T} {vs : List Value}, qfn cs = some ts -> CRs σ g w cs vs -> ∀ (i : Nat) (t : T), ts[i]? = some t -> ∃ v, vs[i]? = some v /\ zaw w (Fix σ g w) t v
 | [], ts, vs, h, _, i, t, ht => by
  unfold qfn at h
  cases h
  simp at ht
 | c :: cs, ts, vs, h, hv, i, t, ht => by
  obtain ⟨v, vs', rfl, h1, h2⟩ := hv
  have key : ∀ x, (qfn cs).map (x :: ·) = some ts -> zaw w (Fix σ g w) x v -> ∃ v', (v :: vs')[i]? = some v' /\ zaw w (Fix σ g w) t v' := fun x hx hr => by
   cases hc : qfn cs with
   | none => rw [hc] at hx; cases hx
   | some ts' =>
    rw [hc] at hx
    simp only [Option.map_some, Option.some.injEq] at hx
    subst hx
    cases i with
    | zero =>
     simp only [List.getElem?_cons_zero, Option.some.injEq] at ht
     subst ht
     exact ⟨v, rfl, hr⟩
    | succ i =>
     simp only [List.getElem?_cons_succ] at ht ⊢
     exact qca hc h2 i t ht
  cases c with
  | t x => exact key x h h1
  | rn x => exact key x h (zaw.keep (fun _ _ => rfl) (fun b hb => hb.1) x v h1)
  | _ => cases h
theorem fb_wk {σ : St} {j : Nat} {cs : List C} {ts : List T} (hb : σ.bx j = some cs) (ht : qfn cs = some ts) : Wk σ (σ.fb j ts) := by
 intro n0 N g a w h
 have hj : σ.bx j ≠ none := by rw [hb]; simp
 have hbx : ∀ b, (σ.fb j ts).bx b ≠ none ↔ b ≠ j /\ σ.bx b ≠ none := fun b => by
  show (if b = j then none else (σ.bx b).map fun cs => cs.map (C.fb j ts)) ≠ none ↔ _
  by_cases hbj : b = j
  ·rw [if_pos hbj]; simp [hbj]
  ·rw [if_neg hbj]; simp [hbj]
 have hf : ∀ b, Fix σ g w b -> Fix (σ.fb j ts) g w b := fun b hf => ⟨fun k hk => hf.1 k ((hbx k).1 hk).2, hf.2.1, hf.2.2⟩
 have hfr : ∀ b, zc8 σ g w b -> zc8 (σ.fb j ts) g w b := fun b hb => ⟨hf b hb.1, hb.2⟩
 obtain ⟨vs, ty, e1, e2⟩ := h.boxes j cs hb
 have hfix : Fix (σ.fb j ts) g w (g.β j) := by
  refine ⟨fun k hk e => ((hbx k).1 hk).1 (h.inj k j ((hbx k).1 hk).2 hj e), fun e x hx ho hh => ?_, ?_, (h.anew _ (h.base j hj)).1⟩
  ·exact h.ebx e j ⟨x, hx, ho⟩ hj (List.mem_of_mem_head? hh)
  ·exact (Array.getElem?_eq_some_iff.1 e1).1
 have hat : zbh w (Fix (σ.fb j ts) g w) (g.β j) 0 ts := zbh.mk fun i t hi => by
  obtain ⟨v, k1, k2⟩ := qca ht e2 i t hi
  refine ⟨v, ?_, zaw.keep (fun _ _ => rfl) hf t v k2⟩
  have : vs[i]? = some v := by rw [<- Array.getElem?_toList]; exact k1
  rw [Nat.zero_add]
  simp [World.cell?, e1, this]
 have cr : ∀ c v, CR σ g w c v -> CR (σ.fb j ts) g w (c.fb j ts) v := fun c v hc => by
  cases c with
  | t y => exact zaw.keep (fun _ _ => rfl) hf y v hc
  | nl s => exact hc
  | ow e' n => exact hc
  | bx b o =>
   show CR _ _ _ (if b = j then .el ts o else .bx b o) v
   by_cases he : b = j
   ·subst he
    rw [if_pos rfl]
    exact ⟨g.β b, 0, by rw [Nat.zero_add]; exact hc.1, hfix, hat⟩
   ·rw [if_neg he]; exact ⟨hc.1, (hbx b).2 ⟨he, hc.2⟩⟩
  | el cs o => obtain ⟨b, q, h1, h2, h3⟩ := hc; exact ⟨b, q, h1, hf b h2, zbh.keep (fun _ _ => rfl) hf b rfl q cs h3⟩
  | eo e' s sz i o => exact hc
  | fn f caps =>
   match caps, hc with
   | [], _ => trivial
   | [k], hc =>
    show CR _ _ _ (if k = j then .t (.fn f [.ptr ts]) else .fn f [k]) v
    by_cases he : k = j
    ·subst he
     rw [if_pos rfl]
     show zaw _ _ _ _
     unfold zaw
     refine ⟨_, hc.1, ?_⟩
     unfold zai
     refine ⟨_, [], rfl, ?_, by unfold zai; rfl⟩
     unfold zaw
     exact ⟨g.β k, 0, rfl, hfix, hat⟩
    ·rw [if_neg he]
     exact ⟨hc.1, fun b hb => (hbx b).2 ⟨by rw [List.mem_singleton.1 hb]; exact he, hc.2 b hb⟩⟩
   | _ :: _ :: _, _ => trivial
  | cv u => exact hc
  | any => trivial
  | rn y => exact zaw.keep (fun _ _ => rfl) hfr y v hc
  | er cs o => obtain ⟨b, q, h1, h2, h3⟩ := hc; exact ⟨b, q, h1, hfr b h2, zbh.keep (fun _ _ => rfl) hfr b rfl q cs h3⟩
 refine ⟨g, ⟨h.defers, h.size, h.anew, fun i => VR.map cr (h.slots i), fun b cs' hb' => ?_, fun b hb => h.base b ((hbx b).1 hb).2, fun b b' h1 h2 => h.inj b b' ((hbx b).1 h1).2 ((hbx b').1 h2).2, fun e' z hz h1 => ?_, fun e' z hz h1 => ?_, h.slc, h.ebase, h.etop, h.nodup, h.apart, fun e' k he hk => h.ebx e' k he ((hbx k).1 hk).2⟩, rfl, rfl⟩
 ·have hne := (hbx b).1 (by rw [hb']; simp)
  cases hc : σ.bx b with
  | none => exact absurd hc hne.2
  | some cs0 =>
   have hb' : (if b = j then none else (σ.bx b).map fun cs => cs.map (C.fb j ts)) = some cs' := hb'
   rw [if_neg hne.1, hc] at hb'
   simp only [Option.map_some, Option.some.injEq] at hb'
   subst hb'
   obtain ⟨vs, ty, k1, k2⟩ := h.boxes b cs0 hc
   exact ⟨vs, ty, k1, CRs.map cr k2⟩
 ·obtain ⟨ao, cap, e1, e2, e3, e4⟩ := h.evs e' z hz h1
  refine ⟨ao, cap, e1, e2, e3, ?_⟩
  rcases e4 with e4 | ⟨b, cells, ty, fps, k1, k2, k3, k4, k5⟩
  ·exact Or.inl e4
  ·refine Or.inr ⟨b, cells, ty, fps, k1, k2, k3, k4, ?_⟩
   split at k5
   ·rw [if_pos ‹_›]; exact k5
   ·rw [if_neg ‹_›]; exact ⟨k5.1, zay.keep (fun _ _ => rfl) hf b rfl 0 z.sz z.rows k5.2⟩
 ·exact ⟨zaw.keep (fun _ _ => rfl) hf _ _ (h.offs e' z hz h1).1, (h.offs e' z hz h1).2⟩
section
variable {ks : List Fr} {Q : Exit -> St -> Prop} {σ : St} {ops : Array Oper} {os : List Oper} {o : Oper}
theorem frzX (j : Nat) (hg : o.guard = none) (hs : zwp o.op = true) (k : zax (σ.bx j) fun cs => zax (qfn cs) fun ts => exo P ops (o :: os) ks Q (σ.fb j ts)) : exo P ops (o :: os) ks Q σ := by
 obtain ⟨cs, hx, h1⟩ := zap k
 obtain ⟨ts, ht, h2⟩ := zap h1
 exact ztk (fb_wk hx ht) hg hs h2
end
attribute [go_sem] C.fb St.fb fbS_at qfn
end Go.Proofs.YtemnhgmgeijkcaaGreat
namespace Go.Proofs.YtemnhgmgeijkcaaGreat
set_option linter.unusedSimpArgs false
set_option linter.unusedVariables false
set_option linter.unusedSectionVars false
set_option maxRecDepth 4000
open Go.RowKit
variable {P : Program}
def C.fs (e : Nat) (x : Ev) : C -> C
 | .ow e' g => if e' = e then (if g = x.gen then .t (.sl x.sz x.rows) else .any) else .ow e' g
 | .eo e' g sz i o => if e' = e then .any else .eo e' g sz i o
 | c => c
def fsS (f : Nat -> V) (e : Nat) (x : Ev) : Nat -> V := fun i => (f i).map (C.fs e x)
def fsB (f : Nat -> Option (List C)) (e : Nat) (x : Ev) : Nat -> Option (List C) := fun b => (f b).map fun cs => cs.map (C.fs e x)
def fsE (f : Nat -> Option Ev) (e : Nat) : Nat -> Option Ev := fun k => if k = e then none else f k
theorem fsS_at (f : Nat -> V) (e : Nat) (x : Ev) (i : Nat) : fsS f e x i = (f i).map (C.fs e x) := rfl
theorem zwc (f : Nat -> Option (List C)) (e : Nat) (x : Ev) (b : Nat) : fsB f e x b = (f b).map fun cs => cs.map (C.fs e x) := rfl
theorem fsE_at (f : Nat -> Option Ev) (e k : Nat) : fsE f e k = if k = e then none else f k := rfl
def St.fs (σ : St) (e : Nat) (x : Ev) : St := ⟨fsS σ.sl e x, fsB σ.bx e x, fsE σ.ev e⟩
theorem fs_wk {σ : St} {e : Nat} {x : Ev} (hx : σ.ev e = some x) (hd : x.deep = false) (ho : x.on = true) : Wk σ (σ.fs e x) := by
 intro n0 N g a w h
 have hev : ∀ e', e' ≠ e -> (σ.fs e x).ev e' = σ.ev e' := fun e' he => by show (if e' = e then none else σ.ev e') = _; rw [if_neg he]
 have hee : (σ.fs e x).ev e = none := by show (if e = e then none else σ.ev e) = _; rw [if_pos rfl]
 have hsome : ∀ e' z, (σ.fs e x).ev e' = some z -> e' ≠ e /\ σ.ev e' = some z := fun e' z hz => by
  by_cases he : e' = e
  ·subst he; rw [hee] at hz; cases hz
  ·exact ⟨he, by rw [<- hev e' he]; exact hz⟩
 have hon : ∀ e', (σ.fs e x).On e' -> e' ≠ e /\ σ.On e' := fun e' ⟨z, hz, h1⟩ => ⟨(hsome e' z hz).1, z, (hsome e' z hz).2, h1⟩
 have hbx : ∀ b, (σ.fs e x).bx b ≠ none ↔ σ.bx b ≠ none := fun b => by unfold St.fs; simp [zwc]
 have hOn : σ.On e := ⟨x, hx, ho⟩
 have hf : ∀ b, Fix σ g w b -> Fix (σ.fs e x) g w b := fun b hf => ⟨fun k hk => hf.1 k ((hbx k).1 hk), fun e' z hz h1 => hf.2.1 e' z (hsome e' z hz).2 h1, hf.2.2⟩
 have hfr : ∀ b, zc8 σ g w b -> zc8 (σ.fs e x) g w b := fun b hb => ⟨hf b hb.1, fun e' h' => hb.2 e' (hon e' h').2⟩
 have hgone : ∀ b ∈ g.φ e, b < w.heap.size -> zc8 (σ.fs e x) g w b := fun b hb hl => by
  have hne : ∀ e', (σ.fs e x).On e' -> b ∉ g.φ e' := fun e' he' hm => h.apart e e' hOn (hon e' he').2 (Ne.symm (hon e' he').1) b hb hm
  exact ⟨⟨fun j hj hjb => h.ebx e j hOn ((hbx j).1 hj) (by rw [hjb]; exact hb), fun e' z hz h1 hh => hne e' ⟨z, hz, h1⟩ (List.mem_of_mem_head? hh), hl, (h.ebase e hOn b hb).1⟩, hne⟩
 have hhas : ∀ e' n, e' ≠ e -> σ.has e' n -> (σ.fs e x).has e' n := fun e' n he ⟨z, hz, h1⟩ => ⟨z, by rw [hev e' he]; exact hz, h1⟩
 have cr : ∀ c v, CR σ g w c v -> CR (σ.fs e x) g w (c.fs e x) v := fun c v hc => by
  cases c with
  | t y => exact zaw.keep (fun _ _ => rfl) hf y v hc
  | nl s => exact hc
  | ow e' n =>
   show CR _ _ _ (if e' = e then (if n = x.gen then .t (.sl x.sz x.rows) else .any) else .ow e' n) v
   by_cases he : e' = e
   ·subst he
    rw [if_pos rfl]
    by_cases hn : n = x.gen
    ·rw [if_pos hn]
     subst hn
     obtain ⟨ao, cap, e1, e2, e3, e4⟩ := h.evs _ x hx ho
     rw [<- hc.1] at e1
     show zaw _ _ _ _
     unfold zaw
     refine ⟨ao, cap, e1, e2, e3, ?_⟩
     rcases e4 with ⟨_, _, e4, _⟩ | ⟨b, cells, ty, fps, k1, k2, k3, k4, k5⟩
     ·exact Or.inl e4
     ·rw [if_neg (by rw [hd]; simp)] at k5
      exact Or.inr ⟨b, 0, k1, (hgone b (by rw [k2]; simp) (Array.getElem?_eq_some_iff.1 k3).1).1, zay.keep (fun _ _ => rfl) hf b rfl 0 x.sz x.rows k5.2⟩
    ·rw [if_neg hn]; trivial
   ·rw [if_neg he]; exact ⟨hc.1, hhas e' n he hc.2⟩
  | bx b o => exact ⟨hc.1, (hbx b).2 hc.2⟩
  | el cs o => obtain ⟨b, q, h1, h2, h3⟩ := hc; exact ⟨b, q, h1, hf b h2, zbh.keep (fun _ _ => rfl) hf b rfl q cs h3⟩
  | eo e' s sz i o =>
   show CR _ _ _ (if e' = e then .any else .eo e' s sz i o) v
   by_cases he : e' = e
   ·rw [if_pos he]; trivial
   ·rw [if_neg he]; obtain ⟨b, n, c, h1, h2, h3, h4⟩ := hc; exact ⟨b, n, c, h1, h2, h3, hhas e' s he h4⟩
  | fn f caps => exact ⟨hc.1, fun b hb => (hbx b).2 (hc.2 b hb)⟩
  | cv u => exact hc
  | any => trivial
  | rn y => exact zaw.keep (fun _ _ => rfl) hfr y v hc
  | er cs o => obtain ⟨b, q, h1, h2, h3⟩ := hc; exact ⟨b, q, h1, hfr b h2, zbh.keep (fun _ _ => rfl) hfr b rfl q cs h3⟩
 refine ⟨g, ⟨h.defers, h.size, h.anew, fun i => VR.map cr (h.slots i), fun b cs hb => ?_, fun b hb => h.base b ((hbx b).1 hb), fun b b' h1 h2 => h.inj b b' ((hbx b).1 h1) ((hbx b').1 h2), fun e' z hz h1 => ?_, fun e' z hz h1 => ?_, h.slc, fun e' h1 => h.ebase e' (hon e' h1).2, fun e' h1 => h.etop e' (hon e' h1).2, fun e' h1 => h.nodup e' (hon e' h1).2, fun e1 e2 h1 h2 => h.apart e1 e2 (hon e1 h1).2 (hon e2 h2).2, fun e' k h1 h2 => h.ebx e' k (hon e' h1).2 ((hbx k).1 h2)⟩, rfl, rfl⟩
 ·cases hc : σ.bx b with
  | none => unfold St.fs at hb; simp only [zwc, hc, Option.map_none] at hb; cases hb
  | some cs0 =>
   unfold St.fs at hb
   simp only [zwc, hc, Option.map_some, Option.some.injEq] at hb
   subst hb
   obtain ⟨vs, ty, k1, k2⟩ := h.boxes b cs0 hc
   exact ⟨vs, ty, k1, CRs.map cr k2⟩
 ·obtain ⟨ao, cap, e1, e2, e3, e4⟩ := h.evs e' z (hsome e' z hz).2 h1
  refine ⟨ao, cap, e1, e2, e3, ?_⟩
  rcases e4 with e4 | ⟨b, cells, ty, fps, k1, k2, k3, k4, k5⟩
  ·exact Or.inl e4
  ·refine Or.inr ⟨b, cells, ty, fps, k1, k2, k3, k4, ?_⟩
   split at k5
   ·rw [if_pos ‹_›]; exact k5
   ·rw [if_neg ‹_›]; exact ⟨k5.1, zay.keep (fun _ _ => rfl) hf b rfl 0 z.sz z.rows k5.2⟩
 ·exact ⟨zaw.keep (fun _ _ => rfl) hf _ _ (h.offs e' z (hsome e' z hz).2 h1).1, (h.offs e' z (hsome e' z hz).2 h1).2⟩
section
variable {ks : List Fr} {Q : Exit -> St -> Prop} {σ : St} {ops : Array Oper} {os : List Oper} {o : Oper}
theorem frzS (e : Nat) (hg : o.guard = none) (hs : zwp o.op = true) (k : zax (σ.ev e) fun x => x.deep = false /\ x.on = true /\ exo P ops (o :: os) ks Q (σ.fs e x)) : exo P ops (o :: os) ks Q σ := by
 obtain ⟨x, hx, h1, h2, h3⟩ := zap k
 exact ztk (fs_wk hx h1 h2) hg hs h3
end
attribute [go_sem] C.fs St.fs fsS_at zwc fsE_at
end Go.Proofs.YtemnhgmgeijkcaaGreat
namespace Go.Proofs.YtemnhgmgeijkcaaGreat
set_option linter.unusedSimpArgs false
set_option linter.unusedVariables false
set_option linter.unusedSectionVars false
set_option maxRecDepth 4000
open Go.RowKit
variable {P : Program}
def St.sh (σ : St) (e : Nat) (x : Ev) : St := ⟨σ.sl, σ.bx, upd σ.ev e (some ⟨false, x.sz, x.rows, x.gen, x.on⟩)⟩
theorem sh_wk {σ : St} {e : Nat} {x : Ev} (hx : σ.ev e = some x) (hr : x.rows = []) : Wk σ (σ.sh e x) := by
 intro n0 N g a w h
 have hev : ∀ e', e' ≠ e -> (σ.sh e x).ev e' = σ.ev e' := fun e' he => zaq _ _ he
 have hee : (σ.sh e x).ev e = some ⟨false, x.sz, x.rows, x.gen, x.on⟩ := zaj _ _ _
 have back : ∀ e' z, (σ.sh e x).ev e' = some z -> ∃ y, σ.ev e' = some y /\ y.on = z.on /\ y.gen = z.gen /\ y.sz = z.sz /\ y.rows = z.rows /\ (e' ≠ e -> y = z) := fun e' z hz => by
  by_cases he : e' = e
  ·subst he
   rw [hee] at hz
   cases hz
   exact ⟨x, hx, rfl, rfl, rfl, rfl, fun h => absurd rfl h⟩
  ·exact ⟨z, by rw [<- hev e' he]; exact hz, rfl, rfl, rfl, rfl, fun _ => rfl⟩
 have forth : ∀ e' y, σ.ev e' = some y -> ∃ z, (σ.sh e x).ev e' = some z /\ z.on = y.on /\ z.gen = y.gen := fun e' y hy => by
  by_cases he : e' = e
  ·subst he
   rw [hx] at hy
   cases hy
   exact ⟨_, hee, rfl, rfl⟩
  ·exact ⟨y, by rw [hev e' he]; exact hy, rfl, rfl⟩
 have hon : ∀ e', (σ.sh e x).On e' -> σ.On e' := fun e' ⟨z, hz, h1⟩ => by
  obtain ⟨y, k1, k2, _⟩ := back e' z hz
  exact ⟨y, k1, k2.trans h1⟩
 have hf : ∀ b, Fix σ g w b -> Fix (σ.sh e x) g w b := fun b hf => ⟨hf.1, fun e' z hz h1 => by
  obtain ⟨y, k1, k2, _⟩ := back e' z hz
  exact hf.2.1 e' y k1 (k2.trans h1), hf.2.2⟩
 have hfr : ∀ b, zc8 σ g w b -> zc8 (σ.sh e x) g w b := fun b hb => ⟨hf b hb.1, fun e' h' => hb.2 e' (hon e' h')⟩
 have hhas : ∀ e' n, σ.has e' n -> (σ.sh e x).has e' n := fun e' n ⟨y, hy, h1⟩ => by
  obtain ⟨z, k1, k2, k3⟩ := forth e' y hy
  refine ⟨z, k1, ?_⟩
  rw [k3]; exact h1
 have cr : ∀ c v, CR σ g w c v -> CR (σ.sh e x) g w c v := fun c v hc => by
  cases c with
  | t y => exact zaw.keep (fun _ _ => rfl) hf y v hc
  | nl s => exact hc
  | ow e' n => exact ⟨hc.1, hhas e' n hc.2⟩
  | bx b o => exact hc
  | el cs o => obtain ⟨b, q, h1, h2, h3⟩ := hc; exact ⟨b, q, h1, hf b h2, zbh.keep (fun _ _ => rfl) hf b rfl q cs h3⟩
  | eo e' s sz i o => obtain ⟨b, n, c, h1, h2, h3, h4⟩ := hc; exact ⟨b, n, c, h1, h2, h3, hhas e' s h4⟩
  | fn f caps => exact hc
  | cv u => exact hc
  | any => trivial
  | rn y => exact zaw.keep (fun _ _ => rfl) hfr y v hc
  | er cs o => obtain ⟨b, q, h1, h2, h3⟩ := hc; exact ⟨b, q, h1, hfr b h2, zbh.keep (fun _ _ => rfl) hfr b rfl q cs h3⟩
 have vid : ∀ y : V, V.map (fun c => c) y = y := fun y => by
  cases y with
  | one c => rfl
  | agg cs => show V.agg (cs.map fun c => c) = _; rw [List.map_id']
  | tup xs => show V.tup (xs.map fun x => (x.1, x.2.map fun c => c)) = _; simp
 refine ⟨g, ⟨h.defers, h.size, h.anew, fun i => by rw [<- vid ((σ.sh e x).sl i)]; exact VR.map cr (h.slots i), fun b cs hb => ?_, h.base, h.inj, fun e' z hz h1 => ?_, fun e' z hz h1 => ?_, h.slc, fun e' h1 => h.ebase e' (hon e' h1), fun e' h1 => h.etop e' (hon e' h1), fun e' h1 => h.nodup e' (hon e' h1), fun e' e2 h1 h2 h3 => h.apart e' e2 (hon e' h1) (hon e2 h2) h3, fun e' k he hk => h.ebx e' k (hon e' he) hk⟩, rfl, rfl⟩
 ·obtain ⟨vs, ty, k1, k2⟩ := h.boxes b cs hb
  refine ⟨vs, ty, k1, ?_⟩
  have := CRs.map (f := fun c => c) cr k2
  rwa [List.map_id'] at this
 ·obtain ⟨y, y1, y2, y3, y4, y5, y6⟩ := back e' z hz
  obtain ⟨ao, cap, e1, e2, e3, e4⟩ := h.evs e' y y1 (y2.trans h1)
  rw [y3, y5] at e1
  rw [y5] at e2
  refine ⟨ao, cap, e1, e2, e3, ?_⟩
  rcases e4 with e4 | ⟨b, cells, ty, fps, k1, k2, k3, k4, k5⟩
  ·rw [y5] at e4; exact Or.inl e4
  ·rw [y4] at k4
   refine Or.inr ⟨b, cells, ty, fps, k1, k2, k3, k4, ?_⟩
   by_cases he : e' = e
   ·subst he
    rw [hee] at hz
    cases hz
    rw [hx] at y1
    cases y1
    rw [if_neg (by simp)]
    split at k5
    ·rw [hr] at k5 ⊢
     unfold zam at k5
     refine ⟨k5, ?_⟩
     unfold zay; trivial
    ·exact ⟨k5.1, by rw [hr]; unfold zay; trivial⟩
   ·have := y6 he
    subst this
    split at k5
    ·rw [if_pos ‹_›]; exact k5
    ·rw [if_neg ‹_›]; exact ⟨k5.1, zay.keep (fun _ _ => rfl) hf b rfl 0 y.sz y.rows k5.2⟩
 ·obtain ⟨y, y1, y2, y3, y4, y5, y6⟩ := back e' z hz
  have := h.offs e' y y1 (y2.trans h1)
  rw [y3, y4, y5] at this
  exact ⟨zaw.keep (fun _ _ => rfl) hf _ _ this.1, this.2⟩
theorem wk_sh {σ σ' : St} (e : Nat) (k : zax (σ.ev e) fun x => x.rows = [] /\ Wk (σ.sh e x) σ') : Wk σ σ' := by
 obtain ⟨x, hx, h1, h2⟩ := zap k
 intro n0 N g a w h
 obtain ⟨g1, r1, r2, r3⟩ := sh_wk hx h1 n0 N g a w h
 obtain ⟨g2, s1, s2, s3⟩ := h2 n0 N g1 a w r1
 exact ⟨g2, s1, s2.trans r2, s3.trans r3⟩
attribute [go_sem] St.sh
end Go.Proofs.YtemnhgmgeijkcaaGreat
namespace Go.Proofs.YtemnhgmgeijkcaaGreat
set_option linter.unusedSimpArgs false
set_option linter.unusedVariables false
set_option linter.unusedSectionVars false
set_option maxRecDepth 4000
open Go.RowKit
set_option maxRecDepth 100000 in
theorem qh3 (n : Nat) (hn : n <= 1099511627776) : FC Tryz.prog 212 [.one (.pin (.slice none 0 0) (.sl 5 [])), iD n] [.one (.sl 5 [])] := by
 refine ⟨Tryz.call212, fun w vs fp tp hv hnd => ?_⟩
 obtain ⟨v1, _, rfl, h1, hv⟩ := hv
 obtain ⟨v2, _, rfl, h2, hv⟩ := hv
 obtain ⟨rfl, rfl, rfl⟩ := hv
 have e1 : v1 = .slice none 0 0 := by
  have h : zaw w (fun b => b < w.heap.size /\ ¬b ∈ []) (.pin (.slice none 0 0) (.sl 5 [])) v1 := h1
  unfold zaw at h; exact h.1
 have e2 : v2 = .int .i64 n := by
  have h : zaw w (fun b => b < w.heap.size /\ ¬b ∈ []) (.int .i64 n) v2 := h2
  unfold zaw at h; exact h.1
 clear h1 h2
 subst e1 e2
 obtain ⟨i, cs, hi, hz, hzs, hs, hby⟩ : ∃ i cs, Tryz.prog.info? 36 = some i /\ i.zero = some (.agg cs) /\ cs.size = 5 /\ i.size = 5 /\ i.bytes = 88 := ⟨_, _, rfl, rfl, rfl, rfl, rfl⟩
 have g1 : ¬ ((n : Int) < 0) := by omega
 have g2 : wrap64 ((0 : Int) - 0) = 0 := by unfold wrap64; omega
 have g3 : wrap64 ((n : Int) - 0) = n := by unfold wrap64; omega
 by_cases h0 : n = 0
 ·subst h0
  go_enter Tryz.func212, Tryz.ntmps212
  go_wp2
  go_ret
  refine ⟨[.slice none 0 0], rfl, [], ⟨_, _, [], [], [], _, [], rfl, rfl, rfl, ⟨?_, rfl⟩, rfl, rfl, rfl⟩, List.nodup_nil, by simp, Bk.refl _ _⟩
  unfold za7
  exact ⟨none, 0, rfl, Nat.le_refl _, by simp, Or.inl ⟨rfl, rfl, rfl, rfl⟩⟩
 ·have g4 : (n : Int) > 0 := by omega
  have hrz := fun ty => Lib.run_append_nil_zeros (P := Tryz.prog) w 34 3 ty 36 i (.agg cs) .i64 .i64 Tryz.underlying34 Tryz.underlying3 hi hz n (by omega) (by omega) (by omega) (by rw [hby]; omega)
  go_enter Tryz.func212, Tryz.ntmps212
  go_wp2_with (at_builtin; refine Lib.wpList_append_run _ rfl _ _ _ _ rfl _ _ rfl rfl _ _ (hrz _) ?_)
  go_ret
  have hge := grownCap_ge w n 0 36
  have hle := grownCap_le_maxLen w n 0 36 (by unfold maxLen; omega)
  generalize grownCap w n 0 36 = G at hge hle ⊢
  refine ⟨[.slice (some ⟨w.heap.size, 0, none⟩) 0 G], rfl, [w.heap.size], ⟨_, _, [], [w.heap.size], [], _, [], rfl, rfl, rfl, ⟨?_, rfl⟩, rfl, rfl, rfl⟩, by simp, by simp, ⟨rfl, rfl, rfl, ?_, fun k hk => ?_⟩⟩
  ·unfold za7
   refine ⟨_, G, rfl, Nat.zero_le _, by unfold maxLen at hle; omega, Or.inr ⟨w.heap.size, Builtin.zeroCells cs n ++ Builtin.zeroCells cs (G - n), 36, [], rfl, rfl, ?_, ?_, by unfold zam; rfl⟩⟩
   ·show (w.heap.push _)[w.heap.size]? = _
    simp
   ·simp [size_zeroCells, hzs]; omega
  ·show w.heap.size <= (w.heap.push _).size
   rw [Array.size_push]; omega
  ·show (w.heap.push _)[k]? = _
   have hk : k < w.heap.size := by simpa using hk
   rw [Array.getElem?_push_lt hk, Array.getElem?_eq_getElem hk]
def qg1 (A B : List Fm) : Nat -> Nat
 | 0 => 0
 | 1 => A.length
 | _ => A.length + B.length
def qhu (A B : List Fm) : Nat -> List Fm
 | 0 => []
 | 1 => A
 | _ => A ++ B
theorem qao (A B : List Fm) : qg1 A B 0 = 0 := rfl
theorem qco (A B : List Fm) : qg1 A B 1 = A.length := rfl
theorem qdz (A B : List Fm) : qg1 A B 2 = A.length + B.length := rfl
theorem qc9 (A B : List Fm) : qhu A B 0 = [] := rfl
theorem qct (A B : List Fm) : qhu A B 1 = A := rfl
theorem qdx (A B : List Fm) : qhu A B 2 = A ++ B := rfl
set_option maxHeartbeats 1000000 in
theorem zmo (A B : List Fm) (hA : A.length + B.length <= 4194304) : RC Tryz.prog 143 [.one (.sl 1 [[fmS A], [fmS B]])] [.one (fmS (A ++ B))] := by
 have hG := qh3 (A.length + B.length) (by omega)
 have w1 : IntKind.i64.wrap ((A.length : Int) + (B.length : Int)) = ((A.length + B.length : Nat) : Int) := by rw [zbk (by omega) (by omega)]; omega
 have w0 : IntKind.i64.wrap (0 + (A.length : Int)) = ((A.length : Nat) : Int) := by rw [zbk (by omega) (by omega)]; omega
 have u1 : IntKind.i64.wrap 1 = 1 := rfl
 have u2 : IntKind.i64.wrap 2 = 2 := rfl
 have ha1 : A.length <= 4294967296 := by omega
 have ha2 : A.length + B.length <= 4294967296 := by omega
 refine zbf Tryz.call143 Tryz.func143 rfl (by kernel_rfl) (zau (by kernel_rfl)) ?_
 simp -implicitDefEqProofs only [go_sem, Tryz.results143]
 refine zad (fun k : Nat => hd [(0, vT (.sl 1 [[fmS A], [fmS B]])), (3, vI (qg1 A B k)), (9, vT (.sl 1 [[fmS A], [fmS B]])), (10, vI 2), (11, vI k)] [] []) (fun k => k <= 2) (fun k => 2 - k) 0 (zac ?_) (Nat.zero_le _) ?_
 ·simp -implicitDefEqProofs only [go_sem, qao]
 ·intro k hk
  rcases (by omega : k = 0 \/ k = 1 \/ k = 2) with rfl | rfl | rfl
  ·simp -implicitDefEqProofs only [go_sem, qao, w0]
   refine ⟨1, by omega, by omega, zac ?_⟩
   simp -implicitDefEqProofs only [go_sem, qco, u1]
  ·simp -implicitDefEqProofs only [go_sem, qco, w1]
   refine ⟨2, by omega, by omega, zac ?_⟩
   simp -implicitDefEqProofs only [go_sem, qdz, u2]
  ·simp -implicitDefEqProofs only [go_sem, qdz]
   refine callFn hG (by simp -implicitDefEqProofs only [go_sem, vdn_nl, vdn_t, qmp]) ?_
   simp -implicitDefEqProofs only [go_sem]
   refine zad (fun k : Nat => hd [(6, .one (.ow 768 0)), (25, vT (.sl 1 [[fmS A], [fmS B]])), (26, vI 2), (27, vI k)] [] [(768, ⟨false, 5, (qhu A B k).map fmC, 0, true⟩)]) (fun k => k <= 2) (fun k => 2 - k) 0 (wk_sh 768 ?_) (Nat.zero_le _) ?_
   ·simp -implicitDefEqProofs only [go_sem]
    refine zac ?_
    simp -implicitDefEqProofs only [go_sem, qc9, List.map_nil]
   ·intro k hk
    rcases (by omega : k = 0 \/ k = 1 \/ k = 2) with rfl | rfl | rfl
    ·simp -implicitDefEqProofs only [go_sem, qc9, List.map_nil]
     refine apD false (by simp -implicitDefEqProofs only [go_sem, ne_eq, List.length_map, ha1, Nat.zero_add]) ?_
     simp -implicitDefEqProofs only [go_sem, ne_eq, List.length_map, ha1, Nat.zero_add]
     refine ⟨1, by omega, by omega, zac ?_⟩
     simp -implicitDefEqProofs only [go_sem, qct, u1]
    ·simp -implicitDefEqProofs only [go_sem, qct]
     refine apD false (by simp -implicitDefEqProofs only [go_sem, ne_eq, List.length_map, ha2]) ?_
     simp -implicitDefEqProofs only [go_sem, ne_eq, List.length_map, ha2]
     refine ⟨2, by omega, by omega, zac ?_⟩
     simp -implicitDefEqProofs only [go_sem, qdx, u2, List.map_append]
    ·simp -implicitDefEqProofs only [go_sem, qdx]
theorem qee (d : Dv) (left : Bool) (i : Nat) (h : 1 <= d.rule /\ d.rule <= 15) : FC Tryz.prog 213 [dvD d, bD left, iD i] [bD ((i : Int) == zdk d left)] := by
 have HR := zh2 d.rule
 have e : ((i : Int) == -1) = false := by rw [beq_eq_false_iff_ne]; omega
 unfold zdk
 simp only [dvD, zav]
 cases h15 : (d.rule == 15)
 ·have h14 : d.rule ≠ 15 := by simpa using h15
  have hne : d.rule <= 14 := by omega
  have HM := zow d.rule ⟨h.1, hne⟩
  cases hr : qa3 d.rule
  ·rw [hr] at HR
   cases hl : (onL d.rule == left)
   ·rw [if_neg (by simp), e]
    refine zag Tryz.call213 Tryz.func213 rfl (by kernel_rfl) (zau (by kernel_rfl)) ?_
    simp -implicitDefEqProofs only [go_sem, Tryz.results213, h15]
    refine callF (HR) (by simp -implicitDefEqProofs only [go_sem]) ?_
    simp -implicitDefEqProofs only [go_sem]
    refine callF (HM) (by simp -implicitDefEqProofs only [go_sem, hl]) ?_
    simp -implicitDefEqProofs only [go_sem, hl]
   ·rw [if_pos (by simp), Bool.beq_comm]
    refine zag Tryz.call213 Tryz.func213 rfl (by kernel_rfl) (zau (by kernel_rfl)) ?_
    simp -implicitDefEqProofs only [go_sem, Tryz.results213, h15]
    refine callF (HR) (by simp -implicitDefEqProofs only [go_sem]) ?_
    simp -implicitDefEqProofs only [go_sem]
    refine callF (HM) (by simp -implicitDefEqProofs only [go_sem, hl]) ?_
    simp -implicitDefEqProofs only [go_sem, hl]
  ·rw [hr] at HR
   rw [if_neg (by simp), e]
   refine zag Tryz.call213 Tryz.func213 rfl (by kernel_rfl) (zau (by kernel_rfl)) ?_
   simp -implicitDefEqProofs only [go_sem, Tryz.results213, h15]
   refine callF (HR) (by simp -implicitDefEqProofs only [go_sem]) ?_
   simp -implicitDefEqProofs only [go_sem]
 ·rw [if_neg (by simp), e]
  refine zag Tryz.call213 Tryz.func213 rfl (by kernel_rfl) (zau (by kernel_rfl)) ?_
  simp -implicitDefEqProofs only [go_sem, Tryz.results213, h15]
set_option maxHeartbeats 1000000 in
theorem qjr (d : Dv) (xs : List Fm) (left : Bool) (h : 1 <= d.rule /\ d.rule <= 15) (hl : xs.length <= 1048576) : RC Tryz.prog 144 [dvD d, .one (fmS xs), bD left] [.one (fmS (ze0 xs (zdk d left)))] := by
 have HR := fun i : Nat => qee d left i h
 generalize zdk d left = g at HR ⊢
 simp only [dvD, zav] at HR ⊢
 refine zbf Tryz.call144 Tryz.func144 rfl (by kernel_rfl) (zau (by kernel_rfl)) ?_
 simp -implicitDefEqProofs only [go_sem, Tryz.results144]
 refine zcq (by simp -implicitDefEqProofs only [go_sem]) ?_
 simp -implicitDefEqProofs only [go_sem]
 refine zad (fun k : Nat => hd [(2, vB left), (3, .one (.bx 3 0)), (7, .one (.ow 320 0)), (11, vT (fmS xs)), (12, vI xs.length), (13, vI k)] [(3, [.t (.int .i64 d.rule), .t (fmS d.seq.left), .t (fmS d.seq.right), .t (.int .i64 d.main), .t (.str d.term.name), .t (tmS d.term.args), .t (.int .i64 d.cut.op), .t (.str d.cut.atom.name), .t (tmS d.cut.atom.args), .t (.str d.cut.var), .t (fmS d.cut.parts), .t (dvS d.parts)])] [(320, ⟨false, 5, (zhg xs g k).map fmC, 0, true⟩)]) (fun k => k <= xs.length) (fun k => xs.length - k) 0 (zac ?_) (Nat.zero_le _) ?_
 ·simp -implicitDefEqProofs only [go_sem, zm8]
 ·intro k hk
  have hul := zro xs g k
  have hul2 : (zhg xs g k).length <= 4294967295 := by omega
  by_cases hlt : k < xs.length
  ·have hs := zmr xs g hlt
   have HO := HR k
   cases hb : ((k : Int) == g)
   ·rw [hb, if_neg (by simp)] at hs
    rw [hb] at HO
    simp -implicitDefEqProofs only [go_sem, zaf, hlt, zaa xs[k]]
    refine callF (HO) (by simp -implicitDefEqProofs only [go_sem]) ?_
    simp -implicitDefEqProofs only [go_sem]
    refine zcq (by simp -implicitDefEqProofs only [go_sem]) ?_
    simp -implicitDefEqProofs only [go_sem]
    refine apD false (by simp -implicitDefEqProofs only [go_sem, ne_eq, List.length_map, hul2]) ?_
    simp -implicitDefEqProofs only [go_sem, ne_eq, List.length_map, hul2]
    refine ⟨k + 1, hlt, by omega, zac ?_⟩
    simp -implicitDefEqProofs only [go_sem]
    rw [zas (by omega), hs, List.map_append, List.map_singleton, zaa xs[k]]
    exact ⟨rfl, rfl⟩
   ·rw [hb, if_pos rfl, List.append_nil] at hs
    rw [hb] at HO
    simp -implicitDefEqProofs only [go_sem, zaf, hlt, zaa xs[k]]
    refine callF (HO) (by simp -implicitDefEqProofs only [go_sem]) ?_
    simp -implicitDefEqProofs only [go_sem]
    refine ⟨k + 1, hlt, by omega, zac ?_⟩
    simp -implicitDefEqProofs only [go_sem]
    rw [zas (by omega), hs]
    exact ⟨rfl, rfl⟩
  ·have hkn : k = xs.length := by omega
   subst hkn
   have hD : zhg xs g xs.length = ze0 xs g := rfl
   rw [hD]
   simp -implicitDefEqProofs only [go_sem, hlt]
theorem zor (s : Sq) (hl : zb5 s.left <= 1048576) (hr : zb5 s.right <= 1048576) : FC Tryz.prog 142 [sqD s] [sqD s] := by
 have H1 := zg0 s.left hl
 have H2 := zg0 s.right hr
 simp only [sqD, zah]
 refine zag Tryz.call142 Tryz.func142 rfl (by kernel_rfl) (zau (by kernel_rfl)) ?_
 simp -implicitDefEqProofs only [go_sem, Tryz.results142]
 refine drawn (by kernel_rfl) ?_
 simp -implicitDefEqProofs only [go_sem]
 refine zan (H1) (by simp -implicitDefEqProofs only [go_sem]) ?_
 simp -implicitDefEqProofs only [go_sem]
 refine zan (H2) (by simp -implicitDefEqProofs only [go_sem]) ?_
 simp -implicitDefEqProofs only [go_sem]
 kernel_rfl
end Go.Proofs.YtemnhgmgeijkcaaGreat
namespace Go.Proofs.YtemnhgmgeijkcaaGreat
set_option linter.unusedSimpArgs false
set_option linter.unusedVariables false
set_option linter.unusedSectionVars false
set_option maxRecDepth 4000
open Go.RowKit
theorem zks (f : Fm) (hf : f.good = true) (n : Str) : FC Tryz.prog 293 [fmD f, .one (.ptr [.str n])] [bD ((zba [] (vf f [])).contains n)] := by
 have H1 := qjl f (zeh hf) (Nat.le_trans (zc2 hf) (by omega))
 have H2 := zcv (zba [] (vf f [])) n
 generalize zba [] (vf f []) = xs at H1 H2 ⊢
 simp only [fmD, zaa f] at H1 ⊢
 refine zag Tryz.call293 Tryz.func293 rfl (by kernel_rfl) (zau (by kernel_rfl)) ?_
 simp -implicitDefEqProofs only [go_sem, Tryz.results293]
 refine drawn (by kernel_rfl) ?_
 simp -implicitDefEqProofs only [go_sem]
 refine zan (H1) (by simp -implicitDefEqProofs only [go_sem]) ?_
 simp -implicitDefEqProofs only [go_sem]
 refine zan (H2) (by simp -implicitDefEqProofs only [go_sem]) ?_
 simp -implicitDefEqProofs only [go_sem]
 kernel_rfl
theorem zym (s : Sq) (hs : s.good = true) (n : Str) : FC Tryz.prog 270 [sqD s, sD n] [bD (ze6 s n)] := by
 unfold Sq.good zdp at hs
 simp only [Bool.and_eq_true, decide_eq_true_eq, List.all_eq_true] at hs
 obtain ⟨⟨l1, g1⟩, l2, g2⟩ := hs
 have H1 := zaz s.left (fun f => (zba [] (vf f [])).contains n) 293 [.ptr [.str n]] fun x hx => zks x (g1 x hx) n
 have H2 := zaz s.right (fun f => (zba [] (vf f [])).contains n) 293 [.ptr [.str n]] fun x hx => zks x (g2 x hx) n
 unfold ze6
 simp only [sqD, zah]
 generalize (s.right.any fun f => (zba [] (vf f [])).contains n) = b2 at H2 ⊢
 cases h : (s.left.any fun f => (zba [] (vf f [])).contains n)
 ·rw [h] at H1
  refine zag Tryz.call270 Tryz.func270 rfl (by kernel_rfl) (zau (by kernel_rfl)) ?_
  simp -implicitDefEqProofs only [go_sem, Tryz.results270]
  refine callF (H1) (by simp -implicitDefEqProofs only [go_sem]) ?_
  simp -implicitDefEqProofs only [go_sem]
  refine callF (H2) (by simp -implicitDefEqProofs only [go_sem]) ?_
  simp -implicitDefEqProofs only [go_sem]
  rfl
 ·rw [h] at H1
  refine zag Tryz.call270 Tryz.func270 rfl (by kernel_rfl) (zau (by kernel_rfl)) ?_
  simp -implicitDefEqProofs only [go_sem, Tryz.results270]
  refine callF (H1) (by simp -implicitDefEqProofs only [go_sem]) ?_
  simp -implicitDefEqProofs only [go_sem]
  rfl
theorem zzv {side : List Fm} {m : Int} (h : inB m 0 (side.length - 1) = true) : ∃ j : Nat, m = j /\ j < side.length := by
 unfold inB at h
 simp only [Bool.and_eq_true, decide_eq_true_eq] at h
 exact ⟨m.toNat, by omega, by omega⟩
set_option maxHeartbeats 1000000 in
theorem zl9 (s : Sq) (r : Int) (sq : Sq) (m : Int) (t : Tm) (c : Fm) (ps : List Dv) (h : 1 <= r /\ r <= 14) (hl : s.left.length <= 1048576) (hr : s.right.length <= 1048576) (side : List Fm) (hside : zem s r = side) (b : Bool) (hb : b = (inB m 0 (side.length - 1) && (opL r == 0 || (side.getD m.toNat zao).op == opL r))) : RC Tryz.prog 207 [sqD s, dvD (.mk r sq m t c ps)] [fmD (if b = true then side.getD m.toNat zao else zao), bD b] := by
 have HM := zow r h
 have hz : fmD zao = .agg [.int .i64 0, .str [], .sl 2 [], .str [], .sl 5 []] := rfl
 simp only [dvD, zbo, sqD, zah]
 generalize opL r = o at HM hb
 cases hon : onL r
 ·have hs2 : side = s.right := by rw [<- hside]; unfold zem; rw [hon]; rfl
  subst hs2
  rw [hon] at HM
  have HW := zb3 m 0 (s.right.length - 1)
  have hw : IntKind.i64.wrap ((s.right.length : Int) - 1) = (s.right.length : Int) - 1 := zbk (by omega) (by omega)
  cases hin : inB m 0 (s.right.length - 1)
  ·rw [hin] at HW
   rw [hin, Bool.false_and] at hb
   subst hb
   rw [if_neg (by simp), hz]
   refine zbf Tryz.call207 Tryz.func207 rfl (by kernel_rfl) (zau (by kernel_rfl)) ?_
   simp -implicitDefEqProofs only [go_sem, Tryz.results207]
   refine callF (HM) (by simp -implicitDefEqProofs only [go_sem, hw]) ?_
   simp -implicitDefEqProofs only [go_sem, hw]
   refine callF (HW) (by simp -implicitDefEqProofs only [go_sem]) ?_
   simp -implicitDefEqProofs only [go_sem]
  ·rw [hin] at HW
   obtain ⟨j, rfl, hj⟩ := zzv hin
   rw [hin, Bool.true_and, Int.toNat_natCast, zcs hj] at hb
   rw [Int.toNat_natCast, zcs hj]
   cases ho : (o == 0)
   ·have hne : (o != 0) = true := by unfold bne; rw [ho]; rfl
    rw [ho, Bool.false_or] at hb
    cases hop : (s.right[j].op == o)
    ·have hne2 : (s.right[j].op != o) = true := by unfold bne; rw [hop]; rfl
     rw [hop] at hb
     subst hb
     rw [if_neg (by simp), hz]
     refine zbf Tryz.call207 Tryz.func207 rfl (by kernel_rfl) (zau (by kernel_rfl)) ?_
     simp -implicitDefEqProofs only [go_sem, Tryz.results207]
     refine callF (HM) (by simp -implicitDefEqProofs only [go_sem, hw]) ?_
     simp -implicitDefEqProofs only [go_sem, hw]
     refine callF (HW) (by simp -implicitDefEqProofs only [go_sem, hne, hj, zaf, zaa s.right[j], hne2]) ?_
     simp -implicitDefEqProofs only [go_sem, hne, hj, zaf, zaa s.right[j], hne2]
    ·have hne2 : (s.right[j].op != o) = false := by unfold bne; rw [hop]; rfl
     rw [hop] at hb
     subst hb
     rw [if_pos rfl, fmD, zaa s.right[j]]
     refine zbf Tryz.call207 Tryz.func207 rfl (by kernel_rfl) (zau (by kernel_rfl)) ?_
     simp -implicitDefEqProofs only [go_sem, Tryz.results207]
     refine callF (HM) (by simp -implicitDefEqProofs only [go_sem, hw]) ?_
     simp -implicitDefEqProofs only [go_sem, hw]
     refine callF (HW) (by simp -implicitDefEqProofs only [go_sem, hne, hj, zaf, zaa s.right[j], hne2]) ?_
     simp -implicitDefEqProofs only [go_sem, hne, hj, zaf, zaa s.right[j], hne2]
   ·have hne : (o != 0) = false := by unfold bne; rw [ho]; rfl
    rw [ho, Bool.true_or] at hb
    subst hb
    rw [if_pos rfl, fmD, zaa s.right[j]]
    refine zbf Tryz.call207 Tryz.func207 rfl (by kernel_rfl) (zau (by kernel_rfl)) ?_
    simp -implicitDefEqProofs only [go_sem, Tryz.results207]
    refine callF (HM) (by simp -implicitDefEqProofs only [go_sem, hw]) ?_
    simp -implicitDefEqProofs only [go_sem, hw]
    refine callF (HW) (by simp -implicitDefEqProofs only [go_sem, hne, hj, zaf, zaa s.right[j]]) ?_
    simp -implicitDefEqProofs only [go_sem, hne, hj, zaf, zaa s.right[j]]
 ·have hs2 : side = s.left := by rw [<- hside]; unfold zem; rw [hon]; rfl
  subst hs2
  rw [hon] at HM
  have HW := zb3 m 0 (s.left.length - 1)
  have hw : IntKind.i64.wrap ((s.left.length : Int) - 1) = (s.left.length : Int) - 1 := zbk (by omega) (by omega)
  cases hin : inB m 0 (s.left.length - 1)
  ·rw [hin] at HW
   rw [hin, Bool.false_and] at hb
   subst hb
   rw [if_neg (by simp), hz]
   refine zbf Tryz.call207 Tryz.func207 rfl (by kernel_rfl) (zau (by kernel_rfl)) ?_
   simp -implicitDefEqProofs only [go_sem, Tryz.results207]
   refine callF (HM) (by simp -implicitDefEqProofs only [go_sem, hw]) ?_
   simp -implicitDefEqProofs only [go_sem, hw]
   refine callF (HW) (by simp -implicitDefEqProofs only [go_sem]) ?_
   simp -implicitDefEqProofs only [go_sem]
  ·rw [hin] at HW
   obtain ⟨j, rfl, hj⟩ := zzv hin
   rw [hin, Bool.true_and, Int.toNat_natCast, zcs hj] at hb
   rw [Int.toNat_natCast, zcs hj]
   cases ho : (o == 0)
   ·have hne : (o != 0) = true := by unfold bne; rw [ho]; rfl
    rw [ho, Bool.false_or] at hb
    cases hop : (s.left[j].op == o)
    ·have hne2 : (s.left[j].op != o) = true := by unfold bne; rw [hop]; rfl
     rw [hop] at hb
     subst hb
     rw [if_neg (by simp), hz]
     refine zbf Tryz.call207 Tryz.func207 rfl (by kernel_rfl) (zau (by kernel_rfl)) ?_
     simp -implicitDefEqProofs only [go_sem, Tryz.results207]
     refine callF (HM) (by simp -implicitDefEqProofs only [go_sem, hw]) ?_
     simp -implicitDefEqProofs only [go_sem, hw]
     refine callF (HW) (by simp -implicitDefEqProofs only [go_sem, hne, hj, zaf, zaa s.left[j], hne2]) ?_
     simp -implicitDefEqProofs only [go_sem, hne, hj, zaf, zaa s.left[j], hne2]
    ·have hne2 : (s.left[j].op != o) = false := by unfold bne; rw [hop]; rfl
     rw [hop] at hb
     subst hb
     rw [if_pos rfl, fmD, zaa s.left[j]]
     refine zbf Tryz.call207 Tryz.func207 rfl (by kernel_rfl) (zau (by kernel_rfl)) ?_
     simp -implicitDefEqProofs only [go_sem, Tryz.results207]
     refine callF (HM) (by simp -implicitDefEqProofs only [go_sem, hw]) ?_
     simp -implicitDefEqProofs only [go_sem, hw]
     refine callF (HW) (by simp -implicitDefEqProofs only [go_sem, hne, hj, zaf, zaa s.left[j], hne2]) ?_
     simp -implicitDefEqProofs only [go_sem, hne, hj, zaf, zaa s.left[j], hne2]
   ·have hne : (o != 0) = false := by unfold bne; rw [ho]; rfl
    rw [ho, Bool.true_or] at hb
    subst hb
    rw [if_pos rfl, fmD, zaa s.left[j]]
    refine zbf Tryz.call207 Tryz.func207 rfl (by kernel_rfl) (zau (by kernel_rfl)) ?_
    simp -implicitDefEqProofs only [go_sem, Tryz.results207]
    refine callF (HM) (by simp -implicitDefEqProofs only [go_sem, hw]) ?_
    simp -implicitDefEqProofs only [go_sem, hw]
    refine callF (HW) (by simp -implicitDefEqProofs only [go_sem, hne, hj, zaf, zaa s.left[j]]) ?_
    simp -implicitDefEqProofs only [go_sem, hne, hj, zaf, zaa s.left[j]]
theorem zbj (s : Sq) (d : Dv) (h : 1 <= d.rule /\ d.rule <= 14) (hl : s.left.length <= 1048576) (hr : s.right.length <= 1048576) : RC Tryz.prog 207 [sqD s, dvD d] [fmD (if zbn s d = true then zb0 s d else zao), bD (zbn s d)] := by
 obtain ⟨r, sq, m, t, c, ps⟩ := d
 exact zl9 s r sq m t c ps h hl hr _ rfl _ rfl
theorem zg4 (f : Fm) (i : Nat) (hi : i < f.parts.length) : RC Tryz.prog 209 [iD i, .one (.ptr (fmC f))] [.one (fmS [f.parts.getD i zao])] := by
 rw [zcs hi]
 simp only [zaa f]
 refine zbf Tryz.call209 Tryz.func209 rfl (by kernel_rfl) (zau (by kernel_rfl)) ?_
 simp -implicitDefEqProofs only [go_sem, Tryz.results209]
 simp -implicitDefEqProofs only [go_sem, hi, zaf, zaa f.parts[i]]
 refine zcq (by simp -implicitDefEqProofs only [go_sem]) ?_
 simp -implicitDefEqProofs only [go_sem]
 rw [zaa f.parts[i]]
theorem qkl (f g : Fm) : FC Tryz.prog 210 [fmD g, .one (.ptr (fmC f))] [bD (same f g)] := by
 have H := za9 f g
 simp only [fmD, zaa f, zaa g] at H ⊢
 refine zag Tryz.call210 Tryz.func210 rfl (by kernel_rfl) (zau (by kernel_rfl)) ?_
 simp -implicitDefEqProofs only [go_sem, Tryz.results210]
 refine callF (H) (by simp -implicitDefEqProofs only [go_sem]) ?_
 simp -implicitDefEqProofs only [go_sem]
end Go.Proofs.YtemnhgmgeijkcaaGreat
namespace Go.Proofs.YtemnhgmgeijkcaaGreat
set_option linter.unusedSimpArgs false
set_option linter.unusedVariables false
set_option linter.unusedSectionVars false
set_option maxRecDepth 4000
open Go.RowKit
set_option maxHeartbeats 2000000 in
theorem zl1 (s : Sq) (hs : s.good = true) (d : Dv) (hr : inB d.rule 11 14 = true) (hd : d.term.wt <= 1048576) (f : Fm) (hf : f.good = true) (ho : f.op = 8 \/ f.op = 9) : RC Tryz.prog 208 [sqD s, dvD d, fmD f] [.one (sqS (zhv s d f).1), bD (zhv s d f).2] := by
 obtain ⟨hpg, hp, hv⟩ := zfn hf ho
 obtain ⟨r, sq, m, t, c, ps⟩ := d
 obtain ⟨fo, fa, fv, fp⟩ := f
 simp only [Dv.rule, Dv.term, Fm.parts, Fm.var] at hr hd hp hpg hv ⊢
 have hr' : 1 <= r /\ r <= 14 := by unfold inB at hr; simp only [Bool.and_eq_true, decide_eq_true_eq] at hr; omega
 have hI : zhv s (.mk r sq m t c ps) (.mk fo fa fv fp) = (if (!qa3 r && (!zbc t.name || ze6 s t.name)) = true then ([], false) else if (sbF fv t (fp.getD 0 zao)).2 = true then (if onL r = true then ([⟨[(sbF fv t (fp.getD 0 zao)).1], []⟩], true) else ([⟨[], [(sbF fv t (fp.getD 0 zao)).1]⟩], true)) else ([], false)) := rfl
 rw [hI]
 clear hI hf
 generalize fp.getD 0 zao = p at hp hpg ⊢
 subst hp
 have hpw := zc2 hpg
 have HM := zh2 r
 have HV := zdz t.name
 have HF := zym s hs t.name
 have HS := zhh p fv t (by omega) hd (by have := Nat.mul_le_mul (show 1 + p.wt <= 20801 by omega) hd; omega)
 have HO := zow r hr'
 generalize sbF fv t p = B at HS ⊢
 obtain ⟨q, b⟩ := B
 simp only [sqD, zah, dvD, zbo, fmD, zdl, zaa q, tmD, zab t, zaa p, List.map_cons, List.map_nil] at HF HS ⊢
 generalize ze6 s t.name = fr at HF ⊢
 generalize zbc t.name = vo at HV ⊢
 generalize qa3 r = rm at HM ⊢
 generalize onL r = on at HO ⊢
 cases rm
 ·cases vo
  ·rw [if_pos (by simp)]
   refine zbf Tryz.call208 Tryz.func208 rfl (by kernel_rfl) (zau (by kernel_rfl)) ?_
   simp -implicitDefEqProofs only [go_sem, Tryz.results208]
   refine callF (HM) (by simp -implicitDefEqProofs only [go_sem]) ?_
   simp -implicitDefEqProofs only [go_sem]
   refine callF (HV) (by simp -implicitDefEqProofs only [go_sem]) ?_
   simp -implicitDefEqProofs only [go_sem]
  ·cases fr
   ·cases b
    ·rw [if_neg (by simp), if_neg (by simp)]
     refine zbf Tryz.call208 Tryz.func208 rfl (by kernel_rfl) (zau (by kernel_rfl)) ?_
     simp -implicitDefEqProofs only [go_sem, Tryz.results208]
     refine callF (HM) (by simp -implicitDefEqProofs only [go_sem]) ?_
     simp -implicitDefEqProofs only [go_sem]
     refine callF (HV) (by simp -implicitDefEqProofs only [go_sem]) ?_
     simp -implicitDefEqProofs only [go_sem]
     refine callF (HF) (by simp -implicitDefEqProofs only [go_sem]) ?_
     simp -implicitDefEqProofs only [go_sem]
     refine drawn (by kernel_rfl) ?_
     simp -implicitDefEqProofs only [go_sem]
     refine zan (HS) (by simp -implicitDefEqProofs only [go_sem]) ?_
     simp -implicitDefEqProofs only [go_sem]
     kernel_rfl
    ·cases on
     ·rw [if_neg (by simp), if_pos rfl, if_neg (by simp)]
      show RC _ _ _ [.one (.sl 2 [[.sl 5 [], .sl 5 [fmC q]]]), bD true]
      rw [zaa q]
      refine zbf Tryz.call208 Tryz.func208 rfl (by kernel_rfl) (zau (by kernel_rfl)) ?_
      simp -implicitDefEqProofs only [go_sem, Tryz.results208]
      refine callF (HM) (by simp -implicitDefEqProofs only [go_sem]) ?_
      simp -implicitDefEqProofs only [go_sem]
      refine callF (HV) (by simp -implicitDefEqProofs only [go_sem]) ?_
      simp -implicitDefEqProofs only [go_sem]
      refine callF (HF) (by simp -implicitDefEqProofs only [go_sem]) ?_
      simp -implicitDefEqProofs only [go_sem]
      refine drawn (by kernel_rfl) ?_
      simp -implicitDefEqProofs only [go_sem]
      refine zan (HS) (by simp -implicitDefEqProofs only [go_sem]) ?_
      simp -implicitDefEqProofs only [go_sem]
      refine ⟨by kernel_rfl, ?_⟩
      refine callF (HO) (by simp -implicitDefEqProofs only [go_sem]) ?_
      simp -implicitDefEqProofs only [go_sem]
      refine zal (by simp -implicitDefEqProofs only [go_sem]) ?_
      simp -implicitDefEqProofs only [go_sem]
      refine zal (by simp -implicitDefEqProofs only [go_sem]) ?_
      simp -implicitDefEqProofs only [go_sem]
     ·rw [if_neg (by simp), if_pos rfl, if_pos rfl]
      show RC _ _ _ [.one (.sl 2 [[.sl 5 [fmC q], .sl 5 []]]), bD true]
      rw [zaa q]
      refine zbf Tryz.call208 Tryz.func208 rfl (by kernel_rfl) (zau (by kernel_rfl)) ?_
      simp -implicitDefEqProofs only [go_sem, Tryz.results208]
      refine callF (HM) (by simp -implicitDefEqProofs only [go_sem]) ?_
      simp -implicitDefEqProofs only [go_sem]
      refine callF (HV) (by simp -implicitDefEqProofs only [go_sem]) ?_
      simp -implicitDefEqProofs only [go_sem]
      refine callF (HF) (by simp -implicitDefEqProofs only [go_sem]) ?_
      simp -implicitDefEqProofs only [go_sem]
      refine drawn (by kernel_rfl) ?_
      simp -implicitDefEqProofs only [go_sem]
      refine zan (HS) (by simp -implicitDefEqProofs only [go_sem]) ?_
      simp -implicitDefEqProofs only [go_sem]
      refine ⟨by kernel_rfl, ?_⟩
      refine callF (HO) (by simp -implicitDefEqProofs only [go_sem]) ?_
      simp -implicitDefEqProofs only [go_sem]
      refine zal (by simp -implicitDefEqProofs only [go_sem]) ?_
      simp -implicitDefEqProofs only [go_sem]
      refine zal (by simp -implicitDefEqProofs only [go_sem]) ?_
      simp -implicitDefEqProofs only [go_sem]
   ·rw [if_pos (by simp)]
    refine zbf Tryz.call208 Tryz.func208 rfl (by kernel_rfl) (zau (by kernel_rfl)) ?_
    simp -implicitDefEqProofs only [go_sem, Tryz.results208]
    refine callF (HM) (by simp -implicitDefEqProofs only [go_sem]) ?_
    simp -implicitDefEqProofs only [go_sem]
    refine callF (HV) (by simp -implicitDefEqProofs only [go_sem]) ?_
    simp -implicitDefEqProofs only [go_sem]
    refine callF (HF) (by simp -implicitDefEqProofs only [go_sem]) ?_
    simp -implicitDefEqProofs only [go_sem]
 ·cases b
  ·rw [if_neg (by simp), if_neg (by simp)]
   refine zbf Tryz.call208 Tryz.func208 rfl (by kernel_rfl) (zau (by kernel_rfl)) ?_
   simp -implicitDefEqProofs only [go_sem, Tryz.results208]
   refine callF (HM) (by simp -implicitDefEqProofs only [go_sem]) ?_
   simp -implicitDefEqProofs only [go_sem]
   refine drawn (by kernel_rfl) ?_
   simp -implicitDefEqProofs only [go_sem]
   refine zan (HS) (by simp -implicitDefEqProofs only [go_sem]) ?_
   simp -implicitDefEqProofs only [go_sem]
   kernel_rfl
  ·cases on
   ·rw [if_neg (by simp), if_pos rfl, if_neg (by simp)]
    show RC _ _ _ [.one (.sl 2 [[.sl 5 [], .sl 5 [fmC q]]]), bD true]
    rw [zaa q]
    refine zbf Tryz.call208 Tryz.func208 rfl (by kernel_rfl) (zau (by kernel_rfl)) ?_
    simp -implicitDefEqProofs only [go_sem, Tryz.results208]
    refine callF (HM) (by simp -implicitDefEqProofs only [go_sem]) ?_
    simp -implicitDefEqProofs only [go_sem]
    refine drawn (by kernel_rfl) ?_
    simp -implicitDefEqProofs only [go_sem]
    refine zan (HS) (by simp -implicitDefEqProofs only [go_sem]) ?_
    simp -implicitDefEqProofs only [go_sem]
    refine ⟨by kernel_rfl, ?_⟩
    refine callF (HO) (by simp -implicitDefEqProofs only [go_sem]) ?_
    simp -implicitDefEqProofs only [go_sem]
    refine zal (by simp -implicitDefEqProofs only [go_sem]) ?_
    simp -implicitDefEqProofs only [go_sem]
    refine zal (by simp -implicitDefEqProofs only [go_sem]) ?_
    simp -implicitDefEqProofs only [go_sem]
   ·rw [if_neg (by simp), if_pos rfl, if_pos rfl]
    show RC _ _ _ [.one (.sl 2 [[.sl 5 [fmC q], .sl 5 []]]), bD true]
    rw [zaa q]
    refine zbf Tryz.call208 Tryz.func208 rfl (by kernel_rfl) (zau (by kernel_rfl)) ?_
    simp -implicitDefEqProofs only [go_sem, Tryz.results208]
    refine callF (HM) (by simp -implicitDefEqProofs only [go_sem]) ?_
    simp -implicitDefEqProofs only [go_sem]
    refine drawn (by kernel_rfl) ?_
    simp -implicitDefEqProofs only [go_sem]
    refine zan (HS) (by simp -implicitDefEqProofs only [go_sem]) ?_
    simp -implicitDefEqProofs only [go_sem]
    refine ⟨by kernel_rfl, ?_⟩
    refine callF (HO) (by simp -implicitDefEqProofs only [go_sem]) ?_
    simp -implicitDefEqProofs only [go_sem]
    refine zal (by simp -implicitDefEqProofs only [go_sem]) ?_
    simp -implicitDefEqProofs only [go_sem]
    refine zal (by simp -implicitDefEqProofs only [go_sem]) ?_
    simp -implicitDefEqProofs only [go_sem]
end Go.Proofs.YtemnhgmgeijkcaaGreat
