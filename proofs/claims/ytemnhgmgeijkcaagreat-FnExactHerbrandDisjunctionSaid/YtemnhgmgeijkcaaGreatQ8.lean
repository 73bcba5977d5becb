/-
  FnExactHerbrandDisjunction returns true for all arguments, and its arguments read afterwards as they read before.
  Conditions: none.
-/
import Derived.Test.YtemnhgmgeijkcaaGreatQ7
import Derived.Test.YtemnhgmgeijkcaaGreatQ5
import Derived.Test.YtemnhgmgeijkcaaGreatRows
import Derived.Test.YtemnhgmgeijkcaaGreatQ1
import Derived.ProofKit
import Derived.OpenShut
import Derived.ShutString
import Derived.ChangeOld
namespace Go.Proofs.YtemnhgmgeijkcaaGreat
set_option linter.unusedSimpArgs false
set_option linter.unusedVariables false
set_option linter.unusedSectionVars false
set_option maxRecDepth 4000
open Go.RowKit
theorem znv (op : Int) (ho : op = 5 \/ op = 6 \/ op = 7) (z : Fm) : ∀ {xs : List Fm}, (zc1 op xs z).good = true -> ∀ x ∈ xs, x.good = true
 | [], _, x, hx => by cases hx
 | [a], h, x, hx => by rw [List.mem_singleton.1 hx]; exact h
 | a :: b :: xs, h, x, hx => by
  rw [zfi op a (by simp) z] at h
  have h2 := h
  unfold Fm.good at h2
  rw [Bool.and_eq_true, decide_eq_true_eq] at h2
  obtain ⟨hn, hf⟩ := h2
  have hn2 : (mkF op [a, zc1 op (b :: xs) z]).nodes = 1 + (a.nodes + ((zc1 op (b :: xs) z).nodes + 0)) := Fm.nodes_eq _
  have hp := zpc hf
  have ha : a.good = true := by
   unfold Fm.good
   rw [hp a (by simp [qei]), Bool.and_true, decide_eq_true_eq]; omega
  have hj : (zc1 op (b :: xs) z).good = true := by
   unfold Fm.good
   rw [hp _ (by simp [qei]), Bool.and_true, decide_eq_true_eq]; omega
  rcases List.mem_cons.1 hx with rfl | hx
  ·exact ha
  ·exact znv op ho z hj x hx
theorem qbe {g : Fm} {n : Str} {t : Tm} {ps : List (Str × Tm)} : zrd g ((n, t) :: ps) = if (zcp n t g).2 = true then zrd (zcp n t g).1 ps else ((zcp n t g).1, false) := rfl
theorem znn {f : Fm} (h : f.forms = true) (hn : f.nodes <= 40) : f.wt <= 20800 := by
 have := zll f h
 omega
set_option maxHeartbeats 4000000 in
theorem zhu (f : Fm) (hw : f.wt <= 1048576) (tss : List (List Tm)) (ht : zt1 tss <= 1048576) : FC Tryz.prog 60 [fmD f, .one (zi9 tss)] [fmD (hdR f tss), bD (hdB f tss)] := by
 have HH := zni f hw
 cases hh : qcm f
 ·have e1 : hdB f tss = false := by unfold hdB qdh; rw [hh]; rfl
  unfold hdR
  rw [e1, if_neg (by simp)]
  rw [hh] at HH
  simp only [fmD, zab f, zcm, List.map_nil] at HH ⊢
  refine zc3 Tryz.call60 Tryz.func60 rfl (by kernel_rfl) (za1 (by kernel_rfl)) ?_
  simp -implicitDefEqProofs only [go_sem, Tryz.results60]
  refine callF (HH) (by simp -implicitDefEqProofs only [go_sem]) ?_
  simp -implicitDefEqProofs only [go_sem]
 ·rw [hh] at HH
  obtain ⟨hg, hnd, hpl, hfo⟩ := zj5 hh
  have HP := zm7 f (zfw hg) hw
  have hbw := Nat.le_trans (zxg f) (zih hg)
  have hfn : f.nodes <= 40 := by unfold Fm.good at hg; rw [Bool.and_eq_true, decide_eq_true_eq] at hg; exact hg.1
  have hvn : ∀ n ∈ (exN f).1, za2 n = true := fun n hn => (zga f).2 n hn (zfw hg)
  have hgn := Nat.le_trans (zga f).1 hfn
  have hlen := zey f
  have hHG : zuo f tss = zc1 6 (tss.map (zwi f)) (mkF 2 []) := rfl
  have hBv : hdB f tss = (qdh f tss && (zuo f tss).good) := rfl
  have hRv : hdR f tss = if hdB f tss = true then zuo f tss else mkF 0 [] := rfl
  have hvO : qdh f tss = tss.all (okT (exN f).1.length) := by unfold qdh; rw [hh, Bool.true_and]
  rw [show tss.map (zwi f) = tss.map fun ts => pF ((exN f).1.zip ts) (exN f).2 from rfl] at hHG
  generalize exN f = B at HP hnd hpl hfo hbw hvO hvn hgn hlen hHG
  obtain ⟨ns, g⟩ := B
  simp only at HP hnd hpl hfo hbw hvO hvn hgn hlen hHG
  have hTL : zt1 tss = tss.length + (tss.map zfd).sum := rfl
  simp only [fmD, zab f, zab g] at HH HP ⊢
  refine zc3 Tryz.call60 Tryz.func60 rfl (by kernel_rfl) (za1 (by kernel_rfl)) ?_
  simp -implicitDefEqProofs only [go_sem, Tryz.results60]
  refine callF (HH) (by simp -implicitDefEqProofs only [go_sem]) ?_
  simp -implicitDefEqProofs only [go_sem]
  refine zr9 [1, 2, 4, 5] [19] [] (HP) (by simp -implicitDefEqProofs only [go_sem]) (by simp -implicitDefEqProofs only [go_sem]) (by simp -implicitDefEqProofs only [go_sem]) (by simp -implicitDefEqProofs only [go_sem]) ?_
  simp -implicitDefEqProofs only [go_sem]
  refine zpu (by simp -implicitDefEqProofs only [go_sem]) ?_
  simp -implicitDefEqProofs only [go_sem]
  refine zaf (fun k : Nat => hd [(1, .one (.rn (zi9 tss))), (4, .one (.bx 4 0)), (5, vB false), (6, .one (.ow 640 0)), (7, .one (.bx 7 0)), (8, .one (.ow 736 0)), (9, vI k)] [(4, [.t (.int .i64 0), .t (.str []), .nl 2, .t (.str []), .nl 5]), (7, [.t (.int .i64 g.op), .t (.str g.atom.name), .rn (tmS g.atom.args), .t (.str g.var), .rn (fmS g.parts)])] [(640, ⟨true, 1, ns.map fun s => [.str s], 0, true⟩), (736, ⟨false, 5, (tss.take k).map fun ts => fmC (pF (ns.zip ts) g), 0, true⟩)]) (fun k => k <= tss.length /\ (tss.take k).all (okT ns.length) = true /\ ∀ ts ∈ tss.take k, (pF (ns.zip ts) g).good = true) (fun k => tss.length - k) 0 (zac ?_) ⟨Nat.zero_le _, rfl, by simp⟩ ?_
  ·simp -implicitDefEqProofs only [go_sem]
  ·intro k ⟨hk, hT, hG⟩
   by_cases hlt : k < tss.length
   ·have hmw := zbk zfd tss tss[k] (List.getElem_mem hlt)
    have hbad : okT ns.length tss[k] = false -> hdB f tss = false := fun h => by
     rw [hBv, hvO, List.all_eq_false.2 ⟨_, List.getElem_mem hlt, by rw [h]; simp⟩]; rfl
    have hbad2 : (pF (ns.zip tss[k]) g).good = false -> hdB f tss = false := fun h => by
     rw [hBv, hHG]
     cases hgd : (zc1 6 (tss.map fun ts => pF (ns.zip ts) g) (mkF 2 [])).good
     ·rw [Bool.and_false]
     ·have := znv 6 (Or.inr (Or.inl rfl)) (mkF 2 []) hgd _ (List.mem_map_of_mem (List.getElem_mem hlt))
      rw [this] at h; cases h
    have hnx : okT ns.length tss[k] = true -> (tss.take (k + 1)).all (okT ns.length) = true := fun h => by
     rw [List.take_succ_eq_append_getElem hlt, List.all_append, hT]; simp [h]
    have hnx2 : (pF (ns.zip tss[k]) g).good = true -> ∀ ts ∈ tss.take (k + 1), (pF (ns.zip ts) g).good = true := fun h ts hm => by
     rw [List.take_succ_eq_append_getElem hlt] at hm
     rcases List.mem_append.1 hm with hm | hm
     ·exact hG ts hm
     ·rw [List.mem_singleton.1 hm]; exact h
    have htk : tss.take (k + 1) = tss.take k ++ [tss[k]] := by rw [List.take_succ_eq_append_getElem hlt]
    have hget : ∃ ts, ts = tss[k] := ⟨_, rfl⟩
    obtain ⟨ts, hts⟩ := hget
    rw [<- hts] at hmw hbad hbad2 hnx hnx2 htk
    have hov : okT ns.length ts = (decide (ts.length = ns.length) && ts.all grT) := rfl
    by_cases hl : ts.length = ns.length
    ·have hl0 : ((ts.length : Int) != (ns.length : Int)) = false := by simp [hl]
     rw [decide_eq_true hl, Bool.true_and] at hov
     have HTm := ztj ts (by omega) (by omega)
     cases han : ts.all grT
     ·rw [han] at hov HTm
      rw [hRv, hbad hov, if_neg (by simp)]
      simp only [zcm, List.map_nil]
      simp -implicitDefEqProofs only [go_sem, hlt, zai, <- hts, hl0]
      refine callF (HTm) (by simp -implicitDefEqProofs only [go_sem]) ?_
      simp -implicitDefEqProofs only [go_sem]
     ·rw [han] at hov HTm
      have hgr := zp2 hvn han
      have hzl : (ns.zip ts).length = ns.length := by rw [List.length_zip]; omega
      simp -implicitDefEqProofs only [go_sem, hlt, zai, <- hts, hl0]
      refine callF (HTm) (by simp -implicitDefEqProofs only [go_sem]) ?_
      simp -implicitDefEqProofs only [go_sem]
      refine zaf (fun x : Nat × Fm × Bool => hd [(1, .one (.rn (zi9 tss))), (4, .one (.bx 4 0)), (5, vB false), (6, .one (.ow 640 0)), (7, .one (.bx 7 0)), (8, .one (.ow 736 0)), (9, vI k), (10, .one (.bx 10 0)), (11, vB x.2.2), (12, vI x.1)] [(4, [.t (.int .i64 0), .t (.str []), .nl 2, .t (.str []), .nl 5]), (7, [.t (.int .i64 g.op), .t (.str g.atom.name), .rn (tmS g.atom.args), .t (.str g.var), .rn (fmS g.parts)]), (10, [.t (.int .i64 x.2.1.op), .t (.str x.2.1.atom.name), .rn (tmS x.2.1.atom.args), .t (.str x.2.1.var), .rn (fmS x.2.1.parts)])] [(640, ⟨true, 1, ns.map fun s => [.str s], 0, true⟩), (736, ⟨false, 5, (tss.take k).map fun ts => fmC (pF (ns.zip ts) g), 0, true⟩)])
       (fun x => x.1 <= ns.length /\ ((x.2.2 = true /\ x.2.1.forms = true /\ zbh x.2.1 = true /\ x.2.1.nodes <= 40 /\ zrd g (ns.zip ts) = zrd x.2.1 ((ns.zip ts).drop x.1)) \/ (x.2.2 = false /\ zrd g (ns.zip ts) = (x.2.1, false)))) (fun x => (ns.length - x.1)) (0, g, true) (zac ?_) ⟨Nat.zero_le _, Or.inl ⟨rfl, hfo, hpl, hgn, rfl⟩⟩ ?_
      ·simp -implicitDefEqProofs only [go_sem]
      ·rintro ⟨j, g1, ok⟩ ⟨hj, hx⟩
       simp only at hj hx
       rcases hx with ⟨rfl, hf1, hp1, hn1, hseq⟩ | ⟨rfl, hseq⟩
       ·by_cases hlj : j < ns.length
        ·have hlj2 : j < ts.length := by omega
         have hzj : j < (ns.zip ts).length := by omega
         rw [List.drop_eq_getElem_cons hzj, List.getElem_zip, qbe] at hseq
         have hgt := hgr.g (ns[j], ts[j]) (by rw [<- List.getElem_zip (h := hzj)]; exact List.getElem_mem hzj)
         have hvt := hgr.v (ns[j], ts[j]) (by rw [<- List.getElem_zip (h := hzj)]; exact List.getElem_mem hzj)
         have htw : ts[j].wt <= 240 := zk9 hgt.1
         have hw1 := znn hf1 hn1
         have hmul : (1 + g1.wt) * ts[j].wt <= 20801 * 240 := Nat.mul_le_mul (by omega) htw
         have HPt := qfa ns[j] ts[j] (by omega) g1 hf1 (by omega) (by omega)
         have hok1 : (zcp ns[j] ts[j] g1).2 = true -> (zcp ns[j] ts[j] g1).1.forms = true /\ zbh (zcp ns[j] ts[j] g1).1 = true /\ (zcp ns[j] ts[j] g1).1.nodes <= 40 := fun ho => by
          have hi := zp5 ns[j] ts[j] g1 hp1 ho
          rw [zli ns[j] ts[j] g1 hp1, <- zh2 _ g1 hf1] at ho
          rw [hi]
          exact ⟨ho, zlb _ g1 hp1, by rw [qdj _ g1 hf1]; exact hn1⟩
         generalize zcp ns[j] ts[j] g1 = R at HPt hseq hok1
         obtain ⟨g2, ok2⟩ := R
         simp only at HPt hseq hok1
         simp only [fmD, zab g1, zab g2, tmD, zaa ts[j]] at HPt
         simp -implicitDefEqProofs only [go_sem, hlj]
         refine drawn (by kernel_rfl) ?_
         simp -implicitDefEqProofs only [go_sem, hlj, hlj2, hlt, zai, <- hts, zaa ts[j]]
         refine za6 (HPt) (by simp -implicitDefEqProofs only [go_sem]) ?_
         simp -implicitDefEqProofs only [go_sem]
         refine ⟨by kernel_rfl, (j + 1, g2, ok2), ⟨hlj, ?_⟩, by simp only; omega, zac ?_⟩
         ·cases ok2
          ·rw [if_neg (by simp)] at hseq
           exact Or.inr ⟨rfl, hseq⟩
          ·rw [if_pos rfl] at hseq
           obtain ⟨q1, q2, q3⟩ := hok1 rfl
           exact Or.inl ⟨rfl, q1, q2, q3, hseq⟩
         ·simp -implicitDefEqProofs only [go_sem]
          rw [zao (by omega)]
        ·rw [List.drop_of_length_le (by omega)] at hseq
         have hseq : zrd g (ns.zip ts) = (g1, true) := hseq
         have hgood := zr6 hgr hfo hpl
         rw [hseq, Bool.true_and] at hgood
         have hg1 := (zqv hgr hfo hpl (by rw [hseq])).1
         rw [hseq] at hg1
         have hg1 : g1 = pF (ns.zip ts) g := hg1
         have HGd := zh3 g1 (by have := znn hf1 hn1; omega)
         have ha : k <= 4294967295 := by omega
         have ha2 : min k tss.length <= 4294967295 := by omega
         cases hgd : g1.good
         ·rw [hgd] at HGd hgood
          rw [hRv, hbad2 hgood.symm, if_neg (by simp)]
          simp only [fmD, zab g1] at HGd
          simp only [zcm, List.map_nil]
          simp -implicitDefEqProofs only [go_sem, hlj]
          refine callF (HGd) (by simp -implicitDefEqProofs only [go_sem]) ?_
          simp -implicitDefEqProofs only [go_sem]
         ·rw [hgd] at HGd hgood
          simp only [fmD, zab g1] at HGd
          simp -implicitDefEqProofs only [go_sem, hlj]
          refine callF (HGd) (by simp -implicitDefEqProofs only [go_sem]) ?_
          simp -implicitDefEqProofs only [go_sem]
          refine zpu (by simp -implicitDefEqProofs only [go_sem]) ?_
          simp -implicitDefEqProofs only [go_sem]
          refine apD false (by simp -implicitDefEqProofs only [go_sem, ne_eq, List.length_map, List.length_take, ha, ha2]) ?_
          simp -implicitDefEqProofs only [go_sem, ne_eq, List.length_map, List.length_take, ha, ha2]
          refine ⟨k + 1, ⟨hlt, hnx hov, hnx2 hgood.symm⟩, by omega, zac ?_⟩
          simp -implicitDefEqProofs only [go_sem]
          rw [zao (by omega), htk, List.map_append, List.map_singleton, <- hg1, zab g1]
          exact ⟨rfl, rfl⟩
       ·have hgood := zr6 hgr hfo hpl
        rw [hseq, Bool.false_and] at hgood
        rw [hRv, hbad2 hgood.symm, if_neg (by simp)]
        simp only [zcm, List.map_nil]
        by_cases hlj : j < ns.length
        ·simp -implicitDefEqProofs only [go_sem, hlj]
        ·simp -implicitDefEqProofs only [go_sem, hlj]
    ·have hl0 : ((ts.length : Int) != (ns.length : Int)) = true := by rw [bne_iff_ne]; omega
     rw [decide_eq_false hl, Bool.false_and] at hov
     rw [hRv, hbad hov, if_neg (by simp)]
     simp only [zcm, List.map_nil]
     simp -implicitDefEqProofs only [go_sem, hlt, zai, <- hts, hl0]
   ·rw [List.take_of_length_le (by omega)] at hT hG
    rw [hvO, hT, Bool.true_and] at hBv
    have hkt : tss.take k = tss := List.take_of_length_le (by omega)
    have hwa : ∀ (i : Nat) (h : i < (tss.map fun ts => pF (ns.zip ts) g).length), (tss.map fun ts => pF (ns.zip ts) g)[i].wt <= 1048576 := fun i h => by
     rw [List.getElem_map]
     have := zih (hG _ (List.getElem_mem (by simpa using h)))
     omega
    have HJ := zoc (tss.map fun ts => pF (ns.zip ts) g) 6 2 (by rw [List.length_map]; omega) hwa
    have hsum : ∀ l : List Fm, (∀ x ∈ l, x.wt <= 308800) -> (l.map Fm.wt).sum <= 308800 * l.length := fun l => by
     induction l with
     | nil => intro _; simp
     | cons x l ih =>
      intro h
      have := ih fun y hy => h y (by simp [hy])
      have := h x (by simp)
      rw [List.map_cons, List.sum_cons, List.length_cons]; omega
    have hs := hsum (tss.map fun ts => pF (ns.zip ts) g) fun x hx => by
     obtain ⟨ts, hm, rfl⟩ := List.mem_map.1 hx
     have := zih (hG ts hm)
     omega
    have hj := zo1 6 (mkF 2 []) (tss.map fun ts => pF (ns.zip ts) g)
    rw [List.length_map] at hs hj
    have h2 : (mkF 2 []).wt = 0 := rfl
    rw [<- hHG] at HJ hj
    have HI := zh3 (zuo f tss) (by omega)
    rw [hRv, hBv]
    generalize zuo f tss = G at HJ HI
    cases hgd : G.good
    ·rw [hgd] at HI
     rw [if_neg (by simp)]
     simp only [fmD, zcm, List.map_nil, zab G, fmS, List.map_map, Function.comp_def] at HJ HI ⊢
     simp -implicitDefEqProofs only [go_sem, hlt, hkt]
     refine callF (HJ) (by simp -implicitDefEqProofs only [go_sem]) ?_
     simp -implicitDefEqProofs only [go_sem]
     refine callF (HI) (by simp -implicitDefEqProofs only [go_sem]) ?_
     simp -implicitDefEqProofs only [go_sem]
    ·rw [hgd] at HI
     rw [if_pos rfl]
     simp only [fmD, zcm, List.map_nil, zab G, fmS, List.map_map, Function.comp_def] at HJ HI ⊢
     simp -implicitDefEqProofs only [go_sem, hlt, hkt]
     refine callF (HJ) (by simp -implicitDefEqProofs only [go_sem]) ?_
     simp -implicitDefEqProofs only [go_sem]
     refine callF (HI) (by simp -implicitDefEqProofs only [go_sem]) ?_
     simp -implicitDefEqProofs only [go_sem]
end Go.Proofs.YtemnhgmgeijkcaaGreat
namespace Go.Proofs.YtemnhgmgeijkcaaGreat
set_option linter.unusedSimpArgs false
set_option linter.unusedVariables false
set_option linter.unusedSectionVars false
set_option maxRecDepth 4000
open Go.RowKit
def zev : (List Tm) -> Nat -> (List Tm) × Nat
 | s0, k => ((zau s0 k).1, (zau s0 k).2)
def zcy : List (List Tm) -> Nat -> List (List Tm) × Nat
 | [], k => ([], k)
 | a :: xs, k => ((zev a k).1 :: (zcy xs (zev a k).2).1, (zcy xs (zev a k).2).2)
def zfz : (List Tm) -> Nat
 | s0 => 1 + zcr s0
def zeo : List (List Tm) -> Nat
 | [] => 0
 | a :: xs => zfz a + zeo xs
theorem zti : ∀ (a : (List Tm)) (k : Nat), k <= (zev a k).2 /\ (zev a k).2 <= k + zfz a
 | s0, k => by have h_s0 := zce s0 k; simp only [zev, zfz]; omega
theorem zoj : ∀ (xs : List (List Tm)) (k : Nat), k <= (zcy xs k).2 /\ (zcy xs k).2 <= k + zeo xs
 | [], k => ⟨Nat.le_refl _, Nat.le_refl _⟩
 | a :: xs, k => by have h1 := zti a k; have h2 := zoj xs (zev a k).2; simp only [zcy, zeo]; omega
theorem zkm : ∀ xs : List (List Tm), xs.length <= zeo xs
  | [] => Nat.le_refl _
  | a :: xs => by have := zkm xs; have : 1 <= zfz a := by simp only [zfz]; omega
                  simp only [List.length_cons, zeo]; omega
theorem zlx (xs : List (List Tm)) :
  ∀ k : Nat, 0 < k -> k + zeo xs <= 4611686018427387904 -> IC Tryz.prog 21 [] (.one (zi9 xs)) [iD k] (.one (zi9 (zcy xs k).1)) [iD (zcy xs k).2] := by
 intro k h0 hk
 refine zv1 Tryz.call21 Tryz.func21 rfl (by kernel_rfl) (by simp only [zdj, rd, List.map_cons, List.map_nil, List.nil_append, List.length_cons, List.length_nil, Tryz.ntmps21]; omega) (by simp only [Tryz.ntmps21]; omega) (fun vs => ?_)
 simp -implicitDefEqProofs only [go_sem, Tryz.results21, qa3, zkz, zdj, PI]
 refine zaf (fun (x : List (List Tm) × List (List Tm) × Nat) => hd [(0, .one (.ow 0 0)), (1000000, .one (.ow 0 0)), (1, vI x.2.2), (5, vI x.1.length)] [] [(0, ⟨true, 1, x.1.map (fun s => [tmS s]) ++ ze0 vs x.1.length (x.2.1.map (fun s => [tmS s])), 0, true⟩)])
  (fun x => (zcy xs k).1 = x.1 ++ (zcy x.2.1 x.2.2).1 /\ (zcy xs k).2 = (zcy x.2.1 x.2.2).2 /\ 0 < x.2.2 /\ x.2.2 + zeo x.2.1 <= 4611686018427387904 /\ x.1.length + x.2.1.length = xs.length /\ ∀ a ∈ x.2.1, a ∈ xs) (fun x => x.2.1.length) ([], xs, k) (zac ?_) ?_ ?_
 ·simp -implicitDefEqProofs only [go_sem]
 ·exact ⟨rfl, rfl, h0, hk, by simp, fun _ h => h⟩
 ·intro ⟨dn, rest, kk⟩ ⟨h1, h2, h3, h4, h6, h5⟩
  simp only at h1 h2 h3 h4 h5 h6
  cases rest with
  | nil =>
   simp only [zcy, List.append_nil] at h1 h2
   simp -implicitDefEqProofs only [go_sem, h1, h2]
  | cons s0 rest =>
   simp only [zcy, zev, zeo, zfz] at h1 h2 h4
   have hc_s0 := zce s0 kk
   have hln := zkm xs
   rw [List.length_cons] at h6
   have wl : IntKind.i64.wrap ((dn.length : Int) + 1) = ((dn.length + 1 : Nat) : Int) := zao (by omega)
   simp -implicitDefEqProofs only [go_sem, List.map_cons]
   refine callN (l := [(0, .one (.ow 0 0)), (1000000, .one (.ow 0 0)), (5, vI dn.length), (15, .one (.cv (vs dn.length 0))), (16, vI (kk : Nat))]) (bl := []) (el := [(0, ⟨true, 1, dn.map (fun s => [tmS s]) ++ [.pin (vs dn.length 0) (tmS s0)] :: ze0 vs (dn.length + 1) (rest.map (fun s => [tmS s])), 0, true⟩)]) 0 dn.length 0 (zfx s0 kk (by omega) (by omega)) (by simp -implicitDefEqProofs only [go_sem, tmS]) rfl rfl rfl (by simp -implicitDefEqProofs only [go_sem, tmS]) rfl ?_
   simp -implicitDefEqProofs only [go_sem, wl]
   refine ⟨(dn ++ [(zau s0 kk).1], rest, (zau s0 kk).2), ⟨by simpa using h1, h2, by show 0 < (zau s0 kk).2; omega, by show (zau s0 kk).2 + zeo rest <= _; omega, by simp; omega, fun b hb => h5 b (by simp [hb])⟩, by simp, zac ?_⟩
   simp -implicitDefEqProofs only [go_sem, wl, List.map_cons, List.map_append, List.append_assoc]
theorem zms (xs : List (List Tm)) (k : Nat) (h0 : 0 < k) (hk : k + zeo xs <= 4611686018427387904) : IC Tryz.prog 21 [] (.one (zi9 xs)) [iD k] (.one (zi9 (zcy xs k).1)) [iD (zcy xs k).2] := zlx xs k h0 hk
end Go.Proofs.YtemnhgmgeijkcaaGreat
namespace Go.Proofs.YtemnhgmgeijkcaaGreat
set_option linter.unusedSimpArgs false
set_option linter.unusedVariables false
set_option linter.unusedSectionVars false
set_option maxRecDepth 4000
open Go.RowKit
set_option maxHeartbeats 400000 in
theorem zua (xs ys : List (List Tm)) : FC Tryz.prog 19 [.one (zi9 xs), .one (zi9 ys)] [bD (same xs ys)] := by
 refine zdm (fun hw => ?_) Tryz.call19
 have hl : xs.length <= 9223372036854775807 := by simpa [zhp, wfT] using hw.1.1
 have hl2 : ys.length <= 9223372036854775807 := by simpa [zhp, wfT] using hw.2.1.1
 refine zam Tryz.call19 Tryz.func19 rfl (by kernel_rfl) (za1 (by kernel_rfl)) ?_
 simp -implicitDefEqProofs only [go_sem, Tryz.results19]
 refine ⟨fun h => ?_, fun h => ?_⟩
 ·rw [zej.2 (by rintro rfl; simp at h)]
 ·have hlen : xs.length = ys.length := by simp at h; omega
  refine zaf (fun k : Nat => hd [(0, vT (zi9 xs)), (1, vT (zi9 ys)), (4, vB false), (5, vI k)] [] []) (fun k => k <= xs.length /\ same xs ys = same (xs.drop k) (ys.drop k)) (fun k => xs.length - k) 0 (zac ?_) ?_ ?_
  ·simp -implicitDefEqProofs only [go_sem]
  ·simp
  ·intro k ⟨hk, hr⟩
   by_cases hlt : k < xs.length
   ·have hk2 : k < ys.length := by omega
    simp -implicitDefEqProofs only [go_sem, List.length_map, hlt]
    refine drawn (by kernel_rfl) ?_
    simp -implicitDefEqProofs only [go_sem, List.length_map, zai, hlt, hk2]
    refine za6 (zvz xs[k] ys[k]) (by simp -implicitDefEqProofs only [go_sem]) ?_
    simp -implicitDefEqProofs only [go_sem]
    refine ⟨by kernel_rfl, fun h => ?_, fun h => ?_⟩
    ·rw [hr, List.drop_eq_getElem_cons hlt, List.drop_eq_getElem_cons hk2, zdz, show same xs[k] ys[k] = false by simpa using h]; rfl
    ·rw [List.drop_eq_getElem_cons hlt, List.drop_eq_getElem_cons hk2, zdz, show same xs[k] ys[k] = true by simpa using h, Bool.true_and] at hr
     rw [zao (by omega)]
     exact ⟨k + 1, ⟨by omega, hr⟩, by omega, zac (by simp -implicitDefEqProofs only [go_sem])⟩
   ·simp -implicitDefEqProofs only [go_sem, List.length_map, hlt]
    rw [hr, List.drop_of_length_le (by omega), List.drop_of_length_le (by omega), zk7]
end Go.Proofs.YtemnhgmgeijkcaaGreat
namespace Go.Proofs.YtemnhgmgeijkcaaGreat
set_option linter.unusedSimpArgs false
set_option linter.unusedVariables false
set_option linter.unusedSectionVars false
set_option maxRecDepth 4000
open Go.RowKit
theorem zt4 (xs : List (List Tm)) (l : Int) (h0 : 0 <= l) (h1 : l <= 1048576) : FC Tryz.prog 13 [.one (zi9 xs), iD l] [iD (szR (zt1 xs) l)] := by
 refine zdm (fun hw => ?_) Tryz.call13
 have hl : xs.length <= 9223372036854775807 := by simpa [zhp, wfT] using hw.1.1
 refine zam Tryz.call13 Tryz.func13 rfl (by kernel_rfl) (za1 (by kernel_rfl)) ?_
 simp -implicitDefEqProofs only [go_sem, Tryz.results13]
 rw [zbp (by omega) (by omega)]
 have hW : zt1 xs = xs.length + (xs.map zfd).sum := rfl
 refine ⟨fun h => ?_, fun h => ?_⟩
 ·rw [zdf (by simp at h; omega)]
 ·have hlen : (xs.length : Int) <= l := by simp at h; omega
  refine zaf (fun k : Nat => hd [(0, vT (zi9 xs)), (1, vI (l - xs.length - zmb zfd xs k)), (5, vI k)] [] []) (fun k => k <= xs.length /\ 0 <= l - xs.length - zmb zfd xs k) (fun k => xs.length - k) 0 (zac ?_) ?_ ?_
  ·simp -implicitDefEqProofs only [go_sem]
   simp [zd7]
  ·simpa [zd7] using hlen
  ·intro k ⟨hk, hp⟩
   by_cases hlt : k < xs.length
   ·have hs := zid zfd xs k hlt
    have hs2 := zo6 zfd xs (k + 1)
    simp -implicitDefEqProofs only [go_sem, List.length_map, zai, hlt]
    refine callF (zwr xs[k] (l - xs.length - zmb zfd xs k) hp (by omega)) (by simp -implicitDefEqProofs only [go_sem]) ?_
    simp -implicitDefEqProofs only [go_sem]
    refine ⟨fun h => ?_, fun h => ?_⟩
    ·have := zg0 hp (by simpa using h)
     rw [zdf (by omega)]
    ·obtain ⟨h2, h3⟩ := zeu (by simpa using h)
     rw [zao (by omega)]
     exact ⟨k + 1, ⟨hlt, by omega⟩, by omega, zac (by simp -implicitDefEqProofs only [go_sem]; rw [h3]; congr 1; omega)⟩
   ·simp -implicitDefEqProofs only [go_sem, List.length_map, hlt]
    have hall := zku zfd xs k (by omega)
    rw [hall, zmy (by omega)]; congr 1; omega
set_option maxHeartbeats 400000 in
theorem zs0 (xs : List (List Tm)) (hs : zt1 xs <= 1048576) : FC Tryz.prog 16 [.one (zi9 xs)] [.one (zi9 xs)] := by
 have hW : zt1 xs = xs.length + (xs.map zfd).sum := rfl
 refine zam Tryz.call16 Tryz.func16 rfl (by kernel_rfl) (za1 (by kernel_rfl)) ?_
 simp -implicitDefEqProofs only [go_sem, Tryz.results16]
 refine qcd (by simp -implicitDefEqProofs only [go_sem]; omega) ?_
 simp -implicitDefEqProofs only [go_sem]
 refine zaf (fun k : Nat => hd [(0, vT (zi9 xs)), (3, .one (.ow 224 0)), (4, vI k)] [] [(224, ⟨true, 1, (xs.take k).map (fun s => [tmS s]) ++ List.replicate (xs.length - k) [T.sl 2 []], 0, true⟩)]) (fun k => k <= xs.length) (fun k => xs.length - k) 0 (zac ?_) (Nat.zero_le _) ?_
 ·simp -implicitDefEqProofs only [go_sem]
  simp
 ·intro k hk
  by_cases hlt : k < xs.length
  ·have hlen : ((xs.take k).map (fun s => [tmS s]) ++ List.replicate (xs.length - k) [T.sl 2 []]).length = xs.length := by simp; omega
   have hlt2 : k < k + (xs.length - k) := by omega
   have hmw := zbk zfd xs xs[k] (List.getElem_mem hlt)
   simp -implicitDefEqProofs only [go_sem, List.length_map, zai, hlt]
   refine callF (zyo xs[k] (by omega)) (by simp -implicitDefEqProofs only [go_sem, hlen, hlt, List.length_append, List.length_map, List.length_take, List.length_replicate, Nat.min_eq_left hk, hlt2]) ?_
   simp -implicitDefEqProofs only [go_sem, hlen, hlt, List.length_append, List.length_map, List.length_take, List.length_replicate, Nat.min_eq_left hk, hlt2]
   refine zha (by simp -implicitDefEqProofs only [go_sem]; simp) ?_
   simp -implicitDefEqProofs only [go_sem]
   rw [zao (by omega)]
   refine ⟨k + 1, by omega, by omega, zac ?_⟩
   simp -implicitDefEqProofs only [go_sem]
   have hf := zf2 ((xs.take k).map fun s => [tmS s]) xs.length k [T.sl 2 []] [tmS xs[k]] (by simp; omega) hlt (by simp)
   rw [hf, List.take_succ_eq_append_getElem hlt, List.map_append, List.map_singleton]
  ·simp -implicitDefEqProofs only [go_sem, List.length_map, hlt]
   simp [List.take_of_length_le (show xs.length <= k by omega), show xs.length - k = 0 by omega]
theorem hdR_wt (f : Fm) (tss : List (List Tm)) : (hdR f tss).wt <= 20800 := by
 unfold hdR
 split
 ·rename_i h
  unfold hdB at h
  rw [Bool.and_eq_true] at h
  exact zih h.2
 ·rw [qhg]; omega
theorem znk : ∀ xs : List (List Tm), zeo xs <= 2 * zt1 xs
 | [] => Nat.zero_le _
 | a :: xs => by
  have h1 := znk xs
  have h2 := zf5 a
  unfold zt1 at h1 ⊢
  rw [zeo, zfz, List.length_cons, List.map_cons, List.sum_cons]
  omega
theorem qdi (f : Fm) (hw : f.wt <= 1048576) (tss : List (List Tm)) (ht : zt1 tss <= 1048576) : FC Tryz.prog 14 [fmD f, .one (zi9 tss)] [fmD (hdR f tss), bD (hdB f tss)] := by
 have H := zhu f hw tss ht
 generalize hdR f tss = R at H ⊢
 generalize hdB f tss = B at H ⊢
 simp only [fmD, zab f, zab R] at H ⊢
 refine zam Tryz.call14 Tryz.func14 rfl (by kernel_rfl) (za1 (by kernel_rfl)) ?_
 simp -implicitDefEqProofs only [go_sem, Tryz.results14]
 refine callF (H) (by simp -implicitDefEqProofs only [go_sem]) ?_
 simp -implicitDefEqProofs only [go_sem]
set_option maxHeartbeats 4000000 in
theorem qg9 (f : Fm) (tss : List (List Tm)) : FC Tryz.prog 3 [fmD f, .one (zi9 tss)] [bD true] := by
 have HZ := zqc f 1048576 (by omega) (by omega)
 simp only [fmD, zab f] at HZ ⊢
 refine zc3 Tryz.call3 Tryz.func3 rfl (by kernel_rfl) (za1 (by kernel_rfl)) ?_
 simp -implicitDefEqProofs only [go_sem, Tryz.results3]
 refine callF (HZ) (by simp -implicitDefEqProofs only [go_sem]) ?_
 simp -implicitDefEqProofs only [go_sem]
 refine ⟨fun h => trivial, fun h => ?_⟩
 obtain ⟨hw1, hw2⟩ := zeu (show ¬ szR f.wt 1048576 < 0 by simpa using h)
 have HZ2 := zt4 tss (szR f.wt 1048576) (by omega) (by omega)
 refine callF (HZ2) (by simp -implicitDefEqProofs only [go_sem]) ?_
 simp -implicitDefEqProofs only [go_sem]
 refine ⟨fun h => trivial, fun h2 => ?_⟩
 obtain ⟨hw3, hw4⟩ := zeu (show ¬ szR (zt1 tss) (szR f.wt 1048576) < 0 by simpa using h2)
 have hw : f.wt <= 1048576 := by omega
 have hws : zt1 tss <= 1048576 := by omega
 have HS := qdi f hw tss hws
 have HI := qbp f hw tss hws
 have hrw := hdR_wt f tss
 have HT := zpn f hw
 have HT2 := zs0 tss hws
 have HE := zi2 f f
 have HE2 := zua tss tss
 generalize hdB f tss = G at HS HI
 generalize hdR f tss = R at HS HI hrw
 have HF := zi2 R R
 simp only [fmD, zab f, zab R] at HS HI HT HE HF
 have n2 : ∀ b : Bool, (b != b) = false := by decide
 refine callF (HT) (by simp -implicitDefEqProofs only [go_sem]) ?_
 simp -implicitDefEqProofs only [go_sem]
 refine callF (HT2) (by simp -implicitDefEqProofs only [go_sem]) ?_
 simp -implicitDefEqProofs only [go_sem]
 refine callF (HS) (by simp -implicitDefEqProofs only [go_sem]) ?_
 simp -implicitDefEqProofs only [go_sem]
 refine callF (HT) (by simp -implicitDefEqProofs only [go_sem]) ?_
 simp -implicitDefEqProofs only [go_sem]
 refine callF (HT2) (by simp -implicitDefEqProofs only [go_sem]) ?_
 simp -implicitDefEqProofs only [go_sem]
 refine callF (HI) (by simp -implicitDefEqProofs only [go_sem]) ?_
 simp -implicitDefEqProofs only [go_sem]
 refine callF (HF) (by simp -implicitDefEqProofs only [go_sem, zbe]) ?_
 simp -implicitDefEqProofs only [go_sem, zbe]
 refine ⟨fun h => by simp at h, fun _ => ?_⟩
 refine drawn (by kernel_rfl) ?_
 simp -implicitDefEqProofs only [go_sem]
 refine za6 (HT) (by simp -implicitDefEqProofs only [go_sem]) ?_
 simp -implicitDefEqProofs only [go_sem]
 refine za6 (HE) (by simp -implicitDefEqProofs only [go_sem]) ?_
 simp -implicitDefEqProofs only [go_sem]
 refine ⟨by kernel_rfl, fun h => ?_, fun _ => ?_⟩
 ·simp [zbe] at h
 refine callF (HT2) (by simp -implicitDefEqProofs only [go_sem]) ?_
 simp -implicitDefEqProofs only [go_sem]
 refine callF (HE2) (by simp -implicitDefEqProofs only [go_sem, zbe]) ?_
 simp -implicitDefEqProofs only [go_sem, zbe]
 have hc := zgi f
 have hc2 := znk tss
 have hcR := zgi R
 have hka := zf7 f 1
 have HM1 := zgo f 1 (by omega) (by omega)
 have HMb := zms tss (zaz f 1).2 (by omega) (by omega)
 have HM2 := zgo R 1 (by omega) (by omega)
 have HL := zls R 1 (by omega) (by omega)
 have hkb := (zoj tss (zaz f 1).2).1
 have hmR := (zf7 R 1).1
 rw [zhv] at HM1 HM2 HL
 generalize (zaz f 1).1.atom.args = f2 at HM1
 generalize (zaz f 1).1.parts = f5 at HM1
 generalize (zaz f 1).2 = k1 at HM1 HMb hka hkb
 generalize (zcy tss k1).1 = b1 at HMb
 generalize (zcy tss k1).2 = k2 at HMb hkb
 generalize (zaz R 1).1.atom.args = r2 at HM2 HL
 generalize (zaz R 1).1.parts = r5 at HM2 HL
 generalize (zaz R 1).2 = k3 at HM2 HL hmR
 rw [zab] at HM1 HM2
 refine zpo [1, 2, 4, 6, 7, 8, 9, 10, 11, 64, 65] (HM1) (by simp -implicitDefEqProofs only [go_sem]) (by simp -implicitDefEqProofs only [go_sem]) (by simp -implicitDefEqProofs only [go_sem]) (by simp -implicitDefEqProofs only [go_sem]) (by simp -implicitDefEqProofs only [go_sem]) rfl ?_
 simp -implicitDefEqProofs only [go_sem]
 refine zpo [1, 2, 4, 6, 7, 8, 9, 10, 11, 67, 68] (HMb) (by simp -implicitDefEqProofs only [go_sem]) (by simp -implicitDefEqProofs only [go_sem]) (by simp -implicitDefEqProofs only [go_sem]) (by simp -implicitDefEqProofs only [go_sem]) (by simp -implicitDefEqProofs only [go_sem]) rfl ?_
 simp -implicitDefEqProofs only [go_sem]
 refine callF (HF) (by simp -implicitDefEqProofs only [go_sem, zbe]) ?_
 simp -implicitDefEqProofs only [go_sem, zbe]
 refine ⟨fun h => by simp at h, fun _ => ?_⟩
 refine zpo [1, 2, 4, 6, 7, 10, 11, 13, 83, 84] (HM2) (by simp -implicitDefEqProofs only [go_sem]) (by simp -implicitDefEqProofs only [go_sem]) (by simp -implicitDefEqProofs only [go_sem]) (by simp -implicitDefEqProofs only [go_sem]) (by simp -implicitDefEqProofs only [go_sem]) rfl ?_
 simp -implicitDefEqProofs only [go_sem]
 refine callF (HL) (by simp -implicitDefEqProofs only [go_sem]) ?_
 simp -implicitDefEqProofs only [go_sem]
 refine ⟨fun h => by simp at h, fun _ => ?_⟩
 refine callF (HT) (by simp -implicitDefEqProofs only [go_sem]) ?_
 simp -implicitDefEqProofs only [go_sem]
 refine callF (HT2) (by simp -implicitDefEqProofs only [go_sem]) ?_
 simp -implicitDefEqProofs only [go_sem]
 refine callF (HI) (by simp -implicitDefEqProofs only [go_sem]) ?_
 simp -implicitDefEqProofs only [go_sem]
 refine callF (HF) (by simp -implicitDefEqProofs only [go_sem, zbe]) ?_
 simp -implicitDefEqProofs only [go_sem, zbe]
 refine ⟨fun h => by simp at h, fun _ => ?_⟩
 refine callF (HL) (by simp -implicitDefEqProofs only [go_sem]) ?_
 simp -implicitDefEqProofs only [go_sem]
 refine ⟨fun h => by simp at h, fun _ => trivial⟩
end Go.Proofs.YtemnhgmgeijkcaaGreat
namespace Go.Proofs.YtemnhgmgeijkcaaGreat
set_option linter.unusedSimpArgs false
set_option linter.unusedVariables false
set_option linter.unusedSectionVars false
set_option maxRecDepth 4000
open Go.ChangeShapes Go.WideShapes Go.ChangeAt Go.RowKit
theorem zx3 : ownKnob Tryz.prog.godebug = none := by kernel_rfl
theorem zgq : laidOutB Tryz.prog = true := by kernel_rfl
def zg4 (t : TypeId) : Bool := t == 3 || t == 9 || t == 24 || t == 22 || t == 27 || t == 25 || t == 28
theorem zgp : ∀ t, zg4 t = true -> zy4 Tryz.prog zg4 t = true := by
 intro t h
 simp only [zg4, Bool.or_eq_true, beq_iff_eq] at h
 rcases h with (((((rfl | rfl) | rfl) | rfl) | rfl) | rfl) | rfl <;> kernel_rfl
set_option maxRecDepth 100000 in
theorem zm2 (os : Os) (started : os.Started) (H : Type) (enc : TypeId × Value -> H) :
  ReturnsInHanded {} Tryz.checked os 3 .any (Rows.fnExactHerbrandDisjunctionSpec.pre6 enc Tryz.prog Tryz.f3 Rows.fnExactHerbrandDisjunctionRow.domain false)
   (Rows.fnExactHerbrandDisjunctionSpec.post enc Tryz.prog Tryz.f3 false true false false) := by
 refine returnsInHanded_of_change (C := Tryz.checked) zx3 started (by kernel_rfl) Tryz.func3
  (ChangeSpec.witness6 (enc := enc) (C := Tryz.checked) false ⟨#[], #[.agg #[.int .i64 0, .string .empty, .slice none 0 0, .string .empty, .slice none 0 0], .slice none 0 0], []⟩ 8 (by kernel_rfl) (by kernel_rfl) (by kernel_rfl) (by kernel_rfl)) ?_
 intro W base args ds gs before hval0 hW hcnd _
 have hval : ∀ (j : Nat) t v, Tryz.f3.params[j]? = some t -> args[j]? = some v -> Value.okWide Tryz.prog W .any base t v := hval0
 have hW' := hW
 obtain ⟨p, q, hA0, hV, rfl, hfz, hnd⟩ := hW
 have hA : DataW.TrodAll enc Tryz.prog W 0 (fun _ => true) true Tryz.f3.params.toList args.toList ds p := hA0
 rw [Tryz.params3] at hA hval
 obtain ⟨v0, vs0, d0, ds0, p0, q0, hargs, rfl, rfl, h0, r0⟩ := trodAll_cons hA
 obtain ⟨v1, vs1, d1, ds1, p1, q1, rfl, rfl, rfl, h1, r1⟩ := trodAll_cons r0
 obtain ⟨rfl, rfl, rfl⟩ := trodAll_nil r1
 obtain rfl : args = #[v0, v1] := by cases args; simp_all
 obtain ⟨rfl, rfl⟩ := trodVars_none hV
 have k0 := h0
 have k1 := h1
 have lt0 : ∀ x ∈ p0, x.block < W.heap.size := by obtain ⟨m, hm⟩ := k0; exact DataW.trod_lt m _ _ _ hm
 have lt1 : ∀ x ∈ p1, x.block < W.heap.size := by obtain ⟨m, hm⟩ := k1; exact DataW.trod_lt m _ _ _ hm
 obtain ⟨cs0, rfl, _⟩ := okWide_struct Tryz.underlying27 (hval 0 27 v0 rfl rfl)
 obtain ⟨sa1, sb1, sc1, rfl⟩ := okWide_slice Tryz.underlying28 (hval 1 28 v1 rfl rfl)
 obtain ⟨s0, hs0⟩ : ∃ s : Fm, ztx W (· < W.heap.size) (fmD s) (.agg cs0) := by
  obtain ⟨m, hm⟩ := h0
  obtain ⟨d, hr, hs⟩ := zit zgp m _ _ _ (by rfl) hm
  obtain ⟨s, e⟩ := ztv _ hs
  exact ⟨s, cs0.toList, rfl, e ▸ hr⟩
 obtain ⟨s1, hs1⟩ : ∃ s : (List (List Tm)), ztx W (· < W.heap.size) (tssD s) (.slice sa1 sb1 sc1) := by
  obtain ⟨m, hm⟩ := h1
  obtain ⟨d, hr, hs⟩ := zit zgp m _ _ _ (by rfl) hm
  obtain ⟨s, e⟩ := zyq hs
  rw [e] at hr
  obtain ⟨v', vs', e1, e2, _⟩ := hr
  cases e1
  exact ⟨s, e2⟩
 have hs : za9 W (· < W.heap.size) [fmD s0, tssD s1] [.agg cs0, .slice sa1 sb1 sc1] := ⟨_, _, rfl, hs0, _, _, rfl, hs1, rfl⟩
 clear hA0 hval0
 refine ((qg9 s0 s1).use (vs := [.agg cs0, .slice sa1 sb1 sc1]) hs).mono fun e W' ⟨us, fp, he, ho, _, _, bel⟩ => ?_
 obtain ⟨u, us', f1, f2, rfl, _, ⟨rfl, _⟩, hu⟩ := ho
 obtain ⟨rfl, _⟩ := hu
 subst he
 exact ⟨_, rfl, _, _, _, [], _, [], hW', trodAll_mk1 (shut_bool Tryz.underlying4 _),
  (trodAll_cons_mk (Below.trod zgq (by kernel_rfl) (of_decide_eq_true (by kernel_rfl)) k0 bel lt0) (trodAll_cons_mk (Below.trod zgq (by kernel_rfl) (of_decide_eq_true (by kernel_rfl)) k1 bel lt1) trodAll_mk0)), rfl, bel.frame _, fun h => by cases h⟩
theorem qco : (Rows.fnExactHerbrandDisjunctionRow.wf (OpenSpec.ofChange Rows.fnExactHerbrandDisjunctionSpec)) = true := by kernel_rfl
theorem qcl : (laidOutB Tryz.checked.prog) = true := by kernel_rfl
theorem qa5 : (mapsRowed Tryz.checked.prog) = true := by kernel_rfl
theorem qdd : (Tryz.f3.params.all (Tryz.checked.prog.readableRec ·)) = true := by kernel_rfl
theorem zz9 : (namedTie Tryz.checked.prog Rows.fnExactHerbrandDisjunctionRow.named Rows.fnExactHerbrandDisjunctionSpec.vars) = true := by kernel_rfl
theorem qcc : ((Rows.fnExactHerbrandDisjunctionRow.stops == [])) = true := by kernel_rfl
theorem qba : ((Tryz.checked.prog.stops == [])) = true := by kernel_rfl
theorem qam : ((Rows.fnExactHerbrandDisjunctionRow.knobs == [])) = true := by kernel_rfl
theorem qae : ((Tryz.checked.prog.stopKnobs == [])) = true := by kernel_rfl
theorem qar : ((Rows.fnExactHerbrandDisjunctionRow.inPlace == Tryz.checked.prog.inPlace 3)) = true := by kernel_rfl
theorem zy5 : ((Rows.fnExactHerbrandDisjunctionRow.unfollowed == Tryz.checked.prog.unfollowed 3)) = true := by kernel_rfl
theorem zx0 : ((Rows.fnExactHerbrandDisjunctionRow.recurses == Tryz.checked.prog.recurses 3)) = true := by kernel_rfl
theorem zu5 : ((Rows.fnExactHerbrandDisjunctionRow.named == Tryz.checked.prog.varsNamed 3)) = true := by kernel_rfl
theorem zy1 : ((Rows.fnExactHerbrandDisjunctionRow.maps == (Tryz.f3.params.toList ++ Rows.fnExactHerbrandDisjunctionSpec.plain.varTypes Tryz.checked.prog).any (Tryz.checked.prog.mapsRec ·))) = true := by kernel_rfl
theorem zx6 : ((Rows.fnExactHerbrandDisjunctionRow.ifaces == (Tryz.f3.params.toList ++ Rows.fnExactHerbrandDisjunctionSpec.plain.varTypes Tryz.checked.prog).any (Tryz.checked.prog.ifacesRec ·))) = true := by kernel_rfl
theorem zvg : ((Rows.fnExactHerbrandDisjunctionRow.mapsOut == Tryz.checked.prog.mapsAmong Tryz.f3.resultTypes.toList)) = true := by kernel_rfl
theorem zww : ((Rows.fnExactHerbrandDisjunctionRow.loops == (Tryz.f3.params.toList ++ Rows.fnExactHerbrandDisjunctionSpec.plain.varTypes Tryz.checked.prog).any (Tryz.checked.prog.loopsFrom ·))) = true := by kernel_rfl
theorem zwq : ((Rows.fnExactHerbrandDisjunctionRow.wideKeys == (Tryz.f3.params.toList ++ Rows.fnExactHerbrandDisjunctionSpec.plain.varTypes Tryz.checked.prog ++ Tryz.f3.resultTypes.toList).any (Tryz.checked.prog.wideKeysFrom ·))) = true := by kernel_rfl
theorem zzu : (Rows.fnExactHerbrandDisjunctionSpec.vars.all (Tryz.checked.prog.varReadable ·)) = true := by kernel_rfl
theorem zu0 : (Tryz.f3.resultTypes.all (fun t => Tryz.checked.prog.readableRec t && decide (t < Tryz.checked.prog.types.size))) = true := by kernel_rfl
theorem zvd : ((Rows.fnExactHerbrandDisjunctionRow.ifacesOut == Tryz.f3.resultTypes.toList.any (Tryz.checked.prog.ifacesRec ·))) = true := by kernel_rfl
theorem zwx : ((Rows.fnExactHerbrandDisjunctionRow.loopsOut == Tryz.f3.resultTypes.toList.any (Tryz.checked.prog.loopsFrom ·))) = true := by kernel_rfl
theorem zyt : ((Rows.fnExactHerbrandDisjunctionRow.plainKeys == Tryz.checked.prog.plainKeys)) = true := by kernel_rfl
theorem zzh : (Rows.fnExactHerbrandDisjunctionRow.shortTexts.isNone) = true := by kernel_rfl
theorem zzg : (Tryz.checked.prog.stopsHeard) = true := by kernel_rfl
theorem zyl : (Tryz.checked.prog.mayEnter) = true := by kernel_rfl
theorem zv0 : ((Rows.fnExactHerbrandDisjunctionRow.lifted == Tryz.checked.prog.liftsFinal)) = true := by kernel_rfl
theorem zzc : ((Tryz.checked.prog.make == some Rows.fnExactHerbrandDisjunctionRow.make)) = true := by kernel_rfl
theorem zxs : ((Rows.fnExactHerbrandDisjunctionRow.kinds == (if Rows.fnExactHerbrandDisjunctionRow.domain.isEmpty then [] else Tryz.f3.params.toList.map fun t => match Tryz.checked.prog.underlying t with | some (.int k) => some k | _ => none))) = true := by kernel_rfl
theorem zxm : ((Rows.fnExactHerbrandDisjunctionRow.pinned == Rows.fnExactHerbrandDisjunctionRow.pinnedBy)) = true := by kernel_rfl
theorem zyf : ((Rows.fnExactHerbrandDisjunctionRow.veiled == (Tryz.f3.params.toList ++ Rows.fnExactHerbrandDisjunctionSpec.plain.varTypes Tryz.checked.prog ++ Tryz.f3.resultTypes.toList).any (Tryz.checked.prog.veiledRec ·))) = true := by kernel_rfl
theorem zwd : (Rows.fnExactHerbrandDisjunctionRow.veiledFits Tryz.checked.prog Tryz.f3.params.toList (Tryz.f3.params.toList ++ Rows.fnExactHerbrandDisjunctionSpec.plain.varTypes Tryz.checked.prog ++ Tryz.f3.resultTypes.toList)) = true := by kernel_rfl
theorem znm : joinedFacts Tryz.checked.prog 3 Tryz.f3 Rows.fnExactHerbrandDisjunctionSpec Rows.fnExactHerbrandDisjunctionRow = true := by
 unfold joinedFacts
 simp only [Bool.and_eq_true]
 exact ⟨⟨⟨⟨⟨⟨⟨⟨⟨⟨⟨⟨⟨⟨⟨⟨⟨⟨⟨⟨⟨⟨⟨⟨⟨⟨⟨⟨⟨⟨⟨qco, qcl⟩, qa5⟩, qdd⟩, zz9⟩, qcc⟩, qba⟩, qam⟩, qae⟩, qar⟩, zy5⟩, zx0⟩, zu5⟩, zy1⟩, zx6⟩, zvg⟩, zww⟩, zwq⟩, zzu⟩, zu0⟩, zvd⟩, zwx⟩, zyt⟩, zzh⟩, zzg⟩, zyl⟩, zv0⟩, zzc⟩, zxs⟩, zxm⟩, zyf⟩, zwd⟩
theorem herbrandDisjunction_holds : Rows.FnExactHerbrandDisjunctionSaid :=
 OpenClaim.holds_of_wide 3 Tryz.f3 rfl rfl rfl rfl rfl rfl rfl ⟨rfl, rfl, rfl, rfl, rfl⟩ rfl rfl rfl rfl rfl (by kernel_rfl) Tryz.func3 znm
  (of_decide_eq_true (by kernel_rfl)) (by unfold Func.isWrapper; rw [if_neg (of_decide_eq_false (by kernel_rfl))]; exact ⟨rfl, rfl⟩)
  (fun os started H enc _ => zm2 os started H enc)
#print axioms herbrandDisjunction_holds
end Go.Proofs.YtemnhgmgeijkcaaGreat
