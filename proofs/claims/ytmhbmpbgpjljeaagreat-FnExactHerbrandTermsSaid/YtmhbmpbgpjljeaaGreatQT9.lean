/-
  The walk over plain data, and contracts of functions of the program and of its laws.
  Conditions: those that each theorem names.
-/
import Derived.Test.YtmhbmpbgpjljeaaGreatQT8
import Derived.Test.YtmhbmpbgpjljeaaGreatQT7
namespace Go.Proofs.YtmhbmpbgpjljeaaGreat
set_option linter.unusedSimpArgs false
set_option linter.unusedVariables false
set_option linter.unusedSectionVars false
set_option maxRecDepth 4000
open Go.RowKit
theorem ltB_eq (a b : Tb) : ltB a b = (Op.bytesLess a.name b.name || (a.name == b.name && decide (a.ar < b.ar))) := by
 unfold ltB zeo zjy
 cases h1 : Op.bytesLess a.name b.name
 ·cases h2 : a.name == b.name
  ·simp [orE]
  ·simp only [Bool.false_eq_true, if_false, if_true, orE, Bool.false_or, Bool.true_and]
   congr 1
   unfold zj3
   rw [eq_iff_iff]
   split
   ·rename_i h
    exact ⟨fun _ => h, fun _ => by omega⟩
   ·rename_i h
    split
    ·exact ⟨fun h' => by omega, fun h' => absurd h' h⟩
    ·exact ⟨fun h' => by omega, fun h' => absurd h' h⟩
 ·simp [orE]
theorem zle {x y : Tb} : qf2 x.name x.ar y = true ↔ zeo y x = 0 := by
 unfold qf2
 rw [zi1, Bool.and_eq_true, beq_iff_eq, beq_iff_eq]
theorem idx_fd {ts : List Tb} (hs : zfi ts) (x : Tb) : zqe ts (qf2 x.name x.ar) = if fdB ts x = true then ((plB ts x : Nat) : Int) else -1 := by
 by_cases hf : fdB ts x = true
 ·obtain ⟨hp, h0⟩ := zfy hf
  rw [if_pos hf]
  refine zdu hp (fun y hy => ?_) (zle.2 h0)
  obtain ⟨k, hk, rfl⟩ := List.getElem_of_mem hy
  rw [List.length_take] at hk
  rw [List.getElem_take]
  have := zr6 (ts := ts) (x := x) k (by omega) (by omega)
  cases h : qf2 x.name x.ar (ts[k]'(by omega))
  ·rfl
  ·have := zle.1 h; omega
 ·rw [if_neg hf]
  refine zed fun y hy => ?_
  cases h : qf2 x.name x.ar y
  ·rfl
  ·exact absurd ((zqd hs).2 ⟨y, hy, zle.1 h⟩) hf
theorem plB_is {ts : List Tb} (hs : zfi ts) {x : Tb} {k : Nat} (hk : k <= ts.length) (h1 : ∀ y ∈ ts.take k, ltB y x = true) (h2 : ∀ h : k < ts.length, ltB ts[k] x = false) : plB ts x = k := by
 unfold plB
 have := (zml (p := fun y => ltB y x) hk h1 h2).1
 rw [this, List.length_take]
 omega
abbrev zs2 (t : Tm) (p : Bool) (ts : List Tb) : Prop := RC Tryz.prog 85 [.one (tbS ts), tmD t, bD p] [.one (tbS (trB ts (syS t p)).1), bD (trB ts (syS t p)).2]
theorem zwz : ∀ t : Tm, (suS t).length <= t.nodes := zbi fun n xs ih => by
 rw [zdo, Tm.nodes_eq]
 change (if za3 n = true then [] else zlq n xs.length false ++ (xs.map suS).flatten).length <= 1 + (xs.map Tm.nodes).sum
 have h1 : ((xs.map suS).flatten).length <= (xs.map Tm.nodes).sum := by
  rw [List.length_flatten, List.map_map]
  revert ih
  induction xs with
  | nil => intro _; simp
  | cons a xs ih2 =>
   intro ih
   have := ih a (by simp)
   have := ih2 fun x hx => ih x (by simp [hx])
   simp only [List.map_cons, List.sum_cons, Function.comp]
   omega
 have h2 : (zlq n xs.length false).length <= 1 := by unfold zlq; split <;> simp
 split
 ·simp
 ·rw [List.length_append]; omega
set_option maxHeartbeats 8000000 in
theorem zye (t : Tm) (hw : t.wt <= 1048576) (H : ∀ a ∈ t.args, ∀ ts : List Tb, zfi ts -> ts.length + a.nodes <= 1048576 -> zs2 a false ts) (p : Bool) (ts : List Tb) (hs : zfi ts) (hz : ts.length + t.nodes <= 1048576) : zs2 t p ts := by
 have hN := t.nodes_eq
 have hW := t.wt_eq
 have HV := zlr t.name
 unfold zs2
 have hsy : syS t p = if za3 t.name = true then [] else zlq t.name t.args.length p ++ (t.args.map suS).flatten := rfl
 have HF := zwj ts (by omega) t.name t.args.length
 have hix := idx_fd hs ⟨t.name, t.args.length, p⟩
 simp only at hix
 rw [hix] at HF
 have hfs := zfy (ts := ts) (x := ⟨t.name, t.args.length, p⟩)
 have hst := qae ts false ⟨t.name, t.args.length, p⟩
 simp only [Bool.false_or] at hst
 have hpl := zs7 ts ⟨t.name, t.args.length, p⟩
 have hple := fun (k : Nat) (h1 : k <= ts.length) h2 h3 => plB_is hs (x := ⟨t.name, t.args.length, p⟩) (k := k) h1 h2 h3
 have hlb := fun a : Tb => ltB_eq a ⟨t.name, t.args.length, p⟩
 have hto : trB ts [⟨t.name, t.args.length, p⟩] = if (stB (ts, false) ⟨t.name, t.args.length, p⟩).2 = true then (ts, false) else ((stB (ts, false) ⟨t.name, t.args.length, p⟩).1, true) := rfl
 have hsrt := zmd (z := (ts, false)) hs ⟨t.name, t.args.length, p⟩
 have hsln := (zqk (ts, false) ⟨t.name, t.args.length, p⟩).1
 have key : ∀ ts1 : List Tb, zfi ts1 -> ts1.length <= ts.length + 1 -> ∃ X : Nat -> List Tb × Bool, X 0 = (ts1, true) /\ (∀ j (h : j < t.args.length), (X j).2 = true -> X (j + 1) = trB (X j).1 (suS t.args[j])) /\ (∀ j, zfi (X j).1) /\ (∀ j, (X j).1.length <= ts.length + 1 + zh6 Tm.nodes t.args j) /\ X t.args.length = trB ts1 (t.args.map suS).flatten /\ (∀ j, (X j).2 = false -> trB ts1 (t.args.map suS).flatten = X j) := fun ts1 h1 h2 => by
  refine ⟨fun j => trB ts1 ((t.args.take j).map suS).flatten, rfl, fun j h hok => ?_, fun j => zk6 _ h1, fun j => ?_, by simp only [List.take_length], fun j hf => ?_⟩
  ·simp only
   rw [zdr suS t.args j h, zby, if_pos hok]
  ·have k1 := zps (((t.args.take j).map suS).flatten) ts1
   have k2 : (((t.args.take j).map suS).flatten).length <= zh6 Tm.nodes t.args j := by
    unfold zh6
    rw [List.length_flatten, List.map_map]
    have : ∀ l : List Tm, (l.map (List.length ∘ suS)).sum <= (l.map Tm.nodes).sum := fun l => by
     induction l with
     | nil => simp
     | cons a l ih => have := zwz a; simp only [List.map_cons, List.sum_cons, Function.comp]; omega
    exact this _
   simp only
   omega
  ·have e : (t.args.map suS).flatten = ((t.args.take j).map suS).flatten ++ ((t.args.drop j).map suS).flatten := by
    rw [<- List.flatten_append, <- List.map_append, List.take_append_drop]
   rw [e, zby, if_neg (by rw [hf]; simp)]
 simp only [tmD, zab t]
 cases hV : za3 t.name
 ·rw [hV] at HV
  rw [hV, if_neg (by simp)] at hsy
  have hown : zlq t.name t.args.length p = if (p && (t.name == [61])) = true then [] else [⟨t.name, t.args.length, p⟩] := rfl
  cases hb : p && (t.name == [61])
  ·rw [hb, if_neg (by simp)] at hown
   rw [hsy, zby, hown, hto]
   have hc : ∀ b : Prop, (p = false \/ (p = true /\ (t.name == [61]) = false) -> b) -> b := fun b h => h (by cases p; exact Or.inl rfl; rw [Bool.true_and] at hb; exact Or.inr ⟨rfl, hb⟩)
   generalize hplv : plB ts ⟨t.name, t.args.length, p⟩ = pl at *
   cases hfd : fdB ts ⟨t.name, t.args.length, p⟩
   ·rw [hfd, if_neg (by simp)] at hst HF
    rw [hst] at hsrt hsln ⊢
    simp only at hsrt hsln ⊢
    by_cases h3 : 3 < (t.args.length : Int)
    ·simp only [decide_eq_true h3, Bool.false_eq_true, if_false, if_true]
     refine hc _ fun hcp => ?_
     rcases hcp with rfl | ⟨rfl, hne⟩
     ·refine zcg Tryz.call85 Tryz.func85 rfl (by kernel_rfl) (za6 (by kernel_rfl)) ?_
      simp -implicitDefEqProofs only [go_sem, Tryz.results85]
      refine callF (HV) (by simp -implicitDefEqProofs only [go_sem]) ?_
      simp -implicitDefEqProofs only [go_sem]
      refine callF (HF) (by simp -implicitDefEqProofs only [go_sem, h3]) ?_
      simp -implicitDefEqProofs only [go_sem, h3]
     ·refine zcg Tryz.call85 Tryz.func85 rfl (by kernel_rfl) (za6 (by kernel_rfl)) ?_
      simp -implicitDefEqProofs only [go_sem, Tryz.results85]
      refine callF (HV) (by simp -implicitDefEqProofs only [go_sem, hne]) ?_
      simp -implicitDefEqProofs only [go_sem, hne]
      refine callF (HF) (by simp -implicitDefEqProofs only [go_sem, h3]) ?_
      simp -implicitDefEqProofs only [go_sem, h3]
    ·have h3' : (3 < (t.args.length : Int)) = False := eq_false h3
     simp only [decide_eq_false h3, Bool.false_eq_true, if_false, if_true]
     obtain ⟨X, hX0, hXs, hXr, hXl, hXn, hXf⟩ := key _ hsrt hsln
     rw [<- hXn] at hXf ⊢
     refine hc _ fun hcp => ?_
     have go : (rcx : Bool) -> True := fun _ => trivial
     rcases hcp with rfl | ⟨rfl, hne⟩
     all_goals
      refine zcg Tryz.call85 Tryz.func85 rfl (by kernel_rfl) (za6 (by kernel_rfl)) ?_
      simp -implicitDefEqProofs only [go_sem, Tryz.results85]
     ·refine callF (HV) (by simp -implicitDefEqProofs only [go_sem]) ?_
      simp -implicitDefEqProofs only [go_sem]
      refine callF (HF) (by simp -implicitDefEqProofs only [go_sem, h3']) ?_
      simp -implicitDefEqProofs only [go_sem, h3']
      refine zaf (fun k : Nat => hd [(0, vT (tbS ts)), (2, .one (.t (.bool false))), (4, .one (.bx 4 0)), (10, vI k)] [(4, [.t (.str t.name), .t (tmS t.args)])] []) (fun k => k <= ts.length /\ ∀ y ∈ ts.take k, ltB y ⟨t.name, t.args.length, false⟩ = true) (fun k => ts.length - k) 0 (zaa ?_) ⟨Nat.zero_le _, by simp⟩ ?_
      ·simp -implicitDefEqProofs only [go_sem]
      ·intro k ⟨hk, hr⟩
       have hbk := fun h : k < ts.length => hlb ts[k]
       have hnx : ∀ h : k < ts.length, ltB ts[k] ⟨t.name, t.args.length, false⟩ = true -> ∀ y ∈ ts.take (k + 1), ltB y ⟨t.name, t.args.length, false⟩ = true := fun h hb y hy => by
        rw [List.take_succ_eq_append_getElem h] at hy
        rcases List.mem_append.1 hy with hy | hy
        ·exact hr y hy
        ·rw [List.mem_singleton.1 hy]; exact hb
       have hm1 : min k ts.length <= 4294967296 := by omega
       have hm2 : min k ts.length <= 4294967295 := by omega
       have hm3 : min k ts.length + 1 + (ts.length - k) <= 4294967296 := by omega
       by_cases hlt : k < ts.length
       ·have hbk := hbk hlt
        have hnx := hnx hlt
        have hgo := fun hb : ltB ts[k] ⟨t.name, t.args.length, false⟩ = false => (hple k hk hr fun _ => hb).symm
        simp only at hbk
        simp -implicitDefEqProofs only [go_sem]
        refine drawn (by kernel_rfl) ?_
        cases h1 : Op.bytesLess ts[k].name t.name
        ·cases h2 : (ts[k].name == t.name)
         ·rw [h1, h2, Bool.false_or, Bool.false_and] at hbk
          have hpk := hgo hbk
          subst hpk
          simp -implicitDefEqProofs only [go_sem, hlt, zad, zat ts[k], h1, h2]
          refine ⟨by kernel_rfl, ?_⟩
          refine zcz (σ' := hd [(0, vT (tbS ts)), (10, vI k), (4, .one (.bx 4 0)), (11, .one (.bx 11 0))] [(4, [.t (.str t.name), .t (tmS t.args)]), (11, [.t (.str t.name), .t (.int .i64 t.args.length), .t (.bool false), .t (.vs none 0 0)])] []) (Wk.nilB 11 ?_) ?_
          ·simp -implicitDefEqProofs only [go_sem]
           refine zaa ?_
           simp -implicitDefEqProofs only [go_sem]
          refine drawn (by kernel_rfl) ?_
          simp -implicitDefEqProofs only [go_sem, hk]
          refine zbk (by simp -implicitDefEqProofs only [go_sem, hk]) ?_
          simp -implicitDefEqProofs only [go_sem, hk]
          refine zfs false (by simp -implicitDefEqProofs only [go_sem, hk, ne_eq, Nat.zero_add, hm1, hm2, hm3, zax, List.length_drop, List.length_take, List.length_append, List.length_map]) ?_
          simp -implicitDefEqProofs only [go_sem, hk, ne_eq, Nat.zero_add, hm1, hm2, hm3, zax, List.length_drop, List.length_take, List.length_append, List.length_map]
          refine zbk (by simp -implicitDefEqProofs only [go_sem, hk]) ?_
          simp -implicitDefEqProofs only [go_sem, hk]
          refine zfs false (by simp -implicitDefEqProofs only [go_sem, hk, ne_eq, Nat.zero_add, hm1, hm2, hm3, zax, List.length_drop, List.length_take, List.length_append, List.length_map]) ?_
          simp -implicitDefEqProofs only [go_sem, hk, ne_eq, Nat.zero_add, hm1, hm2, hm3, zax, List.length_drop, List.length_take, List.length_append, List.length_map]
          refine zfs false (by simp -implicitDefEqProofs only [go_sem, hk, ne_eq, Nat.zero_add, hm1, hm2, hm3, zax, List.length_drop, List.length_take, List.length_append, List.length_map]) ?_
          simp -implicitDefEqProofs only [go_sem, hk, ne_eq, Nat.zero_add, hm1, hm2, hm3, zax, List.length_drop, List.length_take, List.length_append, List.length_map]
          refine ⟨by kernel_rfl, ?_⟩
          refine zaf (fun j : Nat => hd [(0, vT (tbS (X j).1)), (4, .one (.bx 4 0)), (12, vI j)] [(4, [.t (.str t.name), .t (tmS t.args)])] []) (fun j => j <= t.args.length /\ (X j).2 = true) (fun j => t.args.length - j) 0 (Wk.fsO 3040 ?_) ⟨Nat.zero_le _, by rw [hX0]⟩ ?_
          ·simp -implicitDefEqProofs only [go_sem, hX0]
           refine zaa ?_
           simp -implicitDefEqProofs only [go_sem, hX0]
           show T.sl 4 _ = T.sl 4 (List.map tbC _)
           rw [List.map_append, List.map_append, List.map_take, List.map_drop]
           rfl
          ·intro j ⟨hj, hokj⟩
           by_cases hlj : j < t.args.length
           ·have hXj := hXs j hlj hokj
            have HC := H t.args[j] (List.getElem_mem hlj) (X j).1 (hXr j) (by have := hXl j; have := zbm Tm.nodes t.args j hlj; have := zb7 Tm.nodes t.args (j + 1); omega)
            unfold zs2 at HC
            rw [show syS t.args[j] false = suS t.args[j] from (zdo _).symm, <- hXj] at HC
            simp only [tmD, zab t.args[j]] at HC
            simp -implicitDefEqProofs only [go_sem, hlj, zad, zab t.args[j]]
            refine callR (HC) (by simp -implicitDefEqProofs only [go_sem]) ?_
            simp -implicitDefEqProofs only [go_sem]
            cases hk : (X (j + 1)).2
            ·rw [hXf (j + 1) hk]
             simp -implicitDefEqProofs only [go_sem, hk]
            ·simp -implicitDefEqProofs only [go_sem]
             refine ⟨j + 1, ⟨hlj, hk⟩, by omega, zaa ?_⟩
             simp -implicitDefEqProofs only [go_sem]
             rw [zam (by omega)]
           ·have hjn : j = t.args.length := by omega
            subst hjn
            rw [hXn] at hokj
            simp -implicitDefEqProofs only [go_sem, hlj, hokj, hXn]
         ·by_cases h4 : ts[k].ar < (t.args.length : Int)
          ·rw [h1, h2, decide_eq_true h4] at hbk
           simp -implicitDefEqProofs only [go_sem, hlt, zad, zat ts[k], h1, h2, h4]
           refine ⟨by kernel_rfl, ?_⟩
           refine ⟨k + 1, ⟨hlt, hnx hbk⟩, by omega, zaa ?_⟩
           simp -implicitDefEqProofs only [go_sem]
           rw [zam (by omega)]
          ·rw [h1, h2, decide_eq_false h4] at hbk
           have hpk := hgo hbk
           subst hpk
           have h4' : (ts[k].ar < (t.args.length : Int)) = False := eq_false h4
           simp -implicitDefEqProofs only [go_sem, hlt, zad, zat ts[k], h1, h2, h4']
           refine ⟨by kernel_rfl, ?_⟩
           refine zcz (σ' := hd [(0, vT (tbS ts)), (10, vI k), (4, .one (.bx 4 0)), (11, .one (.bx 11 0))] [(4, [.t (.str t.name), .t (tmS t.args)]), (11, [.t (.str t.name), .t (.int .i64 t.args.length), .t (.bool false), .t (.vs none 0 0)])] []) (Wk.nilB 11 ?_) ?_
           ·simp -implicitDefEqProofs only [go_sem]
            refine zaa ?_
            simp -implicitDefEqProofs only [go_sem]
           refine drawn (by kernel_rfl) ?_
           simp -implicitDefEqProofs only [go_sem, hk]
           refine zbk (by simp -implicitDefEqProofs only [go_sem, hk]) ?_
           simp -implicitDefEqProofs only [go_sem, hk]
           refine zfs false (by simp -implicitDefEqProofs only [go_sem, hk, ne_eq, Nat.zero_add, hm1, hm2, hm3, zax, List.length_drop, List.length_take, List.length_append, List.length_map]) ?_
           simp -implicitDefEqProofs only [go_sem, hk, ne_eq, Nat.zero_add, hm1, hm2, hm3, zax, List.length_drop, List.length_take, List.length_append, List.length_map]
           refine zbk (by simp -implicitDefEqProofs only [go_sem, hk]) ?_
           simp -implicitDefEqProofs only [go_sem, hk]
           refine zfs false (by simp -implicitDefEqProofs only [go_sem, hk, ne_eq, Nat.zero_add, hm1, hm2, hm3, zax, List.length_drop, List.length_take, List.length_append, List.length_map]) ?_
           simp -implicitDefEqProofs only [go_sem, hk, ne_eq, Nat.zero_add, hm1, hm2, hm3, zax, List.length_drop, List.length_take, List.length_append, List.length_map]
           refine zfs false (by simp -implicitDefEqProofs only [go_sem, hk, ne_eq, Nat.zero_add, hm1, hm2, hm3, zax, List.length_drop, List.length_take, List.length_append, List.length_map]) ?_
           simp -implicitDefEqProofs only [go_sem, hk, ne_eq, Nat.zero_add, hm1, hm2, hm3, zax, List.length_drop, List.length_take, List.length_append, List.length_map]
           refine ⟨by kernel_rfl, ?_⟩
           refine zaf (fun j : Nat => hd [(0, vT (tbS (X j).1)), (4, .one (.bx 4 0)), (12, vI j)] [(4, [.t (.str t.name), .t (tmS t.args)])] []) (fun j => j <= t.args.length /\ (X j).2 = true) (fun j => t.args.length - j) 0 (Wk.fsO 3040 ?_) ⟨Nat.zero_le _, by rw [hX0]⟩ ?_
           ·simp -implicitDefEqProofs only [go_sem, hX0]
            refine zaa ?_
            simp -implicitDefEqProofs only [go_sem, hX0]
            show T.sl 4 _ = T.sl 4 (List.map tbC _)
            rw [List.map_append, List.map_append, List.map_take, List.map_drop]
            rfl
           ·intro j ⟨hj, hokj⟩
            by_cases hlj : j < t.args.length
            ·have hXj := hXs j hlj hokj
             have HC := H t.args[j] (List.getElem_mem hlj) (X j).1 (hXr j) (by have := hXl j; have := zbm Tm.nodes t.args j hlj; have := zb7 Tm.nodes t.args (j + 1); omega)
             unfold zs2 at HC
             rw [show syS t.args[j] false = suS t.args[j] from (zdo _).symm, <- hXj] at HC
             simp only [tmD, zab t.args[j]] at HC
             simp -implicitDefEqProofs only [go_sem, hlj, zad, zab t.args[j]]
             refine callR (HC) (by simp -implicitDefEqProofs only [go_sem]) ?_
             simp -implicitDefEqProofs only [go_sem]
             cases hk : (X (j + 1)).2
             ·rw [hXf (j + 1) hk]
              simp -implicitDefEqProofs only [go_sem, hk]
             ·simp -implicitDefEqProofs only [go_sem]
              refine ⟨j + 1, ⟨hlj, hk⟩, by omega, zaa ?_⟩
              simp -implicitDefEqProofs only [go_sem]
              rw [zam (by omega)]
            ·have hjn : j = t.args.length := by omega
             subst hjn
             rw [hXn] at hokj
             simp -implicitDefEqProofs only [go_sem, hlj, hokj, hXn]
        ·rw [h1, Bool.true_or] at hbk
         simp -implicitDefEqProofs only [go_sem, hlt, zad, zat ts[k], h1]
         refine ⟨by kernel_rfl, ?_⟩
         refine ⟨k + 1, ⟨hlt, hnx hbk⟩, by omega, zaa ?_⟩
         simp -implicitDefEqProofs only [go_sem]
         rw [zam (by omega)]
       ·have hpk := (hple k hk hr fun h => absurd h hlt).symm
        subst hpk
        simp -implicitDefEqProofs only [go_sem]
        refine drawn (by kernel_rfl) ?_
        simp -implicitDefEqProofs only [go_sem, hlt]
        refine ⟨by kernel_rfl, ?_⟩
        refine zcz (σ' := hd [(0, vT (tbS ts)), (10, vI k), (4, .one (.bx 4 0)), (11, .one (.bx 11 0))] [(4, [.t (.str t.name), .t (tmS t.args)]), (11, [.t (.str t.name), .t (.int .i64 t.args.length), .t (.bool false), .t (.vs none 0 0)])] []) (Wk.nilB 11 ?_) ?_
        ·simp -implicitDefEqProofs only [go_sem]
         refine zaa ?_
         simp -implicitDefEqProofs only [go_sem]
        refine drawn (by kernel_rfl) ?_
        simp -implicitDefEqProofs only [go_sem, hk]
        refine zbk (by simp -implicitDefEqProofs only [go_sem, hk]) ?_
        simp -implicitDefEqProofs only [go_sem, hk]
        refine zfs false (by simp -implicitDefEqProofs only [go_sem, hk, ne_eq, Nat.zero_add, hm1, hm2, hm3, zax, List.length_drop, List.length_take, List.length_append, List.length_map]) ?_
        simp -implicitDefEqProofs only [go_sem, hk, ne_eq, Nat.zero_add, hm1, hm2, hm3, zax, List.length_drop, List.length_take, List.length_append, List.length_map]
        refine zbk (by simp -implicitDefEqProofs only [go_sem, hk]) ?_
        simp -implicitDefEqProofs only [go_sem, hk]
        refine zfs false (by simp -implicitDefEqProofs only [go_sem, hk, ne_eq, Nat.zero_add, hm1, hm2, hm3, zax, List.length_drop, List.length_take, List.length_append, List.length_map]) ?_
        simp -implicitDefEqProofs only [go_sem, hk, ne_eq, Nat.zero_add, hm1, hm2, hm3, zax, List.length_drop, List.length_take, List.length_append, List.length_map]
        refine zfs false (by simp -implicitDefEqProofs only [go_sem, hk, ne_eq, Nat.zero_add, hm1, hm2, hm3, zax, List.length_drop, List.length_take, List.length_append, List.length_map]) ?_
        simp -implicitDefEqProofs only [go_sem, hk, ne_eq, Nat.zero_add, hm1, hm2, hm3, zax, List.length_drop, List.length_take, List.length_append, List.length_map]
        refine ⟨by kernel_rfl, ?_⟩
        refine zaf (fun j : Nat => hd [(0, vT (tbS (X j).1)), (4, .one (.bx 4 0)), (12, vI j)] [(4, [.t (.str t.name), .t (tmS t.args)])] []) (fun j => j <= t.args.length /\ (X j).2 = true) (fun j => t.args.length - j) 0 (Wk.fsO 3040 ?_) ⟨Nat.zero_le _, by rw [hX0]⟩ ?_
        ·simp -implicitDefEqProofs only [go_sem, hX0]
         refine zaa ?_
         simp -implicitDefEqProofs only [go_sem, hX0]
         show T.sl 4 _ = T.sl 4 (List.map tbC _)
         rw [List.map_append, List.map_append, List.map_take, List.map_drop]
         rfl
        ·intro j ⟨hj, hokj⟩
         by_cases hlj : j < t.args.length
         ·have hXj := hXs j hlj hokj
          have HC := H t.args[j] (List.getElem_mem hlj) (X j).1 (hXr j) (by have := hXl j; have := zbm Tm.nodes t.args j hlj; have := zb7 Tm.nodes t.args (j + 1); omega)
          unfold zs2 at HC
          rw [show syS t.args[j] false = suS t.args[j] from (zdo _).symm, <- hXj] at HC
          simp only [tmD, zab t.args[j]] at HC
          simp -implicitDefEqProofs only [go_sem, hlj, zad, zab t.args[j]]
          refine callR (HC) (by simp -implicitDefEqProofs only [go_sem]) ?_
          simp -implicitDefEqProofs only [go_sem]
          cases hk : (X (j + 1)).2
          ·rw [hXf (j + 1) hk]
           simp -implicitDefEqProofs only [go_sem, hk]
          ·simp -implicitDefEqProofs only [go_sem]
           refine ⟨j + 1, ⟨hlj, hk⟩, by omega, zaa ?_⟩
           simp -implicitDefEqProofs only [go_sem]
           rw [zam (by omega)]
         ·have hjn : j = t.args.length := by omega
          subst hjn
          rw [hXn] at hokj
          simp -implicitDefEqProofs only [go_sem, hlj, hokj, hXn]
     ·refine callF (HV) (by simp -implicitDefEqProofs only [go_sem, hne]) ?_
      simp -implicitDefEqProofs only [go_sem, hne]
      refine callF (HF) (by simp -implicitDefEqProofs only [go_sem, h3']) ?_
      simp -implicitDefEqProofs only [go_sem, h3']
      refine zaf (fun k : Nat => hd [(0, vT (tbS ts)), (2, .one (.t (.bool true))), (4, .one (.bx 4 0)), (10, vI k)] [(4, [.t (.str t.name), .t (tmS t.args)])] []) (fun k => k <= ts.length /\ ∀ y ∈ ts.take k, ltB y ⟨t.name, t.args.length, true⟩ = true) (fun k => ts.length - k) 0 (zaa ?_) ⟨Nat.zero_le _, by simp⟩ ?_
      ·simp -implicitDefEqProofs only [go_sem]
      ·intro k ⟨hk, hr⟩
       have hbk := fun h : k < ts.length => hlb ts[k]
       have hnx : ∀ h : k < ts.length, ltB ts[k] ⟨t.name, t.args.length, true⟩ = true -> ∀ y ∈ ts.take (k + 1), ltB y ⟨t.name, t.args.length, true⟩ = true := fun h hb y hy => by
        rw [List.take_succ_eq_append_getElem h] at hy
        rcases List.mem_append.1 hy with hy | hy
        ·exact hr y hy
        ·rw [List.mem_singleton.1 hy]; exact hb
       have hm1 : min k ts.length <= 4294967296 := by omega
       have hm2 : min k ts.length <= 4294967295 := by omega
       have hm3 : min k ts.length + 1 + (ts.length - k) <= 4294967296 := by omega
       by_cases hlt : k < ts.length
       ·have hbk := hbk hlt
        have hnx := hnx hlt
        have hgo := fun hb : ltB ts[k] ⟨t.name, t.args.length, true⟩ = false => (hple k hk hr fun _ => hb).symm
        simp only at hbk
        simp -implicitDefEqProofs only [go_sem]
        refine drawn (by kernel_rfl) ?_
        cases h1 : Op.bytesLess ts[k].name t.name
        ·cases h2 : (ts[k].name == t.name)
         ·rw [h1, h2, Bool.false_or, Bool.false_and] at hbk
          have hpk := hgo hbk
          subst hpk
          simp -implicitDefEqProofs only [go_sem, hlt, zad, zat ts[k], h1, h2]
          refine ⟨by kernel_rfl, ?_⟩
          refine zcz (σ' := hd [(0, vT (tbS ts)), (10, vI k), (4, .one (.bx 4 0)), (11, .one (.bx 11 0))] [(4, [.t (.str t.name), .t (tmS t.args)]), (11, [.t (.str t.name), .t (.int .i64 t.args.length), .t (.bool true), .t (.vs none 0 0)])] []) (Wk.nilB 11 ?_) ?_
          ·simp -implicitDefEqProofs only [go_sem]
           refine zaa ?_
           simp -implicitDefEqProofs only [go_sem]
          refine drawn (by kernel_rfl) ?_
          simp -implicitDefEqProofs only [go_sem, hk]
          refine zbk (by simp -implicitDefEqProofs only [go_sem, hk]) ?_
          simp -implicitDefEqProofs only [go_sem, hk]
          refine zfs false (by simp -implicitDefEqProofs only [go_sem, hk, ne_eq, Nat.zero_add, hm1, hm2, hm3, zax, List.length_drop, List.length_take, List.length_append, List.length_map]) ?_
          simp -implicitDefEqProofs only [go_sem, hk, ne_eq, Nat.zero_add, hm1, hm2, hm3, zax, List.length_drop, List.length_take, List.length_append, List.length_map]
          refine zbk (by simp -implicitDefEqProofs only [go_sem, hk]) ?_
          simp -implicitDefEqProofs only [go_sem, hk]
          refine zfs false (by simp -implicitDefEqProofs only [go_sem, hk, ne_eq, Nat.zero_add, hm1, hm2, hm3, zax, List.length_drop, List.length_take, List.length_append, List.length_map]) ?_
          simp -implicitDefEqProofs only [go_sem, hk, ne_eq, Nat.zero_add, hm1, hm2, hm3, zax, List.length_drop, List.length_take, List.length_append, List.length_map]
          refine zfs false (by simp -implicitDefEqProofs only [go_sem, hk, ne_eq, Nat.zero_add, hm1, hm2, hm3, zax, List.length_drop, List.length_take, List.length_append, List.length_map]) ?_
          simp -implicitDefEqProofs only [go_sem, hk, ne_eq, Nat.zero_add, hm1, hm2, hm3, zax, List.length_drop, List.length_take, List.length_append, List.length_map]
          refine ⟨by kernel_rfl, ?_⟩
          refine zaf (fun j : Nat => hd [(0, vT (tbS (X j).1)), (4, .one (.bx 4 0)), (12, vI j)] [(4, [.t (.str t.name), .t (tmS t.args)])] []) (fun j => j <= t.args.length /\ (X j).2 = true) (fun j => t.args.length - j) 0 (Wk.fsO 3040 ?_) ⟨Nat.zero_le _, by rw [hX0]⟩ ?_
          ·simp -implicitDefEqProofs only [go_sem, hX0]
           refine zaa ?_
           simp -implicitDefEqProofs only [go_sem, hX0]
           show T.sl 4 _ = T.sl 4 (List.map tbC _)
           rw [List.map_append, List.map_append, List.map_take, List.map_drop]
           rfl
          ·intro j ⟨hj, hokj⟩
           by_cases hlj : j < t.args.length
           ·have hXj := hXs j hlj hokj
            have HC := H t.args[j] (List.getElem_mem hlj) (X j).1 (hXr j) (by have := hXl j; have := zbm Tm.nodes t.args j hlj; have := zb7 Tm.nodes t.args (j + 1); omega)
            unfold zs2 at HC
            rw [show syS t.args[j] false = suS t.args[j] from (zdo _).symm, <- hXj] at HC
            simp only [tmD, zab t.args[j]] at HC
            simp -implicitDefEqProofs only [go_sem, hlj, zad, zab t.args[j]]
            refine callR (HC) (by simp -implicitDefEqProofs only [go_sem]) ?_
            simp -implicitDefEqProofs only [go_sem]
            cases hk : (X (j + 1)).2
            ·rw [hXf (j + 1) hk]
             simp -implicitDefEqProofs only [go_sem, hk]
            ·simp -implicitDefEqProofs only [go_sem]
             refine ⟨j + 1, ⟨hlj, hk⟩, by omega, zaa ?_⟩
             simp -implicitDefEqProofs only [go_sem]
             rw [zam (by omega)]
           ·have hjn : j = t.args.length := by omega
            subst hjn
            rw [hXn] at hokj
            simp -implicitDefEqProofs only [go_sem, hlj, hokj, hXn]
         ·by_cases h4 : ts[k].ar < (t.args.length : Int)
          ·rw [h1, h2, decide_eq_true h4] at hbk
           simp -implicitDefEqProofs only [go_sem, hlt, zad, zat ts[k], h1, h2, h4]
           refine ⟨by kernel_rfl, ?_⟩
           refine ⟨k + 1, ⟨hlt, hnx hbk⟩, by omega, zaa ?_⟩
           simp -implicitDefEqProofs only [go_sem]
           rw [zam (by omega)]
          ·rw [h1, h2, decide_eq_false h4] at hbk
           have hpk := hgo hbk
           subst hpk
           have h4' : (ts[k].ar < (t.args.length : Int)) = False := eq_false h4
           simp -implicitDefEqProofs only [go_sem, hlt, zad, zat ts[k], h1, h2, h4']
           refine ⟨by kernel_rfl, ?_⟩
           refine zcz (σ' := hd [(0, vT (tbS ts)), (10, vI k), (4, .one (.bx 4 0)), (11, .one (.bx 11 0))] [(4, [.t (.str t.name), .t (tmS t.args)]), (11, [.t (.str t.name), .t (.int .i64 t.args.length), .t (.bool true), .t (.vs none 0 0)])] []) (Wk.nilB 11 ?_) ?_
           ·simp -implicitDefEqProofs only [go_sem]
            refine zaa ?_
            simp -implicitDefEqProofs only [go_sem]
           refine drawn (by kernel_rfl) ?_
           simp -implicitDefEqProofs only [go_sem, hk]
           refine zbk (by simp -implicitDefEqProofs only [go_sem, hk]) ?_
           simp -implicitDefEqProofs only [go_sem, hk]
           refine zfs false (by simp -implicitDefEqProofs only [go_sem, hk, ne_eq, Nat.zero_add, hm1, hm2, hm3, zax, List.length_drop, List.length_take, List.length_append, List.length_map]) ?_
           simp -implicitDefEqProofs only [go_sem, hk, ne_eq, Nat.zero_add, hm1, hm2, hm3, zax, List.length_drop, List.length_take, List.length_append, List.length_map]
           refine zbk (by simp -implicitDefEqProofs only [go_sem, hk]) ?_
           simp -implicitDefEqProofs only [go_sem, hk]
           refine zfs false (by simp -implicitDefEqProofs only [go_sem, hk, ne_eq, Nat.zero_add, hm1, hm2, hm3, zax, List.length_drop, List.length_take, List.length_append, List.length_map]) ?_
           simp -implicitDefEqProofs only [go_sem, hk, ne_eq, Nat.zero_add, hm1, hm2, hm3, zax, List.length_drop, List.length_take, List.length_append, List.length_map]
           refine zfs false (by simp -implicitDefEqProofs only [go_sem, hk, ne_eq, Nat.zero_add, hm1, hm2, hm3, zax, List.length_drop, List.length_take, List.length_append, List.length_map]) ?_
           simp -implicitDefEqProofs only [go_sem, hk, ne_eq, Nat.zero_add, hm1, hm2, hm3, zax, List.length_drop, List.length_take, List.length_append, List.length_map]
           refine ⟨by kernel_rfl, ?_⟩
           refine zaf (fun j : Nat => hd [(0, vT (tbS (X j).1)), (4, .one (.bx 4 0)), (12, vI j)] [(4, [.t (.str t.name), .t (tmS t.args)])] []) (fun j => j <= t.args.length /\ (X j).2 = true) (fun j => t.args.length - j) 0 (Wk.fsO 3040 ?_) ⟨Nat.zero_le _, by rw [hX0]⟩ ?_
           ·simp -implicitDefEqProofs only [go_sem, hX0]
            refine zaa ?_
            simp -implicitDefEqProofs only [go_sem, hX0]
            show T.sl 4 _ = T.sl 4 (List.map tbC _)
            rw [List.map_append, List.map_append, List.map_take, List.map_drop]
            rfl
           ·intro j ⟨hj, hokj⟩
            by_cases hlj : j < t.args.length
            ·have hXj := hXs j hlj hokj
             have HC := H t.args[j] (List.getElem_mem hlj) (X j).1 (hXr j) (by have := hXl j; have := zbm Tm.nodes t.args j hlj; have := zb7 Tm.nodes t.args (j + 1); omega)
             unfold zs2 at HC
             rw [show syS t.args[j] false = suS t.args[j] from (zdo _).symm, <- hXj] at HC
             simp only [tmD, zab t.args[j]] at HC
             simp -implicitDefEqProofs only [go_sem, hlj, zad, zab t.args[j]]
             refine callR (HC) (by simp -implicitDefEqProofs only [go_sem]) ?_
             simp -implicitDefEqProofs only [go_sem]
             cases hk : (X (j + 1)).2
             ·rw [hXf (j + 1) hk]
              simp -implicitDefEqProofs only [go_sem, hk]
             ·simp -implicitDefEqProofs only [go_sem]
              refine ⟨j + 1, ⟨hlj, hk⟩, by omega, zaa ?_⟩
              simp -implicitDefEqProofs only [go_sem]
              rw [zam (by omega)]
            ·have hjn : j = t.args.length := by omega
             subst hjn
             rw [hXn] at hokj
             simp -implicitDefEqProofs only [go_sem, hlj, hokj, hXn]
        ·rw [h1, Bool.true_or] at hbk
         simp -implicitDefEqProofs only [go_sem, hlt, zad, zat ts[k], h1]
         refine ⟨by kernel_rfl, ?_⟩
         refine ⟨k + 1, ⟨hlt, hnx hbk⟩, by omega, zaa ?_⟩
         simp -implicitDefEqProofs only [go_sem]
         rw [zam (by omega)]
       ·have hpk := (hple k hk hr fun h => absurd h hlt).symm
        subst hpk
        simp -implicitDefEqProofs only [go_sem]
        refine drawn (by kernel_rfl) ?_
        simp -implicitDefEqProofs only [go_sem, hlt]
        refine ⟨by kernel_rfl, ?_⟩
        refine zcz (σ' := hd [(0, vT (tbS ts)), (10, vI k), (4, .one (.bx 4 0)), (11, .one (.bx 11 0))] [(4, [.t (.str t.name), .t (tmS t.args)]), (11, [.t (.str t.name), .t (.int .i64 t.args.length), .t (.bool true), .t (.vs none 0 0)])] []) (Wk.nilB 11 ?_) ?_
        ·simp -implicitDefEqProofs only [go_sem]
         refine zaa ?_
         simp -implicitDefEqProofs only [go_sem]
        refine drawn (by kernel_rfl) ?_
        simp -implicitDefEqProofs only [go_sem, hk]
        refine zbk (by simp -implicitDefEqProofs only [go_sem, hk]) ?_
        simp -implicitDefEqProofs only [go_sem, hk]
        refine zfs false (by simp -implicitDefEqProofs only [go_sem, hk, ne_eq, Nat.zero_add, hm1, hm2, hm3, zax, List.length_drop, List.length_take, List.length_append, List.length_map]) ?_
        simp -implicitDefEqProofs only [go_sem, hk, ne_eq, Nat.zero_add, hm1, hm2, hm3, zax, List.length_drop, List.length_take, List.length_append, List.length_map]
        refine zbk (by simp -implicitDefEqProofs only [go_sem, hk]) ?_
        simp -implicitDefEqProofs only [go_sem, hk]
        refine zfs false (by simp -implicitDefEqProofs only [go_sem, hk, ne_eq, Nat.zero_add, hm1, hm2, hm3, zax, List.length_drop, List.length_take, List.length_append, List.length_map]) ?_
        simp -implicitDefEqProofs only [go_sem, hk, ne_eq, Nat.zero_add, hm1, hm2, hm3, zax, List.length_drop, List.length_take, List.length_append, List.length_map]
        refine zfs false (by simp -implicitDefEqProofs only [go_sem, hk, ne_eq, Nat.zero_add, hm1, hm2, hm3, zax, List.length_drop, List.length_take, List.length_append, List.length_map]) ?_
        simp -implicitDefEqProofs only [go_sem, hk, ne_eq, Nat.zero_add, hm1, hm2, hm3, zax, List.length_drop, List.length_take, List.length_append, List.length_map]
        refine ⟨by kernel_rfl, ?_⟩
        refine zaf (fun j : Nat => hd [(0, vT (tbS (X j).1)), (4, .one (.bx 4 0)), (12, vI j)] [(4, [.t (.str t.name), .t (tmS t.args)])] []) (fun j => j <= t.args.length /\ (X j).2 = true) (fun j => t.args.length - j) 0 (Wk.fsO 3040 ?_) ⟨Nat.zero_le _, by rw [hX0]⟩ ?_
        ·simp -implicitDefEqProofs only [go_sem, hX0]
         refine zaa ?_
         simp -implicitDefEqProofs only [go_sem, hX0]
         show T.sl 4 _ = T.sl 4 (List.map tbC _)
         rw [List.map_append, List.map_append, List.map_take, List.map_drop]
         rfl
        ·intro j ⟨hj, hokj⟩
         by_cases hlj : j < t.args.length
         ·have hXj := hXs j hlj hokj
          have HC := H t.args[j] (List.getElem_mem hlj) (X j).1 (hXr j) (by have := hXl j; have := zbm Tm.nodes t.args j hlj; have := zb7 Tm.nodes t.args (j + 1); omega)
          unfold zs2 at HC
          rw [show syS t.args[j] false = suS t.args[j] from (zdo _).symm, <- hXj] at HC
          simp only [tmD, zab t.args[j]] at HC
          simp -implicitDefEqProofs only [go_sem, hlj, zad, zab t.args[j]]
          refine callR (HC) (by simp -implicitDefEqProofs only [go_sem]) ?_
          simp -implicitDefEqProofs only [go_sem]
          cases hk : (X (j + 1)).2
          ·rw [hXf (j + 1) hk]
           simp -implicitDefEqProofs only [go_sem, hk]
          ·simp -implicitDefEqProofs only [go_sem]
           refine ⟨j + 1, ⟨hlj, hk⟩, by omega, zaa ?_⟩
           simp -implicitDefEqProofs only [go_sem]
           rw [zam (by omega)]
         ·have hjn : j = t.args.length := by omega
          subst hjn
          rw [hXn] at hokj
          simp -implicitDefEqProofs only [go_sem, hlj, hokj, hXn]
   ·obtain ⟨hp, hc0⟩ := hfs hfd
    rw [hfd, if_pos rfl] at hst HF
    have hg : ts.getD pl ⟨t.name, t.args.length, p⟩ = ts[pl] := by rw [List.getD_eq_getElem?_getD, List.getElem?_eq_getElem hp]; rfl
    rw [hg, show (ts[pl].pred != p) = !(ts[pl].pred == p) from rfl] at hst
    rw [hst] at hsrt hsln ⊢
    simp only at hsrt hsln ⊢
    have hge : ((0 : Int) <= ((pl : Nat) : Int)) = True := eq_true (by omega)
    have hl0 : (((pl : Nat) : Int) < 0) = False := eq_false (by omega)
    refine hc _ fun hcp => ?_
    cases hq : !(ts[pl].pred == p)
    ·by_cases h3 : 3 < (t.args.length : Int)
     ·simp only [decide_eq_true h3, Bool.true_or, Bool.false_eq_true, if_false, if_true]
      rcases hcp with rfl | ⟨rfl, hne⟩
      ·refine zcg Tryz.call85 Tryz.func85 rfl (by kernel_rfl) (za6 (by kernel_rfl)) ?_
       simp -implicitDefEqProofs only [go_sem, Tryz.results85]
       refine callF (HV) (by simp -implicitDefEqProofs only [go_sem]) ?_
       simp -implicitDefEqProofs only [go_sem]
       refine callF (HF) (by simp -implicitDefEqProofs only [go_sem, hge, hp, zad, zat ts[pl], hq, h3]) ?_
       simp -implicitDefEqProofs only [go_sem, hge, hp, zad, zat ts[pl], hq, h3]
      ·refine zcg Tryz.call85 Tryz.func85 rfl (by kernel_rfl) (za6 (by kernel_rfl)) ?_
       simp -implicitDefEqProofs only [go_sem, Tryz.results85]
       refine callF (HV) (by simp -implicitDefEqProofs only [go_sem, hne]) ?_
       simp -implicitDefEqProofs only [go_sem, hne]
       refine callF (HF) (by simp -implicitDefEqProofs only [go_sem, hge, hp, zad, zat ts[pl], hq, h3]) ?_
       simp -implicitDefEqProofs only [go_sem, hge, hp, zad, zat ts[pl], hq, h3]
     ·have h3' : (3 < (t.args.length : Int)) = False := eq_false h3
      simp only [decide_eq_false h3, Bool.false_or, Bool.false_eq_true, if_false, if_true]
      obtain ⟨X, hX0, hXs, hXr, hXl, hXn, hXf⟩ := key _ hsrt hsln
      rw [<- hXn] at hXf ⊢
      rcases hcp with rfl | ⟨rfl, hne⟩
      ·refine zcg Tryz.call85 Tryz.func85 rfl (by kernel_rfl) (za6 (by kernel_rfl)) ?_
       simp -implicitDefEqProofs only [go_sem, Tryz.results85]
       refine callF (HV) (by simp -implicitDefEqProofs only [go_sem]) ?_
       simp -implicitDefEqProofs only [go_sem]
       refine callF (HF) (by simp -implicitDefEqProofs only [go_sem, hge, hp, zad, zat ts[pl], hq, h3', hl0]) ?_
       simp -implicitDefEqProofs only [go_sem, hge, hp, zad, zat ts[pl], hq, h3', hl0]
       refine zaf (fun j : Nat => hd [(0, vT (tbS (X j).1)), (4, .one (.bx 4 0)), (12, vI j)] [(4, [.t (.str t.name), .t (tmS t.args)])] []) (fun j => j <= t.args.length /\ (X j).2 = true) (fun j => t.args.length - j) 0 (zaa ?_) ⟨Nat.zero_le _, by rw [hX0]⟩ ?_
       ·simp -implicitDefEqProofs only [go_sem, hX0]
       ·intro j ⟨hj, hokj⟩
        by_cases hlj : j < t.args.length
        ·have hXj := hXs j hlj hokj
         have HC := H t.args[j] (List.getElem_mem hlj) (X j).1 (hXr j) (by have := hXl j; have := zbm Tm.nodes t.args j hlj; have := zb7 Tm.nodes t.args (j + 1); omega)
         unfold zs2 at HC
         rw [show syS t.args[j] false = suS t.args[j] from (zdo _).symm, <- hXj] at HC
         simp only [tmD, zab t.args[j]] at HC
         simp -implicitDefEqProofs only [go_sem, hlj, zad, zab t.args[j]]
         refine callR (HC) (by simp -implicitDefEqProofs only [go_sem]) ?_
         simp -implicitDefEqProofs only [go_sem]
         cases hk : (X (j + 1)).2
         ·rw [hXf (j + 1) hk]
          simp -implicitDefEqProofs only [go_sem, hk]
         ·simp -implicitDefEqProofs only [go_sem]
          refine ⟨j + 1, ⟨hlj, hk⟩, by omega, zaa ?_⟩
          simp -implicitDefEqProofs only [go_sem]
          rw [zam (by omega)]
        ·have hjn : j = t.args.length := by omega
         subst hjn
         rw [hXn] at hokj
         simp -implicitDefEqProofs only [go_sem, hlj, hokj, hXn]
      ·refine zcg Tryz.call85 Tryz.func85 rfl (by kernel_rfl) (za6 (by kernel_rfl)) ?_
       simp -implicitDefEqProofs only [go_sem, Tryz.results85]
       refine callF (HV) (by simp -implicitDefEqProofs only [go_sem, hne]) ?_
       simp -implicitDefEqProofs only [go_sem, hne]
       refine callF (HF) (by simp -implicitDefEqProofs only [go_sem, hge, hp, zad, zat ts[pl], hq, h3', hl0]) ?_
       simp -implicitDefEqProofs only [go_sem, hge, hp, zad, zat ts[pl], hq, h3', hl0]
       refine zaf (fun j : Nat => hd [(0, vT (tbS (X j).1)), (4, .one (.bx 4 0)), (12, vI j)] [(4, [.t (.str t.name), .t (tmS t.args)])] []) (fun j => j <= t.args.length /\ (X j).2 = true) (fun j => t.args.length - j) 0 (zaa ?_) ⟨Nat.zero_le _, by rw [hX0]⟩ ?_
       ·simp -implicitDefEqProofs only [go_sem, hX0]
       ·intro j ⟨hj, hokj⟩
        by_cases hlj : j < t.args.length
        ·have hXj := hXs j hlj hokj
         have HC := H t.args[j] (List.getElem_mem hlj) (X j).1 (hXr j) (by have := hXl j; have := zbm Tm.nodes t.args j hlj; have := zb7 Tm.nodes t.args (j + 1); omega)
         unfold zs2 at HC
         rw [show syS t.args[j] false = suS t.args[j] from (zdo _).symm, <- hXj] at HC
         simp only [tmD, zab t.args[j]] at HC
         simp -implicitDefEqProofs only [go_sem, hlj, zad, zab t.args[j]]
         refine callR (HC) (by simp -implicitDefEqProofs only [go_sem]) ?_
         simp -implicitDefEqProofs only [go_sem]
         cases hk : (X (j + 1)).2
         ·rw [hXf (j + 1) hk]
          simp -implicitDefEqProofs only [go_sem, hk]
         ·simp -implicitDefEqProofs only [go_sem]
          refine ⟨j + 1, ⟨hlj, hk⟩, by omega, zaa ?_⟩
          simp -implicitDefEqProofs only [go_sem]
          rw [zam (by omega)]
        ·have hjn : j = t.args.length := by omega
         subst hjn
         rw [hXn] at hokj
         simp -implicitDefEqProofs only [go_sem, hlj, hokj, hXn]
    ·simp only [Bool.or_true, Bool.false_eq_true, if_false, if_true]
     rcases hcp with rfl | ⟨rfl, hne⟩
     ·refine zcg Tryz.call85 Tryz.func85 rfl (by kernel_rfl) (za6 (by kernel_rfl)) ?_
      simp -implicitDefEqProofs only [go_sem, Tryz.results85]
      refine callF (HV) (by simp -implicitDefEqProofs only [go_sem]) ?_
      simp -implicitDefEqProofs only [go_sem]
      refine callF (HF) (by simp -implicitDefEqProofs only [go_sem, hge, hp, zad, zat ts[pl], hq]) ?_
      simp -implicitDefEqProofs only [go_sem, hge, hp, zad, zat ts[pl], hq]
     ·refine zcg Tryz.call85 Tryz.func85 rfl (by kernel_rfl) (za6 (by kernel_rfl)) ?_
      simp -implicitDefEqProofs only [go_sem, Tryz.results85]
      refine callF (HV) (by simp -implicitDefEqProofs only [go_sem, hne]) ?_
      simp -implicitDefEqProofs only [go_sem, hne]
      refine callF (HF) (by simp -implicitDefEqProofs only [go_sem, hge, hp, zad, zat ts[pl], hq]) ?_
      simp -implicitDefEqProofs only [go_sem, hge, hp, zad, zat ts[pl], hq]
  ·rw [hb, if_pos rfl] at hown
   rw [hsy, zby, hown, trB, if_pos rfl]
   rw [Bool.and_eq_true] at hb
   obtain ⟨hbp, hbn⟩ := hb
   obtain ⟨X, hX0, hXs, hXr, hXl, hXn, hXf⟩ := key ts hs (by omega)
   rw [<- hXn] at hXf ⊢
   rw [hbp]
   refine zcg Tryz.call85 Tryz.func85 rfl (by kernel_rfl) (za6 (by kernel_rfl)) ?_
   simp -implicitDefEqProofs only [go_sem, Tryz.results85]
   refine callF (HV) (by simp -implicitDefEqProofs only [go_sem, hbn]) ?_
   simp -implicitDefEqProofs only [go_sem, hbn]
   refine zaf (fun j : Nat => hd [(0, vT (tbS (X j).1)), (4, .one (.bx 4 0)), (12, vI j)] [(4, [.t (.str t.name), .t (tmS t.args)])] []) (fun j => j <= t.args.length /\ (X j).2 = true) (fun j => t.args.length - j) 0 (zaa ?_) ⟨Nat.zero_le _, by rw [hX0]⟩ ?_
   ·simp -implicitDefEqProofs only [go_sem, hX0]
   ·intro j ⟨hj, hokj⟩
    by_cases hlj : j < t.args.length
    ·have hXj := hXs j hlj hokj
     have HC := H t.args[j] (List.getElem_mem hlj) (X j).1 (hXr j) (by have := hXl j; have := zbm Tm.nodes t.args j hlj; have := zb7 Tm.nodes t.args (j + 1); omega)
     unfold zs2 at HC
     rw [show syS t.args[j] false = suS t.args[j] from (zdo _).symm, <- hXj] at HC
     simp only [tmD, zab t.args[j]] at HC
     simp -implicitDefEqProofs only [go_sem, hlj, zad, zab t.args[j]]
     refine callR (HC) (by simp -implicitDefEqProofs only [go_sem]) ?_
     simp -implicitDefEqProofs only [go_sem]
     cases hk : (X (j + 1)).2
     ·rw [hXf (j + 1) hk]
      simp -implicitDefEqProofs only [go_sem, hk]
     ·simp -implicitDefEqProofs only [go_sem]
      refine ⟨j + 1, ⟨hlj, hk⟩, by omega, zaa ?_⟩
      simp -implicitDefEqProofs only [go_sem]
      rw [zam (by omega)]
    ·have hjn : j = t.args.length := by omega
     subst hjn
     rw [hXn] at hokj
     simp -implicitDefEqProofs only [go_sem, hlj, hokj, hXn]
 ·rw [hV] at HV
  rw [hV, if_pos rfl] at hsy
  rw [hsy, trB]
  refine zcg Tryz.call85 Tryz.func85 rfl (by kernel_rfl) (za6 (by kernel_rfl)) ?_
  simp -implicitDefEqProofs only [go_sem, Tryz.results85]
  refine callF (HV) (by simp -implicitDefEqProofs only [go_sem]) ?_
  simp -implicitDefEqProofs only [go_sem]
theorem qd1 : ∀ t : Tm, t.wt <= 1048576 -> ∀ (p : Bool) (ts : List Tb), zfi ts -> ts.length + t.nodes <= 1048576 -> zs2 t p ts :=
 zbi fun n xs ih hw p ts hs hz => zye (.mk n xs) hw (fun a ha ts' hs' hz' => ih a ha ((Tm.wt_args hw).2 a ha) false ts' hs' hz') p ts hs hz
end Go.Proofs.YtmhbmpbgpjljeaaGreat
namespace Go.Proofs.YtmhbmpbgpjljeaaGreat
set_option linter.unusedSimpArgs false
set_option linter.unusedVariables false
set_option linter.unusedSectionVars false
set_option maxRecDepth 4000
open Go.RowKit
theorem qhu (t : Tm) (p : Bool) : (syS t p).length <= t.nodes := by
 have h := zwz t
 rw [zdo] at h
 unfold syS
 split
 ·simp
 ·rename_i hv
  rw [if_neg hv, List.length_append] at h
  have e1 : (zlq t.name t.args.length false).length = 1 := by unfold zlq; rw [Bool.false_and, if_neg (by simp)]; rfl
  have e2 : (zlq t.name t.args.length p).length <= 1 := by unfold zlq; split <;> simp
  rw [List.length_append]; omega
theorem qcz {c : Cq} (h : c.ok = true) (j : Nat) : (zm8 (c.lits.take j)).length <= 240 := by
 have h1 := zh8 (fun l : Li => syS l.atom true) 30 (c.lits.take j) fun l hl => Nat.le_trans (qhu _ _) (zev (zfm h l (List.mem_of_mem_take hl)))
 have h2 := zsq h
 have h3 : (c.lits.take j).length <= 8 := by rw [List.length_take]; omega
 unfold zm8
 have : (c.lits.take j).length * 30 <= 8 * 30 := Nat.mul_le_mul_right _ h3
 omega
theorem qe2 {A B ts : List Tb} (h : (trB ts A).2 = false) : (trB ts (A ++ B)).2 = false := by rw [zby, if_neg (by rw [h]; simp)]; exact h
set_option maxHeartbeats 4000000 in
theorem zzo (cs : List Cq) (hw : znb cs <= 1048576) : RC Tryz.prog 36 [.one (cqS cs)] [.one (tbS (zm0 cs)), bD (zco cs)] := by
 have hcw := fun c (h : c ∈ cs) => Nat.le_trans (qf9 h) hw
 have hv1 : zco cs = (decide (cs.length <= 30) && cs.all Cq.ok && (!(sgB (zhv cs)).2 && decide ((sgB (zhv cs)).1.length <= 12))) := rfl
 have hv2 : zm0 cs = if zco cs = true then (sgB (zhv cs)).1 else [] := rfl
 have hln : cs.length <= 1048576 := by have h2 : znb cs = cs.length + (cs.map Cq.wt).sum := rfl; omega
 have htr := zss (zjg cs) (ts := [])
 have htr2 : (trB [] (zjg cs)).2 = !(sgB (zjg cs)).2 /\ ((trB [] (zjg cs)).2 = true -> (trB [] (zjg cs)).1 = (sgB (zjg cs)).1) := htr
 have hno : zco cs = false -> zm0 cs = [] := fun h => by rw [hv2, h, if_neg (by simp)]
 by_cases h40 : cs.length <= 30
 ·have h40' : ((30 : Int) < (cs.length : Int)) = False := eq_false (by omega)
  rw [decide_eq_true h40, Bool.true_and] at hv1
  have hbadc : ∀ c ∈ cs, c.ok = false -> zco cs = false := fun c hc h => by
   rw [hv1, show cs.all Cq.ok = false from List.all_eq_false.2 ⟨c, hc, by rw [h]; simp⟩, Bool.false_and]
  have hsame := qg0 cs
  have hbadt : ∀ A B, zjg cs = A ++ B -> (trB [] A).2 = false -> zco cs = false := fun A B he h => by
   have h1 := qe2 (B := B) h
   rw [<- he, htr2.1] at h1
   have h1 : (sgB (zjg cs)).2 = true := by simpa using h1
   cases hall : cs.all Cq.ok
   ·rw [hv1, hall, Bool.false_and]
   ·rw [hv1, (hsame fun c hc => List.all_eq_true.1 hall c hc).1, h1]; simp
  obtain ⟨X, hX⟩ : ∃ X : Nat -> List Tb × Bool, ∀ k, X k = trB [] (zjg (cs.take k)) := ⟨_, fun _ => rfl⟩
  have hX0 : X 0 = ([], true) := by rw [hX]; rfl
  have hXr : ∀ k, zfi (X k).1 := fun k => by rw [hX]; exact zk6 _ List.Pairwise.nil
  have hXk : ∀ k (h : k < cs.length), (X k).2 = true -> X (k + 1) = trB (X k).1 (zm8 cs[k].lits) := fun k h hok => by
   rw [hX] at hok ⊢
   rw [hX]
   unfold zjg at hok ⊢
   rw [zdr (fun c : Cq => zm8 c.lits) cs k h, zby, if_pos hok]
  refine zcg Tryz.call36 Tryz.func36 rfl (by kernel_rfl) (za6 (by kernel_rfl)) ?_
  simp -implicitDefEqProofs only [go_sem, Tryz.results36]
  refine zef (by simp -implicitDefEqProofs only [go_sem]) ?_
  simp -implicitDefEqProofs only [go_sem]
  simp -implicitDefEqProofs only [go_sem, h40']
  refine zaf (fun k : Nat => hd [(0, vT (cqS cs)), (4, vT (tbS (X k).1)), (6, vI k)] [] []) (fun k => k <= cs.length /\ (X k).2 = true /\ (X k).1.length <= k * 240 /\ ∀ c ∈ cs.take k, c.ok = true) (fun k => cs.length - k) 0 (zaa ?_) ⟨Nat.zero_le _, by rw [hX0], by rw [hX0]; simp, by simp⟩ ?_
  ·simp -implicitDefEqProofs only [go_sem, hX0]
   rfl
  ·intro k ⟨hk, hok, hlen, hcok⟩
   by_cases hlt : k < cs.length
   ·have HG := qeu cs[k] (hcw _ (List.getElem_mem hlt))
    simp only [cqD, za9 cs[k]] at HG
    cases hck : cs[k].ok
    ·have hs := hbadc _ (List.getElem_mem hlt) hck
     rw [hck] at HG
     rw [hno hs, hs]
     simp -implicitDefEqProofs only [go_sem, hlt, zad, za9 cs[k]]
     refine callF (HG) (by simp -implicitDefEqProofs only [go_sem]) ?_
     simp -implicitDefEqProofs only [go_sem]
     refine zef (by simp -implicitDefEqProofs only [go_sem]) ?_
     simp -implicitDefEqProofs only [go_sem]
     rfl
    ·have hXk := hXk k hlt hok
     have hs1 := hXr k
     have hsyl := fun j => qcz hck j
     have hnd := fun l (h : l ∈ cs[k].lits) => zev (zfm hck l h)
     have hlw := fun l (h : l ∈ cs[k].lits) => Nat.le_trans (zta h) (hcw _ (List.getElem_mem hlt))
     have hcok1 : ∀ c ∈ cs.take (k + 1), c.ok = true := fun c hc => by
      rw [List.take_succ_eq_append_getElem hlt] at hc
      rcases List.mem_append.1 hc with hc | hc
      ·exact hcok c hc
      ·rw [List.mem_singleton.1 hc]; exact hck
     have hll : cs[k].lits.length <= 8 := zsq hck
     have hsp : ∀ j, zjg cs = (zjg (cs.take k) ++ zm8 (cs[k].lits.take j)) ++ (zm8 (cs[k].lits.drop j) ++ zjg (cs.drop (k + 1))) := fun j => by
      have e1 : zm8 (cs[k].lits.take j) ++ zm8 (cs[k].lits.drop j) = zm8 cs[k].lits := by
       unfold zm8
       rw [<- List.flatten_append, <- List.map_append, List.take_append_drop]
      have e2 : zjg cs = zjg (cs.take k) ++ (zm8 cs[k].lits ++ zjg (cs.drop (k + 1))) := by
       conv => lhs; rw [<- List.take_append_drop k cs, List.drop_eq_getElem_cons hlt]
       unfold zjg
       rw [List.map_append, List.flatten_append, List.map_cons, List.flatten_cons]
      rw [e2, <- e1]
      simp only [List.append_assoc]
     have hbadj : ∀ j, (trB (X k).1 (zm8 (cs[k].lits.take j))).2 = false -> zco cs = false := fun j h => hbadt _ _ (hsp j) (by
      rw [zby, <- hX, if_pos hok]; exact h)
     rw [hck] at HG
     have hrow : (cs.map cqC).getD k [] = cqC cs[k] := zad cqC cs k hlt
     rw [za9] at hrow
     simp -implicitDefEqProofs only [go_sem, hlt, zad, za9 cs[k]]
     refine callF (HG) (by simp -implicitDefEqProofs only [go_sem]) ?_
     simp -implicitDefEqProofs only [go_sem]
     generalize cs[k].lits = ls at hXk hsyl hnd hlw hll hbadj hrow ⊢
     obtain ⟨Z, hZ⟩ : ∃ Z : Nat -> List Tb × Bool, ∀ j, Z j = trB (X k).1 (zm8 (ls.take j)) := ⟨_, fun _ => rfl⟩
     have hZ0 : Z 0 = ((X k).1, true) := by rw [hZ]; rfl
     have hZn : Z ls.length = X (k + 1) := by rw [hZ, List.take_length, hXk]
     have hZs : ∀ j, zfi (Z j).1 := fun j => by rw [hZ]; exact zk6 _ hs1
     have hZl : ∀ j, (Z j).1.length <= k * 240 + 240 := fun j => by
      rw [hZ]
      have h1 := zps (zm8 (ls.take j)) (X k).1
      have h2 := hsyl j
      omega
     have hZj : ∀ j (h : j < ls.length), (Z j).2 = true -> Z (j + 1) = trB (Z j).1 (syS ls[j].atom true) := fun j h hok => by
      rw [hZ] at hok ⊢
      rw [hZ]
      unfold zm8 at hok ⊢
      rw [zdr (fun l : Li => syS l.atom true) ls j h, zby, if_pos hok]
     refine zaf (fun j : Nat => hd [(0, vT (cqS cs)), (4, vT (tbS (Z j).1)), (6, vI k), (7, vI j)] [] []) (fun j => j <= ls.length /\ (Z j).2 = true) (fun j => ls.length - j) 0 (zaa ?_) ⟨Nat.zero_le _, by rw [hZ0]⟩ ?_
     ·simp -implicitDefEqProofs only [go_sem, hZ0]
     ·intro j ⟨hj, hokj⟩
      by_cases hlj : j < ls.length
      ·have hlj2 := hlw _ (List.getElem_mem hlj)
       have hlj3 := ls[j].wt_eq
       have HC := qd1 ls[j].atom (by omega) true (Z j).1 (hZs j) (by have := hZl j; have := hnd _ (List.getElem_mem hlj); omega)
       unfold zs2 at HC
       rw [<- hZj j hlj hokj] at HC
       simp only [tmD, zab ls[j].atom] at HC
       simp -implicitDefEqProofs only [go_sem, hlj, hlt, hrow, zad, zap ls[j]]
       refine callR (HC) (by simp -implicitDefEqProofs only [go_sem]) ?_
       simp -implicitDefEqProofs only [go_sem]
       cases hk2 : (Z (j + 1)).2
       ·have hs := hbadj (j + 1) (by rw [<- hZ]; exact hk2)
        rw [hno hs, hs]
        simp -implicitDefEqProofs only [go_sem, hk2]
        refine zef (by simp -implicitDefEqProofs only [go_sem]) ?_
        simp -implicitDefEqProofs only [go_sem]
        rfl
       ·simp -implicitDefEqProofs only [go_sem]
        refine ⟨j + 1, ⟨hlj, hk2⟩, by omega, zaa ?_⟩
        simp -implicitDefEqProofs only [go_sem]
        rw [zam (by omega)]
      ·have hjn : j = ls.length := by omega
       subst hjn
       rw [hZn] at hokj
       have hZl2 := hZl ls.length
       rw [hZn] at hZl2
       rw [hZn]
       simp -implicitDefEqProofs only [go_sem, hlj, hlt, hrow]
       refine ⟨k + 1, ⟨hlt, hokj, by omega, hcok1⟩, by omega, zaa ?_⟩
       simp -implicitDefEqProofs only [go_sem]
       rw [zam (by omega)]
   ·have hkn : k = cs.length := by omega
    subst hkn
    rw [List.take_length] at hcok
    have hsame := hsame hcok
    rw [hX, List.take_length] at hok hlen
    have hall : cs.all Cq.ok = true := List.all_eq_true.2 hcok
    have e1 := htr2.1
    rw [hok] at e1
    have e1 : (sgB (zjg cs)).2 = false := by simpa using e1.symm
    have e2 := htr2.2 hok
    have e3 : (sgB (zhv cs)).2 = false := hsame.1.trans e1
    have e4 := hsame.2 e3
    rw [hall, e3, e4, <- e2] at hv1
    rw [e4, <- e2] at hv2
    rw [hX, List.take_length]
    generalize (trB [] (zjg cs)).1 = T at hv1 hv2 hlen ⊢
    by_cases h12 : T.length <= 12
    ·have h12' : ((12 : Int) < (T.length : Int)) = False := eq_false (by omega)
     have hv1 : zco cs = true := by rw [hv1, decide_eq_true h12]; rfl
     rw [hv1, if_pos rfl] at hv2
     rw [hv2, hv1]
     simp -implicitDefEqProofs only [go_sem, hlt, h12']
    ·have h12' : ((12 : Int) < (T.length : Int)) = True := eq_true (by omega)
     have hv1 : zco cs = false := by rw [hv1, decide_eq_false h12]; rfl
     rw [hno hv1, hv1]
     simp -implicitDefEqProofs only [go_sem, hlt, h12']
     refine zef (by simp -implicitDefEqProofs only [go_sem]) ?_
     simp -implicitDefEqProofs only [go_sem]
     rfl
 ·have h40' : ((30 : Int) < (cs.length : Int)) = True := eq_true (by omega)
  rw [decide_eq_false h40, Bool.false_and] at hv1
  rw [hno hv1, hv1]
  refine zcg Tryz.call36 Tryz.func36 rfl (by kernel_rfl) (za6 (by kernel_rfl)) ?_
  simp -implicitDefEqProofs only [go_sem, Tryz.results36]
  refine zef (by simp -implicitDefEqProofs only [go_sem]) ?_
  simp -implicitDefEqProofs only [go_sem]
  simp -implicitDefEqProofs only [go_sem, h40']
  rfl
end Go.Proofs.YtmhbmpbgpjljeaaGreat
namespace Go.Proofs.YtmhbmpbgpjljeaaGreat
set_option linter.unusedSimpArgs false
set_option linter.unusedVariables false
set_option linter.unusedSectionVars false
set_option maxRecDepth 4000
open Go.RowKit
theorem zt4 {fs : List Tb} (hf : FnOk fs) {lv : Int} (h8 : lv <= 8) {ts : List Tm} (ht : TsOk fs lv ts) :
  (∀ f ∈ fs, ∀ l ∈ zc7 ts f.ar.toNat, (Tm.mk f.name l).wt <= 1048576) /\ (∀ x ∈ (zca lv ts fs []).2, upT x = true) /\ ((zca lv ts fs []).1 = true -> ts.length + (zca lv ts fs []).2.length <= 60) := by
 refine ⟨fun f hfm l hl => (ht.one hf h8 (zmq hfm) hl).1, fun x hx => ?_, fun h => ?_⟩
 ·rw [zg2] at hx
  rcases zic (ap := apX) (fun x t u => by unfold apX; simp) (qF ts fs) [] x hx with h | ⟨h, _⟩
  ·cases h
  ·unfold qF at h
   obtain ⟨f, hfm, h⟩ := List.mem_flatMap.1 h
   obtain ⟨l, hl, rfl⟩ := List.mem_map.1 h
   exact (ht.one hf h8 (zmq (List.mem_filter.1 hfm).1) hl).2
 ·rw [zg2] at h ⊢
  exact zl9 (ap := apX) (qF ts fs) [] (by have := ht.len; simpa using this) h
theorem qh3 (fs : List Tb) {k : Nat} (h : k < fs.length) : cnT (fs.take (k + 1)) = cnT (fs.take k) ++ if (fs[k].ar == 0) = true then [Tm.mk fs[k].name []] else [] := by
 unfold cnT
 rw [List.take_succ_eq_append_getElem h, List.filter_append, List.map_append]
 congr 1
 rw [List.filter_cons]
 cases fs[k].ar == 0 <;> rfl
set_option maxHeartbeats 4000000 in
theorem qea (cs : List Cq) (d : Int) (hw : znb cs <= 1048576) : FC Tryz.prog 14 [.one (cqS cs), iD d] [.one (tmS (htV cs d)), bD (htB cs d)] := by
 have HS := zzw cs hw
 have HW := zlv d 1 8
 have hv1 : htB cs d = (zco cs && (decide (1 <= d) && decide (d <= 8)) && ((lvI (fnT cs) (d - 1).toNat 2 (ts0 (fnT cs))).1 && (lvI (fnT cs) (d - 1).toNat 2 (ts0 (fnT cs))).2.all Tm.good)) := rfl
 have hno : htB cs d = false -> htV cs d = [] := fun h => by unfold htV; rw [h, if_neg (by simp)]
 have hyes : htB cs d = true -> htV cs d = (lvI (fnT cs) (d - 1).toNat 2 (ts0 (fnT cs))).2 := fun h => by unfold htV; rw [h, if_pos rfl]
 cases hso : zco cs
 ·rw [hso, Bool.false_and, Bool.false_and] at hv1
  rw [hso] at HS
  rw [hno hv1, hv1]
  refine zg6 Tryz.call14 Tryz.func14 rfl (by kernel_rfl) (za6 (by kernel_rfl)) ?_
  simp -implicitDefEqProofs only [go_sem, Tryz.results14]
  refine callF (HS) (by simp -implicitDefEqProofs only [go_sem]) ?_
  simp -implicitDefEqProofs only [go_sem]
 ·obtain ⟨hfo, hfl⟩ := qjh hso
  have hfn : fnT cs = (zm0 cs).filter fun x => !x.pred := rfl
  have hsl : (zm0 cs).length <= 12 := by
   have h := hso
   unfold zm0
   rw [if_pos h]
   unfold zco at h
   simp only [Bool.and_eq_true, decide_eq_true_eq] at h
   exact h.2.2
  rw [hso, Bool.true_and] at hv1
  rw [hso] at HS
  have hin : inB d 1 8 = (decide (1 <= d) && decide (d <= 8)) := rfl
  rw [hin] at HW
  cases hdb : (decide (1 <= d) && decide (d <= 8))
  ·rw [hdb, Bool.false_and] at hv1
   rw [hdb] at HW
   rw [hno hv1, hv1]
   refine zg6 Tryz.call14 Tryz.func14 rfl (by kernel_rfl) (za6 (by kernel_rfl)) ?_
   simp -implicitDefEqProofs only [go_sem, Tryz.results14]
   refine callF (HS) (by simp -implicitDefEqProofs only [go_sem]) ?_
   simp -implicitDefEqProofs only [go_sem]
   refine callF (HW) (by simp -implicitDefEqProofs only [go_sem]) ?_
   simp -implicitDefEqProofs only [go_sem]
  ·rw [hdb, Bool.true_and] at hv1
   rw [hdb] at HW
   simp only [Bool.and_eq_true, decide_eq_true_eq] at hdb
   obtain ⟨hd1, hd8⟩ := hdb
   have HD := zzc (zm0 cs) (by omega)
   rw [<- hfn] at HD
   generalize fnT cs = fs at *
   generalize zm0 cs = sg at *
   obtain ⟨n, hn⟩ : ∃ n : Nat, (d - 1).toNat = n := ⟨_, rfl⟩
   have hdn : d = (n : Int) + 1 := by omega
   rw [hn] at hv1 hyes
   refine zg6 Tryz.call14 Tryz.func14 rfl (by kernel_rfl) (za6 (by kernel_rfl)) ?_
   simp -implicitDefEqProofs only [go_sem, Tryz.results14]
   refine callF (HS) (by simp -implicitDefEqProofs only [go_sem]) ?_
   simp -implicitDefEqProofs only [go_sem]
   refine callF (HW) (by simp -implicitDefEqProofs only [go_sem]) ?_
   simp -implicitDefEqProofs only [go_sem]
   refine zxz [1] [27] [] (HD) (by simp -implicitDefEqProofs only [go_sem]) (by simp -implicitDefEqProofs only [go_sem]) (by simp -implicitDefEqProofs only [go_sem]) (by simp -implicitDefEqProofs only [go_sem]) ?_
   simp -implicitDefEqProofs only [go_sem]
   refine zb6 (by simp -implicitDefEqProofs only [go_sem]) ?_
   simp -implicitDefEqProofs only [go_sem]
   refine zaf (fun k : Nat => hd [(1, vI d), (8, .one (.ow 896 0)), (9, .one (.ow 928 0)), (30, .one (.ow 896 0)), (31, vI fs.length), (32, vI k)] [] [(896, ⟨true, 4, fs.map tbC, 0, true⟩), (928, ⟨true, 2, (cnT (fs.take k)).map tmC, 0, true⟩)]) (fun k => k <= fs.length) (fun k => fs.length - k) 0 (zaa ?_) (Nat.zero_le _) ?_
   ·simp -implicitDefEqProofs only [go_sem]
    rfl
   ·intro k hk
    by_cases hlt : k < fs.length
    ·have hsu := qh3 fs hlt
     have hcl : (cnT (fs.take k)).length <= 4294967295 := by
      have h1 := zyp (fs.take k)
      rw [List.length_take] at h1; omega
     cases h0 : fs[k].ar == 0
     ·rw [h0, if_neg (by simp), List.append_nil] at hsu
      simp -implicitDefEqProofs only [go_sem, hlt, zad, zat fs[k], h0]
      refine ⟨k + 1, hlt, by omega, zaa ?_⟩
      simp -implicitDefEqProofs only [go_sem]
      rw [zam (by omega), hsu]
      exact ⟨rfl, rfl⟩
     ·rw [h0, if_pos rfl] at hsu
      simp -implicitDefEqProofs only [go_sem, hlt, zad, zat fs[k], h0]
      refine zb6 (by simp -implicitDefEqProofs only [go_sem]) ?_
      simp -implicitDefEqProofs only [go_sem]
      refine apD true (by simp -implicitDefEqProofs only [go_sem, ne_eq, List.length_map, hcl]) ?_
      simp -implicitDefEqProofs only [go_sem, ne_eq, List.length_map, hcl]
      refine ⟨k + 1, hlt, by omega, zaa ?_⟩
      simp -implicitDefEqProofs only [go_sem]
      rw [zam (by omega), hsu, List.map_append, List.map_singleton, znu]
      exact ⟨rfl, rfl⟩
    ·have ht : fs.take k = fs := List.take_of_length_le (by omega)
     rw [ht]
     have h0v : ts0 fs = if (cnT fs).length = 0 then [Tm.mk [99, 48] []] else cnT fs := rfl
     by_cases hz : (cnT fs).length = 0
     ·rw [if_pos hz] at h0v
      have hzz : ((cnT fs).length : Int) = 0 := by omega
      have hcn : cnT fs = [] := List.length_eq_zero_iff.1 hz
      rw [hcn]
      simp -implicitDefEqProofs only [go_sem, hlt]
      refine zb6 (by simp -implicitDefEqProofs only [go_sem]) ?_
      simp -implicitDefEqProofs only [go_sem]
      refine apD true (by simp -implicitDefEqProofs only [go_sem, ne_eq]) ?_
      simp -implicitDefEqProofs only [go_sem, ne_eq]
      refine zaf (fun z : Nat × List Tm => hd [(1, vI d), (8, .one (.ow 896 0)), (9, .one (.ow 928 0)), (12, vI (2 + (z.1 : Int)))] [] [(896, ⟨true, 4, fs.map tbC, 0, true⟩), (928, ⟨true, 2, z.2.map tmC, 0, true⟩)]) (fun z => z.1 <= n /\ TsOk fs (2 + (z.1 : Int)) z.2 /\ lvI fs n 2 (ts0 fs) = lvI fs (n - z.1) (2 + (z.1 : Int)) z.2) (fun z => n - z.1) (0, ts0 fs) (zaa ?_) ⟨Nat.zero_le _, zod hfo hfl, rfl⟩ ?_
      ·simp -implicitDefEqProofs only [go_sem, h0v, List.map_singleton, znu]
      ·rintro ⟨m, ts⟩ ⟨hm, hto, heq⟩
       simp only at hm hto heq ⊢
       have htl := hto.len
       by_cases hmn : m < n
       ·have hle : (2 + (m : Int) <= d) = True := eq_true (by omega)
        obtain ⟨r, hr⟩ : ∃ r, n - m = r + 1 := ⟨n - m - 1, by omega⟩
        obtain ⟨g1, g2, g3⟩ := zt4 hfo (lv := 2 + (m : Int)) (by omega) hto
        have HE := zte fs ts (2 + (m : Int)) (by omega) (by omega) hfo.pos g1 g2 (fun h => by have := g3 h; omega)
        have hstep := zju hfo hto
        rw [hr, lvI] at heq
        cases hb : (zca (2 + (m : Int)) ts fs []).1
        ·rw [hb, if_neg (by simp)] at heq HE
         rw [heq] at hv1
         have hv1 : htB cs d = false := hv1
         rw [hno hv1, hv1]
         simp -implicitDefEqProofs only [go_sem, hle]
         refine callF (HE) (by simp -implicitDefEqProofs only [go_sem]) ?_
         simp -implicitDefEqProofs only [go_sem]
        ·have hsl := (zdm (zca (2 + (m : Int)) ts fs []).2).length_eq
         have g3 := g3 hb
         have hstep := hstep hb
         rw [hb, if_pos rfl] at heq HE
         generalize zht (zca (2 + (m : Int)) ts fs []).2 = more at heq HE hstep hsl
         have hap : ts.length + more.length <= 4294967296 := by omega
         simp -implicitDefEqProofs only [go_sem, hle]
         refine callF (HE) (by simp -implicitDefEqProofs only [go_sem]) ?_
         simp -implicitDefEqProofs only [go_sem]
         refine apD true (by simp -implicitDefEqProofs only [go_sem, ne_eq, List.length_map, hap]) ?_
         simp -implicitDefEqProofs only [go_sem, ne_eq, List.length_map, hap]
         refine ⟨(m + 1, ts ++ more), ⟨hmn, ?_, ?_⟩, by simp only; omega, zaa ?_⟩
         ·rw [show 2 + ((m + 1 : Nat) : Int) = 2 + (m : Int) + 1 by omega]; exact hstep
         ·simp only
          rw [show n - (m + 1) = r by omega, show 2 + ((m + 1 : Nat) : Int) = 2 + (m : Int) + 1 by omega]; exact heq
         ·simp -implicitDefEqProofs only [go_sem]
          rw [zbb (by omega) (by omega), List.map_append, show 2 + ((m + 1 : Nat) : Int) = 2 + (m : Int) + 1 by omega]
          exact ⟨rfl, rfl⟩
       ·have hle : (2 + (m : Int) <= d) = False := eq_false (by omega)
        rw [show n - m = 0 by omega, lvI] at heq
        rw [heq] at hv1 hyes
        have hv1 : htB cs d = ts.all Tm.good := by rw [hv1]; exact Bool.true_and _
        have hw2 := hto.wts hfo (by omega)
        have h60 : ((60 : Int) < (ts.length : Int)) = False := eq_false (by omega)
        have HG := zb9 ts (fun t => !t.good) 50 [] fun t ht => zhb t (by have := hw2 t ht; omega)
        cases hg : ts.all Tm.good
        ·have hany : (ts.any fun t => !t.good) = true := by
          rw [List.any_eq_true]
          rw [List.all_eq_false] at hg
          obtain ⟨c, h1, h2⟩ := hg
          exact ⟨c, h1, by simpa using h2⟩
         rw [hany] at HG
         rw [hg] at hv1
         rw [hno hv1, hv1]
         simp -implicitDefEqProofs only [go_sem, hle, h60]
         refine callF (HG) (by simp -implicitDefEqProofs only [go_sem]) ?_
         simp -implicitDefEqProofs only [go_sem]
        ·have hany : (ts.any fun t => !t.good) = false := by
          rw [List.any_eq_false]
          rw [List.all_eq_true] at hg
          intro c hc
          simp [hg c hc]
         rw [hany] at HG
         rw [hg] at hv1
         rw [hyes hv1, hv1]
         simp -implicitDefEqProofs only [go_sem, hle, h60]
         refine callF (HG) (by simp -implicitDefEqProofs only [go_sem]) ?_
         simp -implicitDefEqProofs only [go_sem]
     ·rw [if_neg hz] at h0v
      have hzz : (((cnT fs).length : Int) == 0) = false := by rw [beq_eq_false_iff_ne]; omega
      simp -implicitDefEqProofs only [go_sem, hlt, hzz]
      refine zaf (fun z : Nat × List Tm => hd [(1, vI d), (8, .one (.ow 896 0)), (9, .one (.ow 928 0)), (12, vI (2 + (z.1 : Int)))] [] [(896, ⟨true, 4, fs.map tbC, 0, true⟩), (928, ⟨true, 2, z.2.map tmC, 0, true⟩)]) (fun z => z.1 <= n /\ TsOk fs (2 + (z.1 : Int)) z.2 /\ lvI fs n 2 (ts0 fs) = lvI fs (n - z.1) (2 + (z.1 : Int)) z.2) (fun z => n - z.1) (0, ts0 fs) (zaa ?_) ⟨Nat.zero_le _, zod hfo hfl, rfl⟩ ?_
      ·simp -implicitDefEqProofs only [go_sem, h0v]
      ·rintro ⟨m, ts⟩ ⟨hm, hto, heq⟩
       simp only at hm hto heq ⊢
       have htl := hto.len
       by_cases hmn : m < n
       ·have hle : (2 + (m : Int) <= d) = True := eq_true (by omega)
        obtain ⟨r, hr⟩ : ∃ r, n - m = r + 1 := ⟨n - m - 1, by omega⟩
        obtain ⟨g1, g2, g3⟩ := zt4 hfo (lv := 2 + (m : Int)) (by omega) hto
        have HE := zte fs ts (2 + (m : Int)) (by omega) (by omega) hfo.pos g1 g2 (fun h => by have := g3 h; omega)
        have hstep := zju hfo hto
        rw [hr, lvI] at heq
        cases hb : (zca (2 + (m : Int)) ts fs []).1
        ·rw [hb, if_neg (by simp)] at heq HE
         rw [heq] at hv1
         have hv1 : htB cs d = false := hv1
         rw [hno hv1, hv1]
         simp -implicitDefEqProofs only [go_sem, hle]
         refine callF (HE) (by simp -implicitDefEqProofs only [go_sem]) ?_
         simp -implicitDefEqProofs only [go_sem]
        ·have hsl := (zdm (zca (2 + (m : Int)) ts fs []).2).length_eq
         have g3 := g3 hb
         have hstep := hstep hb
         rw [hb, if_pos rfl] at heq HE
         generalize zht (zca (2 + (m : Int)) ts fs []).2 = more at heq HE hstep hsl
         have hap : ts.length + more.length <= 4294967296 := by omega
         simp -implicitDefEqProofs only [go_sem, hle]
         refine callF (HE) (by simp -implicitDefEqProofs only [go_sem]) ?_
         simp -implicitDefEqProofs only [go_sem]
         refine apD true (by simp -implicitDefEqProofs only [go_sem, ne_eq, List.length_map, hap]) ?_
         simp -implicitDefEqProofs only [go_sem, ne_eq, List.length_map, hap]
         refine ⟨(m + 1, ts ++ more), ⟨hmn, ?_, ?_⟩, by simp only; omega, zaa ?_⟩
         ·rw [show 2 + ((m + 1 : Nat) : Int) = 2 + (m : Int) + 1 by omega]; exact hstep
         ·simp only
          rw [show n - (m + 1) = r by omega, show 2 + ((m + 1 : Nat) : Int) = 2 + (m : Int) + 1 by omega]; exact heq
         ·simp -implicitDefEqProofs only [go_sem]
          rw [zbb (by omega) (by omega), List.map_append, show 2 + ((m + 1 : Nat) : Int) = 2 + (m : Int) + 1 by omega]
          exact ⟨rfl, rfl⟩
       ·have hle : (2 + (m : Int) <= d) = False := eq_false (by omega)
        rw [show n - m = 0 by omega, lvI] at heq
        rw [heq] at hv1 hyes
        have hv1 : htB cs d = ts.all Tm.good := by rw [hv1]; exact Bool.true_and _
        have hw2 := hto.wts hfo (by omega)
        have h60 : ((60 : Int) < (ts.length : Int)) = False := eq_false (by omega)
        have HG := zb9 ts (fun t => !t.good) 50 [] fun t ht => zhb t (by have := hw2 t ht; omega)
        cases hg : ts.all Tm.good
        ·have hany : (ts.any fun t => !t.good) = true := by
          rw [List.any_eq_true]
          rw [List.all_eq_false] at hg
          obtain ⟨c, h1, h2⟩ := hg
          exact ⟨c, h1, by simpa using h2⟩
         rw [hany] at HG
         rw [hg] at hv1
         rw [hno hv1, hv1]
         simp -implicitDefEqProofs only [go_sem, hle, h60]
         refine callF (HG) (by simp -implicitDefEqProofs only [go_sem]) ?_
         simp -implicitDefEqProofs only [go_sem]
        ·have hany : (ts.any fun t => !t.good) = false := by
          rw [List.any_eq_false]
          rw [List.all_eq_true] at hg
          intro c hc
          simp [hg c hc]
         rw [hany] at HG
         rw [hg] at hv1
         rw [hyes hv1, hv1]
         simp -implicitDefEqProofs only [go_sem, hle, h60]
         refine callF (HG) (by simp -implicitDefEqProofs only [go_sem]) ?_
         simp -implicitDefEqProofs only [go_sem]
end Go.Proofs.YtmhbmpbgpjljeaaGreat
namespace Go.Proofs.YtmhbmpbgpjljeaaGreat
set_option linter.unusedSimpArgs false
set_option linter.unusedVariables false
set_option linter.unusedSectionVars false
set_option maxRecDepth 4000
open Go.RowKit
variable {P : Program}
def TopV (w : World) (A : Nat -> Prop) (sz : Nat) (rows : List (List T)) (v : Value) : Prop :=
 ∃ ao cap, v = .slice ao rows.length cap /\ rows.length <= cap /\ cap <= zdi /\ (rows = [] \/ ∃ b o, ao = some ⟨b, o, none⟩ /\ b < w.heap.size /\ zaj w A b o sz rows)
def RT (P : Program) (f : FuncId) (sz : Nat) (rows : List (List T)) (ds res : List D) : Prop := za1 P f /\ ∀ (w : World) (v : Value) (vs : List Value) (A : Nat -> Prop), TopV w (fun b => b < w.heap.size /\ A b) sz rows v -> zaz w (fun b => b < w.heap.size /\ A b) ds vs →
 Calls P f ⟨v :: vs⟩ w fun e w' => ∃ us, e = .returned (zbz us) /\ zaz w' (fun b => b < w'.heap.size /\ (A b \/ w.heap.size <= b)) res us /\ Below w.heap.size w w'
def VDt (σ : St) (e : Nat) (y : Ev) : List V -> List D -> Prop
 | .one (.ow e' n) :: vs, ds => e' = e /\ n = y.gen /\ zrc σ vs ds
 | _, _ => False
theorem VDt_ow (σ : St) (e : Nat) (y : Ev) (e' n : Nat) (vs : List V) (ds : List D) : VDt σ e y (.one (.ow e' n) :: vs) ds = (e' = e /\ n = y.gen /\ zrc σ vs ds) := rfl
theorem VDt_ex {σ : St} {e : Nat} {y : Ev} {xs : List V} {ds : List D} (h : VDt σ e y xs ds) : ∃ xs', xs = .one (.ow e y.gen) :: xs' /\ zrc σ xs' ds := by
 unfold VDt at h
 split at h
 ·obtain ⟨rfl, rfl, h⟩ := h
  exact ⟨_, rfl, h⟩
 ·exact h.elim
theorem zuo {o : Oper} {σ : St} {x : Operand} {asx : Array Operand} {ts : Array TypeId} {f : FuncId} {cvs : List V} {ds res : List D} {e : Nat} {y : Ev} (hy : σ.ev e = some y) (hdp : y.deep = false) (hon : y.on = true) (ho : o.op = .call ⟨.value x, asx, ts⟩)
  (h : RT P f y.sz y.rows ds res) (hc : zav (σ.get P 0 x) = some (f, cvs)) (hv : VDt σ e y (σ.gets P asx ts ++ cvs) ds) : zae P o σ (σ.callR o.dst res) := by
 intro n0 N g a w hR hn hdN
 obtain ⟨vs, h1, h2⟩ := zct hR ho hc h.1
 unfold Oper.wp
 rw [h1]
 generalize σ.gets P asx ts ++ cvs = xs at hv h2
 obtain ⟨xs', rfl, hv2⟩ := VDt_ex hv
 obtain ⟨v, vs', rfl, k1, k2⟩ := h2
 have k1 : CR σ g w (.ow e y.gen) v := k1
 obtain ⟨rfl, _⟩ := k1
 have htop : TopV w (fun b => b < w.heap.size /\ Fix σ g w b) y.sz y.rows (g.ψ e y.gen) := by
  obtain ⟨ao, cap, q1, q2, q3, q4⟩ := hR.evs e y hy hon
  refine ⟨ao, cap, q1, q2, q3, ?_⟩
  rcases q4 with ⟨_, _, q4, _⟩ | ⟨b, cells, ty, fps, q4, q5, q6, q7, q8⟩
  ·exact Or.inl q4
  ·rw [hdp, if_neg (by simp)] at q8
   exact Or.inr ⟨b, 0, q4, (Array.getElem?_eq_some_iff.1 q6).1, zaj.keep (fun _ _ => rfl) (fun b hb => ⟨hb.2.2.1, hb⟩) b rfl 0 _ _ q8.2⟩
 have hargs := (zrc.rep hv2 k2).keep (A' := fun b => b < w.heap.size /\ Fix σ g w b) (fun _ _ => rfl) fun b hb => ⟨hb.2.2.1, hb⟩
 refine (h.2 w _ vs' (Fix σ g w) htop hargs).mono ?_
 rintro e2 w' ⟨us, rfl, o1, hb⟩
 have hR' : Rel n0 N σ g a w' := hR.after hn hb (New.refl σ g (w.heap.size <= ·) w' hR.slc)
 refine ⟨g, ?_, Bk.of_below hb hn, rfl, rfl⟩
 have hfix : ∀ b, (b < w'.heap.size /\ (Fix σ g w b \/ w.heap.size <= b)) -> Fix σ g w' b := fun b hb' => by
  rcases hb'.2 with hf | hf
  ·exact ⟨hf.1, hf.2.1, hb'.1, hf.2.2.2⟩
  ·refine ⟨fun k hk e => by have := hR.lt hk; omega, fun e x hx ho hh => ?_, hb'.1, (hR.anew b (hn.new hf)).1⟩
   have := (hR.evs e x hx ho).lt b (List.mem_of_mem_head? hh)
   omega
 exact hR'.put o.dst (zep (zaz.vrl (o1.keep (fun _ _ => rfl) hfix)) (fun y hy => by
  obtain ⟨d, _, rfl⟩ := List.mem_map.1 hy
  cases d <;> rfl)) hdN
section
variable {ks : List Fr} {Q : Exit -> St -> Prop} {σ : St} {ops : Array Oper} {os : List Oper} {ty : TypeId} {ps : String} {af : Array Edge}
theorem callRt (e : Nat) {d : Option Nat} {x : Operand} {asx : Array Operand} {ts : Array TypeId} {f : FuncId} {sz : Nat} {rows : List (List T)} {ds res : List D} (h : RT P f sz rows ds res) (hp : zan (σ.ev e) fun y => (y.deep = false /\ y.on = true /\ y.sz = sz /\ y.rows = rows) /\ zan (zav (σ.get P 0 x)) fun p => p.1 = f /\ VDt σ e y (σ.gets P asx ts ++ p.2) ds)
  (k : exo P ops os ks Q (σ.callR d res)) : exo P ops (⟨d, .call ⟨.value x, asx, ts⟩, ty, ps, af, none⟩ :: os) ks Q σ := by
 obtain ⟨y, hy, ⟨q1, q2, q3, q4⟩, hp2⟩ := zal hp
 subst q3 q4
 obtain ⟨⟨f', cvs⟩, h1, rfl, h2⟩ := zal hp2
 exact zce rfl rfl (zuo hy q1 q2 rfl h h1 h2) k
end
def nilV : V -> V
 | .one c => .one (nilC c)
 | .agg cs => .agg (cs.map nilC)
 | v => v
theorem Wk.nilS {σ σ' : St} (i : Nat) (k : Wk { sl := upd σ.sl i (nilV (σ.sl i)), bx := σ.bx, ev := σ.ev } σ') : Wk σ σ' := by
 refine Wk.trans (fun n0 N g a w hR => ⟨g, ?_, rfl, rfl⟩) k
 refine hR.slots_of rfl rfl hR.defers hR.size fun j => ?_
 show VR σ g w (upd σ.sl i (nilV (σ.sl i)) j) _
 have hv := hR.slots j
 by_cases hj : j = i
 ·rw [hj, zag]
  rw [hj] at hv
  revert hv
  generalize σ.sl i = v
  generalize a.tmps.getD i (g.R0.ξ i) = u
  intro hv
  cases v with
  | one c => exact CR.nilC hv
  | agg cs => obtain ⟨x, rfl, h⟩ := hv; exact ⟨x, rfl, CRs.nilC h⟩
  | tup _ => exact hv
 ·rw [zak _ _ hj]
  exact hv
theorem qee (cs : List C) : nilV (.agg cs) = .agg (cs.map nilC) := rfl
attribute [go_sem] VDt_ow qee
end Go.Proofs.YtmhbmpbgpjljeaaGreat
namespace Go.Proofs.YtmhbmpbgpjljeaaGreat
set_option linter.unusedSimpArgs false
set_option linter.unusedVariables false
set_option linter.unusedSectionVars false
set_option maxRecDepth 4000
open Go.RowKit
set_option maxHeartbeats 4000000 in
theorem l16G_c (ft : List (List T)) (hsh : ∀ r ∈ ft, ∃ s ao n c, r = [.str s, .vs ao n c]) (n most : Nat) (hft : ft.length <= 1048576) (hn : n <= 1048576) (hm : most <= 1048576) (hok : ∀ j, j <= n -> ft.length ^ j <= most) :
  FC Tryz.prog 39 [.one (.sl 2 ft), iD n, iD most] [.one (rwS (zj4 ft n)), bD true] := by
 refine zau Tryz.call39 Tryz.func39 rfl (by kernel_rfl) (za6 (by kernel_rfl)) ?_
 simp -implicitDefEqProofs only [go_sem, Tryz.results39]
 refine zb6 (by simp -implicitDefEqProofs only [go_sem]) ?_
 simp -implicitDefEqProofs only [go_sem]
 refine zb6 (by simp -implicitDefEqProofs only [go_sem]) ?_
 simp -implicitDefEqProofs only [go_sem]
 refine zaf (fun i : Nat => hd [(0, vT (.sl 2 ft)), (1, vI n), (2, vI most), (8, .one (.ow 448 0)), (9, vI i)] [] [(448, ⟨true, 1, (zj4 ft i).map fun l => [.sl 2 l], 0, true⟩)]) (fun i => i <= n /\ (i = 0 \/ (zj4 ft i).length <= most)) (fun i => n - i) 0 (zaa ?_) ⟨Nat.zero_le _, Or.inl rfl⟩ ?_
 ·simp -implicitDefEqProofs only [go_sem]
  rfl
 ·intro i ⟨hi, h0⟩
  by_cases hin : i < n
  ·have hin' : ((i : Int) < (n : Int)) = True := eq_true (by omega)
   obtain ⟨r, hr⟩ : ∃ r, n - i = r + 1 := ⟨n - i - 1, by omega⟩
   have hpow := hok (i + 1) (by omega)
   rw [<- ztm] at hpow
   have hLl : (zj4 ft i).length <= 1048577 := by
    rcases h0 with rfl | h0
    ·show 1 <= _; omega
    ·omega
   have hnx : zj4 ft (i + 1) = (zj4 ft i).flatMap fun l => ft.map fun t => l ++ [t] := rfl
   have hel := zq5 ft i
   rw [hnx] at hpow
   generalize hO : zj4 ft i = out at *
   have hfl : ∀ l ∈ out, ∀ c ∈ l.flatten, c.flat = true := fun l hl c hc => by
    obtain ⟨q, hq, hc⟩ := List.mem_flatten.1 hc
    obtain ⟨s, ao, n, cc, rfl⟩ := hsh q ((hel l hl).2 q hq)
    simp only [List.mem_cons, List.not_mem_nil, or_false] at hc
    rcases hc with rfl | rfl <;> rfl
   simp -implicitDefEqProofs only [go_sem, hin']
   refine zb6 (by simp -implicitDefEqProofs only [go_sem]) ?_
   simp -implicitDefEqProofs only [go_sem]
   refine zaf (fun k : Nat => hd [(0, vT (.sl 2 ft)), (1, vI n), (2, vI most), (8, vT (rwS out)), (9, vI i), (10, .one (.ow 640 0)), (11, vI k)] [] [(640, ⟨true, 1, ((out.take k).flatMap fun l => ft.map fun t => l ++ [t]).map fun l => [.sl 2 l], 0, true⟩)]) (fun k => k <= out.length /\ ((out.take k).flatMap fun l => ft.map fun t => l ++ [t]).length <= most) (fun k => out.length - k) 0 (Wk.fzO 448 ?_) ⟨Nat.zero_le _, by simp⟩ ?_
   ·simp -implicitDefEqProofs only [go_sem]
    refine zaa ?_
    simp -implicitDefEqProofs only [go_sem]
    rfl
   ·intro k ⟨hk, hkm⟩
    by_cases hlk : k < out.length
    ·have hpart := qal (fun l => ft.map fun t => l ++ [t]) out k hlk
     have hpre : ∀ j, j <= ft.length -> ((out.take k).flatMap fun l => ft.map fun t => l ++ [t]).length + j <= (out.flatMap fun l => ft.map fun t => l ++ [t]).length := fun j hj => by
      have h1 : ((out.take (k + 1)).flatMap fun l => ft.map fun t => l ++ [t]).length <= (out.flatMap fun l => ft.map fun t => l ++ [t]).length := by
       conv => rhs; rw [<- List.take_append_drop (k + 1) out, List.flatMap_append, List.length_append]
       omega
      rw [hpart, List.length_append, List.length_map] at h1
      omega
     have hlo := (hel out[k] (List.getElem_mem hlk)).1
     have hflk := hfl out[k] (List.getElem_mem hlk)
     generalize ((out.take k).flatMap fun l => ft.map fun t => l ++ [t]) = P at hkm hpart hpre ⊢
     simp -implicitDefEqProofs only [go_sem, hlk]
     refine zaf (fun j : Nat => hd [(0, vT (.sl 2 ft)), (1, vI n), (2, vI most), (8, vT (rwS out)), (9, vI i), (10, .one (.ow 640 0)), (11, vI k), (12, vI j)] [] [(640, ⟨true, 1, (P ++ (ft.take j).map fun t => out[k] ++ [t]).map fun l => [.sl 2 l], 0, true⟩)]) (fun j => j <= ft.length /\ P.length + j <= most) (fun j => ft.length - j) 0 (zaa ?_) ⟨Nat.zero_le _, hkm⟩ ?_
     ·simp -implicitDefEqProofs only [go_sem]
     ·intro j ⟨hj, hjm⟩
      have hPl : (P ++ (ft.take j).map fun t => out[k] ++ [t]).length = P.length + j := by
       rw [List.length_append, List.length_map, List.length_take]; omega
      by_cases hlj : j < ft.length
      ·obtain ⟨s, ao, nn, cc, hrow⟩ := hsh ft[j] (List.getElem_mem hlj)
       have hrs : (P ++ (ft.take (j + 1)).map fun t => out[k] ++ [t]) = (P ++ (ft.take j).map fun t => out[k] ++ [t]) ++ [out[k] ++ [[.str s, .vs ao nn cc]]] := by
        rw [List.take_succ_eq_append_getElem hlj, List.map_append, List.map_singleton, List.append_assoc, hrow]
       have hget : ft.getD j [] = [.str s, .vs ao nn cc] := by rw [List.getD_eq_getElem?_getD, List.getElem?_eq_getElem hlj]; exact hrow
       generalize (P ++ (ft.take j).map fun t => out[k] ++ [t]) = W at hPl hrs ⊢
       by_cases hmost : P.length + j = most
       ·have hmost' : ((W.length : Int) == (most : Int)) = true := by rw [beq_iff_eq]; omega
        have hfail : ¬ (out.flatMap fun l => ft.map fun t => l ++ [t]).length <= most := by
         have := hpre (j + 1) (by omega)
         omega
        exact absurd hpow hfail
       ·have hmost' : ((W.length : Int) == (most : Int)) = false := by rw [beq_eq_false_iff_ne]; omega
        have hb1 : out[k].length <= 4294967295 := by omega
        have hb2 : W.length <= 4294967295 := by omega
        simp -implicitDefEqProofs only [go_sem, hlj, hmost']
        refine drawn (by kernel_rfl) ?_
        have hkget : (out.map fun l => [T.sl 2 l]).getD k [] = [.sl 2 out[k]] := by rw [List.getD_eq_getElem?_getD, List.getElem?_map, List.getElem?_eq_getElem hlk]; rfl
        simp -implicitDefEqProofs only [go_sem, hlk, hlj, hkget, hget]
        have hb3 : out[k].length <= 4294967296 := by omega
        have hfr : flR out[k] = true := by
         have : ∀ l : List (List T), (∀ q ∈ l, q ∈ ft) -> flR l = true := by
          intro l
          induction l with
          | nil => intro _; rfl
          | cons q l ih =>
           intro h
           obtain ⟨s, ao, n, c, rfl⟩ := hsh q (h q (by simp))
           rw [flR, ih fun x hx => h x (by simp [hx])]
           rfl
         exact this _ (hel out[k] (List.getElem_mem hlk)).2
        refine zc8 (by simp -implicitDefEqProofs only [go_sem, hlk, hlj, hkget, hget, ne_eq, not_false_eq_true, hb1, hb2, hb3, hfr, Nat.zero_add, List.length_map, List.length_append]) ?_
        simp -implicitDefEqProofs only [go_sem, hlk, hlj, hkget, hget, ne_eq, not_false_eq_true, hb1, hb2, hb3, hfr, Nat.zero_add, List.length_map, List.length_append]
        refine zfs true (by simp -implicitDefEqProofs only [go_sem, hlk, hlj, hkget, hget, ne_eq, not_false_eq_true, hb1, hb2, hb3, hfr, Nat.zero_add, List.length_map, List.length_append]) ?_
        simp -implicitDefEqProofs only [go_sem, hlk, hlj, hkget, hget, ne_eq, not_false_eq_true, hb1, hb2, hb3, hfr, Nat.zero_add, List.length_map, List.length_append]
        refine zc8 (by simp -implicitDefEqProofs only [go_sem, hlk, hlj, hkget, hget, ne_eq, not_false_eq_true, hb1, hb2, hb3, hfr, Nat.zero_add, List.length_map, List.length_append]) ?_
        simp -implicitDefEqProofs only [go_sem, hlk, hlj, hkget, hget, ne_eq, not_false_eq_true, hb1, hb2, hb3, hfr, Nat.zero_add, List.length_map, List.length_append]
        refine zfs true (by simp -implicitDefEqProofs only [go_sem, hlk, hlj, hkget, hget, ne_eq, not_false_eq_true, hb1, hb2, hb3, hfr, Nat.zero_add, List.length_map, List.length_append]) ?_
        simp -implicitDefEqProofs only [go_sem, hlk, hlj, hkget, hget, ne_eq, not_false_eq_true, hb1, hb2, hb3, hfr, Nat.zero_add, List.length_map, List.length_append]
        refine zc8 (by simp -implicitDefEqProofs only [go_sem, hlk, hlj, hkget, hget, ne_eq, not_false_eq_true, hb1, hb2, hb3, hfr, Nat.zero_add, List.length_map, List.length_append]) ?_
        simp -implicitDefEqProofs only [go_sem, hlk, hlj, hkget, hget, ne_eq, not_false_eq_true, hb1, hb2, hb3, hfr, Nat.zero_add, List.length_map, List.length_append]
        refine zfs true (by simp -implicitDefEqProofs only [go_sem, hlk, hlj, hkget, hget, ne_eq, not_false_eq_true, hb1, hb2, hb3, hfr, Nat.zero_add, List.length_map, List.length_append]) ?_
        simp -implicitDefEqProofs only [go_sem, hlk, hlj, hkget, hget, ne_eq, not_false_eq_true, hb1, hb2, hb3, hfr, Nat.zero_add, List.length_map, List.length_append]
        refine ⟨by kernel_rfl, j + 1, ⟨hlj, by omega⟩, by omega, zaa ?_⟩
        simp -implicitDefEqProofs only [go_sem]
        rw [zam (by omega), hrs, List.map_append]
        exact ⟨rfl, rfl⟩
      ·have ht : ft.take j = ft := List.take_of_length_le (by omega)
       simp -implicitDefEqProofs only [go_sem, hlj]
       refine ⟨k + 1, ⟨hlk, by rw [hpart, List.length_append, List.length_map]; omega⟩, by omega, zaa ?_⟩
       simp -implicitDefEqProofs only [go_sem]
       rw [zam (by omega), hpart, ht]
       exact ⟨rfl, rfl⟩
    ·have ht : out.take k = out := List.take_of_length_le (by omega)
     rw [ht] at hkm
     simp -implicitDefEqProofs only [go_sem, hlk, ht]
     refine ⟨i + 1, ⟨hin, Or.inr (by rw [hnx]; exact hkm)⟩, by omega, zif 448 640 ?_⟩
     simp -implicitDefEqProofs only [go_sem]
     rw [zam (by omega), hnx]
     exact ⟨rfl, rfl⟩
  ·have hin' : ((i : Int) < (n : Int)) = False := eq_false (by omega)
   have hii : i = n := by omega
   rw [hii] at hin' ⊢
   simp -implicitDefEqProofs only [go_sem, hin']
theorem zuf (ts : List Tm) (n most : Nat) (hts : ts.length <= 1048576) (hn : n <= 1048576) (hm : most <= 1048576) (hok : ∀ j, j <= n -> ts.length ^ j <= most) :
  RT Tryz.prog 39 2 (ts.map tmC) [iD n, iD most] [.one (tmLL (zc7 ts n)), bD true] := by
 refine ⟨Tryz.call39, fun w v vs A ht hds => ?_⟩
 obtain ⟨ao, cap, rfl, q1, q2, q3⟩ := ht
 rw [List.length_map] at q1 ⊢
 obtain ⟨fl, f0, f2⟩ : ∃ fl, (fl = [] \/ ∃ b o, ao = some ⟨b, o, none⟩ /\ b < w.heap.size /\ zaj w (fun b => b < w.heap.size /\ A b) b o 2 fl) /\ zbp w (fun b => b < w.heap.size /\ A b) fl ts := by
  rcases q3 with q3 | ⟨b, o, e, hb, q3⟩
  ·have : ts = [] := List.map_eq_nil_iff.1 q3
   subst this
   exact ⟨[], Or.inl rfl, rfl⟩
  ·obtain ⟨fl, k1, k2⟩ := zjx ts o q3
   exact ⟨fl, Or.inr ⟨b, o, e, hb, k1⟩, k2⟩
 have hlen := f2.len
 have hr : zaz w (fun b => b < w.heap.size) [.one (.sl 2 fl), iD n, iD most] (.slice ao ts.length cap :: vs) := by
  refine ⟨_, _, rfl, ?_, zaz.keep (fun _ _ => rfl) (fun b hb => hb.1) hds⟩
  show zai w _ (T.sl 2 fl) _
  unfold zai
  refine ⟨ao, cap, by rw [hlen], by rw [hlen]; exact q1, q2, ?_⟩
  rcases f0 with rfl | ⟨b, o, e, hb, k⟩
  ·exact Or.inl rfl
  ·exact Or.inr ⟨b, o, e, hb, zaj.keep (fun _ _ => rfl) (fun b hb => hb.1) b rfl o 2 fl k⟩
 refine ((l16G_c fl f2.shape n most (by omega) hn hm (by rw [hlen]; exact hok)).use hr).mono ?_
 rintro e w' ⟨us, fp, rfl, ho, _, hnew, bel⟩
 obtain ⟨u1, _, p1, _, rfl, rfl, r1, r2⟩ := ho
 obtain ⟨u2, _, p2, _, rfl, rfl, r2, r3⟩ := r2
 obtain ⟨rfl, rfl⟩ := r3
 have r2 : zao w' (.bool true) u2 p2 := r2
 unfold zao at r2
 obtain ⟨rfl, rfl⟩ := r2
 have r1 : zao w' (rwS (zj4 fl n)) u1 p1 := r1
 have hlt := zao.lt _ _ _ r1
 have r1 := zao.rep (A := fun b => b < w'.heap.size /\ (A b \/ w.heap.size <= b)) _ _ _ r1 fun b hb => ⟨hlt b hb, Or.inr (hnew b (by simp [hb]))⟩
 refine ⟨[u1, .bool true], rfl, ⟨u1, _, rfl, ?_, _, _, rfl, ?_, rfl⟩, bel⟩
 ·have e1 : (fl.zip ts).map (·.1) = fl := List.map_fst_zip (by omega)
  have e2 : (fl.zip ts).map (·.2) = ts := List.map_snd_zip (by omega)
  have g1 := zlc (·.1) (fl.zip ts) n
  have g2 := zlc (·.2) (fl.zip ts) n
  rw [e1] at g1
  rw [e2] at g2
  have hel := fun l hl => (zq5 (fl.zip ts) n l hl).2
  rw [g1] at r1
  rw [zzz, g2]
  generalize zj4 (fl.zip ts) n = Z at r1 hel ⊢
  have hF : ∀ zl ∈ Z, ∀ z ∈ zl, zjp w' (fun b => b < w'.heap.size /\ (A b \/ w.heap.size <= b)) z.1 z.2 := fun zl hzl z hz => (f2.zip z (hel zl hzl z hz)).keep (fun b hb' => bel.block b hb'.1) fun b hb' => ⟨Nat.lt_of_lt_of_le hb'.1 bel.size, Or.inl hb'.2⟩
  show zai w' (fun b => b < w'.heap.size /\ (A b \/ w.heap.size <= b)) (tmLL (Z.map (List.map (·.2)))) u1
  unfold zai at r1 ⊢
  obtain ⟨ao, cap, rfl, q1, q2, q3⟩ := r1
  simp only [List.length_map, List.map_map, Function.comp_def] at q1 q3 ⊢
  refine ⟨ao, cap, rfl, q1, q2, ?_⟩
  rcases q3 with q3 | ⟨b, o, rfl, q4, q5⟩
  ·have : Z = [] := List.map_eq_nil_iff.1 q3
   rw [this]
   exact Or.inl rfl
  ·exact Or.inr ⟨b, o, rfl, q4, zo1 Z o hF q5⟩
 ·show zai w' (fun b => b < w'.heap.size /\ (A b \/ w.heap.size <= b)) (T.bool true) _
  unfold zai
  rfl
end Go.Proofs.YtmhbmpbgpjljeaaGreat
namespace Go.Proofs.YtmhbmpbgpjljeaaGreat
set_option linter.unusedSimpArgs false
set_option linter.unusedVariables false
set_option linter.unusedSectionVars false
set_option maxRecDepth 4000
open Go.RowKit
theorem qhh (ts : List Tb) {k : Nat} (h : k < ts.length) : ((ts.take (k + 1)).filter fun x => !x.pred) = ((ts.take k).filter fun x => !x.pred) ++ if ts[k].pred = true then [] else [ts[k]] := by
 rw [List.take_succ_eq_append_getElem h, List.filter_append]
 congr 1
 rw [List.filter_cons]
 cases ts[k].pred <;> simp
theorem qhg (fs : List Tb) : fcS fs = fs ++ if (fs.any fun f => f.ar == 0) = true then [] else [⟨[99, 48], 0, false⟩] := rfl
set_option maxHeartbeats 2000000 in
theorem zka (ts : List Tb) (hl : ts.length <= 1048576) : FC Tryz.prog 38 [.one (tbS ts)] [.one (tbS (fcS (ts.filter fun x => !x.pred)))] := by
 refine zau Tryz.call38 Tryz.func38 rfl (by kernel_rfl) (za6 (by kernel_rfl)) ?_
 simp -implicitDefEqProofs only [go_sem, Tryz.results38]
 refine zb6 (by simp -implicitDefEqProofs only [go_sem]) ?_
 simp -implicitDefEqProofs only [go_sem]
 refine zaf (fun k : Nat => hd [(0, vT (tbS ts)), (3, .one (.ow 192 0)), (4, vB (((ts.take k).filter fun x => !x.pred).any fun f => f.ar == 0)), (5, vI k)] [] [(192, ⟨true, 4, ((ts.take k).filter fun x => !x.pred).map tbC, 0, true⟩)]) (fun k => k <= ts.length) (fun k => ts.length - k) 0 (zaa ?_) (Nat.zero_le _) ?_
 ·simp -implicitDefEqProofs only [go_sem]
  exact ⟨rfl, rfl⟩
 ·intro k hk
  by_cases hlt : k < ts.length
  ·have hsu := qhh ts hlt
   have hcl : ((ts.take k).filter fun x => !x.pred).length <= 4294967295 := by
    have h1 := List.length_filter_le (fun x : Tb => !x.pred) (ts.take k)
    rw [List.length_take] at h1; omega
   generalize ((ts.take k).filter fun x => !x.pred) = fs at hsu hcl ⊢
   cases hp : ts[k].pred
   ·rw [hp, if_neg (by simp)] at hsu
    simp -implicitDefEqProofs only [go_sem, hlt, zad, zat ts[k], hp]
    refine zb6 (by simp -implicitDefEqProofs only [go_sem]) ?_
    simp -implicitDefEqProofs only [go_sem]
    refine apD true (by simp -implicitDefEqProofs only [go_sem, ne_eq, List.length_map, hcl]) ?_
    simp -implicitDefEqProofs only [go_sem, ne_eq, List.length_map, hcl]
    cases hc : fs.any fun f => f.ar == 0
    ·simp -implicitDefEqProofs only [go_sem, hlt, zad, zat ts[k], hc]
     refine ⟨k + 1, hlt, by omega, zaa ?_⟩
     simp -implicitDefEqProofs only [go_sem]
     rw [zam (by omega), hsu, List.map_append, List.map_singleton, List.any_append, hc, zat ts[k], hp]
     exact ⟨⟨by simp, rfl⟩, rfl⟩
    ·simp -implicitDefEqProofs only [go_sem, hlt, zad, zat ts[k], hc]
     refine ⟨k + 1, hlt, by omega, zaa ?_⟩
     simp -implicitDefEqProofs only [go_sem]
     rw [zam (by omega), hsu, List.map_append, List.map_singleton, List.any_append, hc, zat ts[k], hp]
     exact ⟨⟨by simp, rfl⟩, rfl⟩
   ·rw [hp, if_pos rfl, List.append_nil] at hsu
    simp -implicitDefEqProofs only [go_sem, hlt, zad, zat ts[k], hp]
    refine ⟨k + 1, hlt, by omega, zaa ?_⟩
    simp -implicitDefEqProofs only [go_sem]
    rw [zam (by omega), hsu]
    exact ⟨⟨rfl, rfl⟩, rfl⟩
  ·have ht : ts.take k = ts := List.take_of_length_le (by omega)
   rw [ht]
   have hcl : (ts.filter fun x => !x.pred).length <= 4294967295 := by
    have h1 := List.length_filter_le (fun x : Tb => !x.pred) ts
    omega
   have hfc := qhg (ts.filter fun x => !x.pred)
   generalize (ts.filter fun x => !x.pred) = fs at hfc hcl ⊢
   cases hc : fs.any fun f => f.ar == 0
   ·rw [hc, if_neg (by simp)] at hfc
    simp -implicitDefEqProofs only [go_sem, hlt, hc]
    refine zlb (σ' := hd [(37, .one (.ow 192 0)), (38, .agg [.t (.str [99, 48]), .t (.int .i64 0), .t (.bool false), .t (.vs none 0 0)])] [] [(192, ⟨true, 4, fs.map tbC, 0, true⟩)]) (Wk.nilS 38 ?_) rfl rfl ?_
    ·simp -implicitDefEqProofs only [go_sem]
     refine zaa ?_
     simp -implicitDefEqProofs only [go_sem]
    refine zb6 (by simp -implicitDefEqProofs only [go_sem]) ?_
    simp -implicitDefEqProofs only [go_sem]
    refine apD true (by simp -implicitDefEqProofs only [go_sem, ne_eq, List.length_map, hcl]) ?_
    simp -implicitDefEqProofs only [go_sem, ne_eq, List.length_map, hcl]
    rw [hfc, List.map_append, List.map_singleton, zat]
   ·rw [hc, if_pos rfl, List.append_nil] at hfc
    rw [hfc]
    simp -implicitDefEqProofs only [go_sem, hlt, hc]
theorem qfz {k j : Nat} (hk : k <= 60) (hj : j <= 3) : k ^ j <= 300000 := by
 have h1 : k ^ j <= 60 ^ j := Nat.pow_le_pow_left hk j
 have h2 : 60 ^ j <= 60 ^ 3 := Nat.pow_le_pow_right (by decide) hj
 have h3 : 60 ^ 3 <= 300000 := by decide
 omega
theorem nil_ok (fs : List Tb) : TsOk fs 1 [] := ⟨List.nodup_nil, by simp, by simp, by simp⟩
theorem zx5 {fs : List Tb} (hf : FnOk fs) (hl : fs.length <= 12) {m : Nat} {ts : List Tm} (h0 : m = 0 -> ts = []) (ht : TsOk fs ((m : Int) + 1) ts) (hb : (zln ((m : Int) + 1) ts (fcS fs) []).1 = true) : TsOk fs ((m : Int) + 1 + 1) (ts ++ (zln ((m : Int) + 1) ts (fcS fs) []).2) := by
 by_cases hm : m = 0
 ·subst hm
  rw [h0 rfl]
  rw [show ((0 : Nat) : Int) + 1 = 1 by omega, zrx hf hl, List.nil_append]
  exact zod hf hl
 ·obtain ⟨e1, e2⟩ := zr4 (lv := (m : Int) + 1) (by omega) hf ht.nd
  rw [e1] at hb
  rw [e2]
  exact zju hf ht hb
theorem qej (l : List Tm) (t : Tm) : (zfl l t).length <= l.length + 1 := by
 unfold zfl
 split
 ·omega
 ·have := congrArg List.length (List.takeWhile_append_dropWhile (p := fun x => ltT x t) (l := l))
  rw [List.length_append] at this
  simp only [List.length_append, List.length_singleton]
  omega
set_option maxHeartbeats 8000000 in
theorem qdh (cs : List Cq) (d : Int) (hw : znb cs <= 1048576) : RC Tryz.prog 13 [.one (cqS cs), iD d] [.one (tmS (htV cs d)), bD (htB cs d)] := by
 have HS := zzo cs hw
 have HW := qac d 1 8
 have hv1 : htB cs d = (zco cs && (decide (1 <= d) && decide (d <= 8)) && ((lvI (fnT cs) (d - 1).toNat 2 (ts0 (fnT cs))).1 && (lvI (fnT cs) (d - 1).toNat 2 (ts0 (fnT cs))).2.all Tm.good)) := rfl
 have hno : htB cs d = false -> htV cs d = [] := fun h => by unfold htV; rw [h, if_neg (by simp)]
 have hyes : htB cs d = true -> htV cs d = (lvI (fnT cs) (d - 1).toNat 2 (ts0 (fnT cs))).2 := fun h => by unfold htV; rw [h, if_pos rfl]
 cases hso : zco cs
 ·rw [hso, Bool.false_and, Bool.false_and] at hv1
  rw [hso] at HS
  rw [hno hv1, hv1]
  refine zcg Tryz.call13 Tryz.func13 rfl (by kernel_rfl) (za6 (by kernel_rfl)) ?_
  simp -implicitDefEqProofs only [go_sem, Tryz.results13]
  refine callR (HS) (by simp -implicitDefEqProofs only [go_sem]) ?_
  simp -implicitDefEqProofs only [go_sem]
  refine zef (by simp -implicitDefEqProofs only [go_sem]) ?_
  simp -implicitDefEqProofs only [go_sem]
  rfl
 ·obtain ⟨hfo, hfl⟩ := qjh hso
  have hfn : fnT cs = (zm0 cs).filter fun x => !x.pred := rfl
  have hsl : (zm0 cs).length <= 12 := by
   have h := hso
   unfold zm0
   rw [if_pos h]
   unfold zco at h
   simp only [Bool.and_eq_true, decide_eq_true_eq] at h
   exact h.2.2
  rw [hso, Bool.true_and] at hv1
  rw [hso] at HS
  have hin : inB d 1 8 = (decide (1 <= d) && decide (d <= 8)) := rfl
  rw [hin] at HW
  cases hdb : (decide (1 <= d) && decide (d <= 8))
  ·rw [hdb, Bool.false_and] at hv1
   rw [hdb] at HW
   rw [hno hv1, hv1]
   refine zcg Tryz.call13 Tryz.func13 rfl (by kernel_rfl) (za6 (by kernel_rfl)) ?_
   simp -implicitDefEqProofs only [go_sem, Tryz.results13]
   refine callR (HS) (by simp -implicitDefEqProofs only [go_sem]) ?_
   simp -implicitDefEqProofs only [go_sem]
   refine callF (HW) (by simp -implicitDefEqProofs only [go_sem]) ?_
   simp -implicitDefEqProofs only [go_sem]
   refine zef (by simp -implicitDefEqProofs only [go_sem]) ?_
   simp -implicitDefEqProofs only [go_sem]
   rfl
  ·rw [hdb, Bool.true_and] at hv1
   rw [hdb] at HW
   simp only [Bool.and_eq_true, decide_eq_true_eq] at hdb
   obtain ⟨hd1, hd8⟩ := hdb
   have HF := zka (zm0 cs) (by omega)
   rw [<- hfn] at HF
   obtain ⟨n, hn⟩ : ∃ n : Nat, (d - 1).toNat = n := ⟨_, rfl⟩
   have hdn : d = (n : Int) + 1 := by omega
   rw [hn] at hv1 hyes
   have hall := lv_all hfo hfl n
   rw [<- hall] at hv1 hyes
   have hlow := zop hfo
   have hpos : ∀ f ∈ fcS (fnT cs), 0 <= f.ar := fun f hf => by
    unfold fcS at hf
    rcases List.mem_append.1 hf with hf | hf
    ·exact (hfo.pos f hf).1
    ·split at hf
     ·cases hf
     ·rw [List.mem_singleton.1 hf]; exact Int.le_refl _
   have hFl : (fcS (fnT cs)).length <= 13 := by
    unfold fcS
    rw [List.length_append]
    split <;> simp <;> omega
   have hstep : ∀ (m : Nat) (ts : List Tm), (m = 0 -> ts = []) -> TsOk (fnT cs) ((m : Int) + 1) ts -> (zln ((m : Int) + 1) ts (fcS (fnT cs)) []).1 = true -> TsOk (fnT cs) ((m : Int) + 1 + 1) (ts ++ (zln ((m : Int) + 1) ts (fcS (fnT cs)) []).2) := fun m ts h1 h2 h3 => zx5 hfo hfl h1 h2 h3
   have hone := fun (lv : Int) (ts : List Tm) (h8 : lv <= 8) (h : TsOk (fnT cs) lv ts) (f : Tb) (hf : f ∈ fcS (fnT cs)) (l : List Tm) (hl : l ∈ zc7 ts f.ar.toNat) => TsOk.one hfo h8 h hf hl
   have hwts := fun (lv : Int) (ts : List Tm) (h9 : lv <= 9) (h : TsOk (fnT cs) lv ts) => TsOk.wts hfo h9 h
   have hnil := nil_ok (fnT cs)
   generalize hF : fcS (fnT cs) = F at *
   generalize fnT cs = fs at *
   generalize zm0 cs = sg at *
   obtain ⟨V, hV⟩ : ∃ V, V = lvS F (n + 1) 1 [] := ⟨_, rfl⟩
   rw [<- hV] at hv1 hyes
   refine zcg Tryz.call13 Tryz.func13 rfl (by kernel_rfl) (za6 (by kernel_rfl)) ?_
   simp -implicitDefEqProofs only [go_sem, Tryz.results13]
   refine callR (HS) (by simp -implicitDefEqProofs only [go_sem]) ?_
   simp -implicitDefEqProofs only [go_sem]
   refine callF (HW) (by simp -implicitDefEqProofs only [go_sem]) ?_
   simp -implicitDefEqProofs only [go_sem]
   refine callF (HF) (by simp -implicitDefEqProofs only [go_sem]) ?_
   simp -implicitDefEqProofs only [go_sem]
   refine qhn (by simp -implicitDefEqProofs only [go_sem]) ?_
   simp -implicitDefEqProofs only [go_sem]
   refine zaf (fun z : Nat × List Tm => hd [(1, vI d), (8, .one (.ow 1056 0)), (9, .one (.ow 1088 0)), (10, vI ((z.1 : Int) + 1))] [] [(1056, ⟨true, 4, F.map tbC, 0, true⟩), (1088, ⟨false, 2, z.2.map tmC, 0, true⟩)]) (fun z => z.1 <= n + 1 /\ (z.1 = 0 -> z.2 = []) /\ TsOk fs ((z.1 : Int) + 1) z.2 /\ V = lvS F (n + 1 - z.1) ((z.1 : Int) + 1) z.2) (fun z => n + 1 - z.1) (0, []) (zaa ?_) ⟨Nat.zero_le _, fun _ => rfl, hnil, hV⟩ ?_
   ·simp -implicitDefEqProofs only [go_sem]
   ·rintro ⟨m, ts⟩ ⟨hm, h0, hto, heq⟩
    simp only at hm h0 hto heq ⊢
    have htl := hto.len
    by_cases hmn : m < n + 1
    ·have hle : ((m : Int) + 1 <= d) = True := eq_true (by omega)
     obtain ⟨r, hr⟩ : ∃ r, n + 1 - m = r + 1 := ⟨n + 1 - m - 1, by omega⟩
     have hstep := hstep m ts h0 hto
     have hone := hone ((m : Int) + 1) ts (by omega) hto
     rw [hr, lvS] at heq
     have hlv8 : (m : Int) + 1 <= 8 := by omega
     simp -implicitDefEqProofs only [go_sem, hle]
     refine zef (by simp -implicitDefEqProofs only [go_sem]) ?_
     simp -implicitDefEqProofs only [go_sem]
     refine zaf (fun z : Nat × List Tm => hd [(1, vI d), (8, .one (.ow 1056 0)), (9, .one (.ow 1088 0)), (10, vI ((m : Int) + 1)), (11, vT (tmS z.2)), (12, vI z.1)] [] [(1056, ⟨true, 4, F.map tbC, 0, true⟩), (1088, ⟨false, 2, ts.map tmC, 0, true⟩)]) (fun z => z.1 <= F.length /\ z.2.length <= 60 /\ zln ((m : Int) + 1) ts F [] = zln ((m : Int) + 1) ts (F.drop z.1) z.2) (fun z => F.length - z.1) (0, []) (zaa ?_) ⟨Nat.zero_le _, by simp, rfl⟩ ?_
     ·simp -implicitDefEqProofs only [go_sem]
      rfl
     ·rintro ⟨i, x⟩ ⟨hi, hx60, heq1⟩
      simp only at hi hx60 heq1 ⊢
      by_cases hlt : i < F.length
      ·have hfm : F[i] ∈ F := List.getElem_mem hlt
       have hfp := hpos _ hfm
       have hf3 := (hlow _ hfm).2
       have hone := hone _ hfm
       rw [List.drop_eq_getElem_cons hlt, zln] at heq1
       cases hsk : (F[i].ar == 0) != (((m : Int) + 1) == 1)
       ·rw [hsk, if_neg (by simp)] at heq1
        have hsk' : (!((F[i].ar == 0) == (((m : Int) + 1) == 1))) = false := hsk
        have HL := zuf ts F[i].ar.toNat 300000 (by omega) (by omega) (by omega) fun j hj => qfz htl (by omega)
        have har : ((F[i].ar.toNat : Nat) : Int) = F[i].ar := by omega
        rw [har] at HL
        have hLl : (zc7 ts F[i].ar.toNat).length <= 300000 := by rw [ztl]; exact qfz htl hf3
        generalize zc7 ts F[i].ar.toNat = L at HL heq1 hone hLl
        simp -implicitDefEqProofs only [go_sem, hlt, zad, zat F[i], hsk']
        refine callRt 1088 HL (by simp -implicitDefEqProofs only [go_sem, hlt]) ?_
        simp -implicitDefEqProofs only [go_sem]
        refine zaf (fun z : Nat × List Tm => hd [(1, vI d), (8, .one (.ow 1056 0)), (9, .one (.ow 1088 0)), (10, vI ((m : Int) + 1)), (11, vT (tmS z.2)), (12, vI i), (13, vT (tmLL L)), (15, vI z.1)] [] [(1056, ⟨true, 4, F.map tbC, 0, true⟩), (1088, ⟨false, 2, ts.map tmC, 0, true⟩)]) (fun z => z.1 <= L.length /\ z.2.length <= 60 /\ runT (dsS F[i] ((m : Int) + 1) ts.length) L x = runT (dsS F[i] ((m : Int) + 1) ts.length) (L.drop z.1) z.2) (fun z => L.length - z.1) (0, x) (zaa ?_) ⟨Nat.zero_le _, hx60, rfl⟩ ?_
        ·simp -implicitDefEqProofs only [go_sem]
        ·rintro ⟨j, y⟩ ⟨hj, hy60, heq2⟩
         simp only at hj hy60 heq2 ⊢
         by_cases hlj : j < L.length
         ·have hget : (L.map fun s => [tmS s]).getD j [] = [tmS L[j]] := by rw [List.getD_eq_getElem?_getD, List.getElem?_map, List.getElem?_eq_getElem hlj]; rfl
          obtain ⟨ho1, ho2⟩ := hone _ (List.getElem_mem hlj)
          have HD := zoy (.mk F[i].name L[j]) (by omega)
          have HP := qbw y (.mk F[i].name L[j]) (by omega)
          have hil := qej y (.mk F[i].name L[j])
          rw [List.drop_eq_getElem_cons hlj, runT] at heq2
          have hds : dsS F[i] ((m : Int) + 1) ts.length y L[j] = (decide (ts.length + (if ((Tm.mk F[i].name L[j]).depth : Int) == (m : Int) + 1 then zfl y (.mk F[i].name L[j]) else y).length <= 60), if ((Tm.mk F[i].name L[j]).depth : Int) == (m : Int) + 1 then zfl y (.mk F[i].name L[j]) else y) := rfl
          simp only [tmD, znu] at HD HP
          simp -implicitDefEqProofs only [go_sem, hlj]
          refine drawn (by kernel_rfl) ?_
          simp -implicitDefEqProofs only [go_sem, hlt, hlj, hget, zad, zat F[i]]
          refine ⟨by kernel_rfl, ?_⟩
          refine callF (HD) (by simp -implicitDefEqProofs only [go_sem]) ?_
          simp -implicitDefEqProofs only [go_sem]
          cases hdd : ((Tm.mk F[i].name L[j]).depth : Int) == (m : Int) + 1
          ·rw [hdd] at hds
           simp only [Bool.false_eq_true, if_false] at hds
           by_cases h60 : ts.length + y.length <= 60
           ·have hw60 : IntKind.i64.wrap ((ts.length : Int) + (y.length : Int)) = ((ts.length + y.length : Nat) : Int) := by rw [zbb (by omega) (by omega)]; omega
            have h60' : ((60 : Int) < ((ts.length + y.length : Nat) : Int)) = False := eq_false (by omega)
            rw [decide_eq_true h60] at hds
            rw [hds, if_pos rfl] at heq2
            simp -implicitDefEqProofs only [go_sem, hdd, hw60, h60']
            refine ⟨(j + 1, y), ⟨hlj, by simp only; omega, heq2⟩, by simp only; omega, zaa ?_⟩
            simp -implicitDefEqProofs only [go_sem]
            rw [zam (by omega)]
           ·have hw60 : IntKind.i64.wrap ((ts.length : Int) + (y.length : Int)) = ((ts.length + y.length : Nat) : Int) := by rw [zbb (by omega) (by omega)]; omega
            have h60' : ((60 : Int) < ((ts.length + y.length : Nat) : Int)) = True := eq_true (by omega)
            rw [decide_eq_false h60] at hds
            have e2 : (runT (dsS F[i] ((m : Int) + 1) ts.length) L x).1 = false := by rw [heq2, hds, if_neg (by simp)]
            have e1 : (zln ((m : Int) + 1) ts F []).1 = false := by rw [heq1, e2, if_neg (by simp)]
            have e0 : V = (false, []) := by rw [heq, e1, if_neg (by simp)]
            rw [e0] at hv1
            have hv1 : htB cs d = false := hv1
            rw [hno hv1, hv1]
            simp -implicitDefEqProofs only [go_sem, hdd, hw60, h60']
            refine zef (by simp -implicitDefEqProofs only [go_sem]) ?_
            simp -implicitDefEqProofs only [go_sem]
            rfl
          ·rw [hdd] at hds
           simp only [if_true] at hds
           simp -implicitDefEqProofs only [go_sem, hdd]
           refine callR (HP) (by simp -implicitDefEqProofs only [go_sem]) ?_
           simp -implicitDefEqProofs only [go_sem]
           by_cases h60 : ts.length + (zfl y (.mk F[i].name L[j])).length <= 60
           ·have hw60 : IntKind.i64.wrap ((ts.length : Int) + ((zfl y (.mk F[i].name L[j])).length : Int)) = ((ts.length + (zfl y (.mk F[i].name L[j])).length : Nat) : Int) := by rw [zbb (by omega) (by omega)]; omega
            have h60' : ((60 : Int) < ((ts.length + (zfl y (.mk F[i].name L[j])).length : Nat) : Int)) = False := eq_false (by omega)
            rw [decide_eq_true h60] at hds
            rw [hds, if_pos rfl] at heq2
            simp -implicitDefEqProofs only [go_sem, hw60, h60']
            refine ⟨(j + 1, (zfl y (.mk F[i].name L[j]))), ⟨hlj, by simp only; omega, heq2⟩, by simp only; omega, zaa ?_⟩
            simp -implicitDefEqProofs only [go_sem]
            rw [zam (by omega)]
           ·have hw60 : IntKind.i64.wrap ((ts.length : Int) + ((zfl y (.mk F[i].name L[j])).length : Int)) = ((ts.length + (zfl y (.mk F[i].name L[j])).length : Nat) : Int) := by rw [zbb (by omega) (by omega)]; omega
            have h60' : ((60 : Int) < ((ts.length + (zfl y (.mk F[i].name L[j])).length : Nat) : Int)) = True := eq_true (by omega)
            rw [decide_eq_false h60] at hds
            have e2 : (runT (dsS F[i] ((m : Int) + 1) ts.length) L x).1 = false := by rw [heq2, hds, if_neg (by simp)]
            have e1 : (zln ((m : Int) + 1) ts F []).1 = false := by rw [heq1, e2, if_neg (by simp)]
            have e0 : V = (false, []) := by rw [heq, e1, if_neg (by simp)]
            rw [e0] at hv1
            have hv1 : htB cs d = false := hv1
            rw [hno hv1, hv1]
            simp -implicitDefEqProofs only [go_sem, hw60, h60']
            refine zef (by simp -implicitDefEqProofs only [go_sem]) ?_
            simp -implicitDefEqProofs only [go_sem]
            rfl
         ·rw [List.drop_eq_nil_of_le (by omega), runT] at heq2
          rw [heq2, if_pos rfl] at heq1
          simp -implicitDefEqProofs only [go_sem, hlj]
          refine ⟨(i + 1, y), ⟨hlt, hy60, heq1⟩, by simp only; omega, zaa ?_⟩
          simp -implicitDefEqProofs only [go_sem]
          rw [zam (by omega)]
       ·rw [hsk, if_pos rfl] at heq1
        have hsk' : (!((F[i].ar == 0) == (((m : Int) + 1) == 1))) = true := hsk
        simp -implicitDefEqProofs only [go_sem, hlt, zad, zat F[i], hsk']
        refine ⟨(i + 1, x), ⟨hlt, hx60, heq1⟩, by simp only; omega, zaa ?_⟩
        simp -implicitDefEqProofs only [go_sem]
        rw [zam (by omega)]
      ·rw [List.drop_eq_nil_of_le (by omega), zln] at heq1
       rw [heq1] at heq hstep
       rw [if_pos rfl] at heq
       have hstep := hstep rfl
       have hap : ts.length + x.length <= 4294967296 := by omega
       simp -implicitDefEqProofs only [go_sem, hlt]
       refine apD false (by simp -implicitDefEqProofs only [go_sem, ne_eq, List.length_map, hap]) ?_
       simp -implicitDefEqProofs only [go_sem, ne_eq, List.length_map, hap]
       refine ⟨(m + 1, ts ++ x), ⟨by omega, by simp, ?_, ?_⟩, by simp only; omega, zaa ?_⟩
       ·rw [show ((m + 1 : Nat) : Int) + 1 = (m : Int) + 1 + 1 by omega]; exact hstep
       ·simp only
        rw [show n + 1 - (m + 1) = r by omega, show ((m + 1 : Nat) : Int) + 1 = (m : Int) + 1 + 1 by omega]; exact heq
       ·simp -implicitDefEqProofs only [go_sem]
        rw [zbb (by omega) (by omega), List.map_append, show ((m + 1 : Nat) : Int) + 1 = (m : Int) + 1 + 1 by omega]
        exact ⟨rfl, rfl⟩
    ·have hle : ((m : Int) + 1 <= d) = False := eq_false (by omega)
     rw [show n + 1 - m = 0 by omega, lvS] at heq
     rw [heq] at hv1 hyes
     have hv1 : htB cs d = ts.all Tm.good := by rw [hv1]; exact Bool.true_and _
     have hw2 := hwts ((m : Int) + 1) ts (by omega) hto
     simp -implicitDefEqProofs only [go_sem, hle]
     refine zb6 (by simp -implicitDefEqProofs only [go_sem]) ?_
     simp -implicitDefEqProofs only [go_sem]
     refine zaf (fun k : Nat => hd [(9, .one (.ow 1088 0)), (17, .one (.ow 3264 0)), (18, vI k)] [] [(1088, ⟨false, 2, ts.map tmC, 0, true⟩), (3264, ⟨true, 2, (ts.take k).map tmC, 0, true⟩)]) (fun k => k <= ts.length /\ ∀ t ∈ ts.take k, t.good = true) (fun k => ts.length - k) 0 (zaa ?_) ⟨Nat.zero_le _, by simp⟩ ?_
     ·simp -implicitDefEqProofs only [go_sem]
     ·intro k ⟨hk, hgk⟩
      by_cases hlt : k < ts.length
      ·have hw3 := hw2 _ (List.getElem_mem hlt)
       have HG := zst ts[k] (by omega)
       have HO := qgr ts[k] (by omega)
       have hmin : min k ts.length <= 4294967295 := by omega
       simp only [tmD, zab ts[k]] at HG HO
       cases hg : ts[k].good
       ·have hv1 : htB cs d = false := by rw [hv1]; exact List.all_eq_false.2 ⟨_, List.getElem_mem hlt, by rw [hg]; simp⟩
        rw [hg] at HG
        rw [hno hv1, hv1]
        simp -implicitDefEqProofs only [go_sem, hlt, zad, zab ts[k]]
        refine callF (HG) (by simp -implicitDefEqProofs only [go_sem]) ?_
        simp -implicitDefEqProofs only [go_sem]
        refine zef (by simp -implicitDefEqProofs only [go_sem]) ?_
        simp -implicitDefEqProofs only [go_sem]
        rfl
       ·rw [hg] at HG
        simp -implicitDefEqProofs only [go_sem, hlt, zad, zab ts[k]]
        refine callF (HG) (by simp -implicitDefEqProofs only [go_sem]) ?_
        simp -implicitDefEqProofs only [go_sem]
        simp -implicitDefEqProofs only [go_sem, hlt, zad, zab ts[k]]
        refine callF (HO) (by simp -implicitDefEqProofs only [go_sem]) ?_
        simp -implicitDefEqProofs only [go_sem]
        refine zb6 (by simp -implicitDefEqProofs only [go_sem]) ?_
        simp -implicitDefEqProofs only [go_sem]
        refine apD true (by simp -implicitDefEqProofs only [go_sem, ne_eq, List.length_map, List.length_take, hmin]) ?_
        simp -implicitDefEqProofs only [go_sem, ne_eq, List.length_map, List.length_take, hmin]
        refine ⟨k + 1, ⟨hlt, fun t ht => ?_⟩, by omega, zaa ?_⟩
        ·rw [List.take_succ_eq_append_getElem hlt] at ht
         rcases List.mem_append.1 ht with ht | ht
         ·exact hgk t ht
         ·rw [List.mem_singleton.1 ht]; exact hg
        ·simp -implicitDefEqProofs only [go_sem]
         rw [zam (by omega), List.take_succ_eq_append_getElem hlt, List.map_append, List.map_singleton, zab ts[k]]
         exact ⟨rfl, rfl⟩
      ·have ht : ts.take k = ts := List.take_of_length_le (by omega)
       rw [ht] at hgk
       have hv1 : htB cs d = true := by rw [hv1]; exact List.all_eq_true.2 hgk
       rw [hyes hv1, hv1, ht]
       simp -implicitDefEqProofs only [go_sem, hlt]
end Go.Proofs.YtmhbmpbgpjljeaaGreat
namespace Go.Proofs.YtmhbmpbgpjljeaaGreat
set_option linter.unusedSimpArgs false
set_option linter.unusedVariables false
set_option linter.unusedSectionVars false
set_option maxRecDepth 4000
open Go.RowKit
theorem htV_ok {cs : List Cq} {d : Int} (h : htB cs d = true) : FnOk (fnT cs) /\ TsOk (fnT cs) (2 + ((d - 1).toNat : Nat)) (htV cs d) /\ d <= 8 /\ 1 <= d := by
 have hv : htV cs d = (lvI (fnT cs) (d - 1).toNat 2 (ts0 (fnT cs))).2 := by unfold htV; rw [h, if_pos rfl]
 unfold htB at h
 simp only [Bool.and_eq_true, decide_eq_true_eq] at h
 obtain ⟨⟨h1, h2, h3⟩, h4, h5⟩ := h
 obtain ⟨hfo, hfl⟩ := qjh h1
 rw [hv]
 exact ⟨hfo, qfd hfo _ (zod hfo hfl) h4, h3, h2⟩
theorem htV_wt (cs : List Cq) (d : Int) : zms (htV cs d) <= 60 + 60 * 30000 := by
 cases hb : htB cs d
 ·have : htV cs d = [] := by unfold htV; rw [hb, if_neg (by simp)]
  rw [this]
  exact Nat.zero_le _
 ·obtain ⟨hfo, ho, h8, h1⟩ := htV_ok hb
  have hw := ho.wts hfo (by omega)
  have hl := ho.len
  generalize htV cs d = R at hw hl
  have h1 := qfb Tm.wt 30000 R hw
  have h2 := Nat.mul_le_mul_right 30000 hl
  unfold zms
  omega
set_option maxHeartbeats 4000000 in
theorem qh9 (cs : List Cq) (d : Int) : FC Tryz.prog 4 [.one (cqS cs), iD d] [bD true] := by
 have HZ := zq3 cs 1048576 (by omega) (by omega)
 refine zg6 Tryz.call4 Tryz.func4 rfl (by kernel_rfl) (za6 (by kernel_rfl)) ?_
 simp -implicitDefEqProofs only [go_sem, Tryz.results4]
 refine callF (HZ) (by simp -implicitDefEqProofs only [go_sem]) ?_
 simp -implicitDefEqProofs only [go_sem]
 refine ⟨fun h => trivial, fun h => ?_⟩
 obtain ⟨hw1, hw2⟩ := zfk (show ¬ szR (znb cs) 1048576 < 0 by simpa using h)
 have hw : znb cs <= 1048576 := by omega
 have HS := qdh cs d hw
 have HI := qea cs d hw
 have HT := zq4 cs hw
 have HE := zq8 cs cs
 have hRw := htV_wt cs d
 generalize htV cs d = R at HS HI hRw
 generalize htB cs d = G at HS HI
 have HF := qa7 R R
 have n2 : ∀ b : Bool, (b != b) = false := by decide
 refine callF (HT) (by simp -implicitDefEqProofs only [go_sem]) ?_
 simp -implicitDefEqProofs only [go_sem]
 refine frzO 736 rfl rfl ?_
 simp -implicitDefEqProofs only [go_sem]
 refine callRn (HS) (by simp -implicitDefEqProofs only [go_sem]) ?_
 simp -implicitDefEqProofs only [go_sem]
 refine callF (HT) (by simp -implicitDefEqProofs only [go_sem]) ?_
 simp -implicitDefEqProofs only [go_sem]
 refine callF (HI) (by simp -implicitDefEqProofs only [go_sem]) ?_
 simp -implicitDefEqProofs only [go_sem]
 refine callF (HF) (by simp -implicitDefEqProofs only [go_sem, zbg, beq_self_eq_true, bne_self_eq_false, Bool.not_true, n2]) ?_
 simp -implicitDefEqProofs only [go_sem, zbg, beq_self_eq_true, bne_self_eq_false, Bool.not_true, n2]
 refine callF (HT) (by simp -implicitDefEqProofs only [go_sem]) ?_
 simp -implicitDefEqProofs only [go_sem]
 refine callF (HE) (by simp -implicitDefEqProofs only [go_sem, zbg]) ?_
 simp -implicitDefEqProofs only [go_sem, zbg]
 have hc1 := zrh cs
 have hcR := zib R
 have HM := zlz cs 1 (by omega) (by omega)
 have hm := zrj cs 1
 have HM2 := ziu R 1 (by omega) (by omega)
 have HL := zpq R 1 (by omega) (by omega)
 have hmR := (zd4 R 1).1
 generalize (zeq cs 1).2 = k1 at HM hm
 generalize (zeq cs 1).1 = f2 at HM
 generalize (za8 R 1).2 = k2 at HM2 HL hmR
 generalize (za8 R 1).1 = r1 at HM2 HL
 refine zp1 [0, 1, 6, 7, 9, 10, 50, 51] (HM) (by simp -implicitDefEqProofs only [go_sem]) (by simp -implicitDefEqProofs only [go_sem]) (by simp -implicitDefEqProofs only [go_sem]) (by simp -implicitDefEqProofs only [go_sem]) (by simp -implicitDefEqProofs only [go_sem]) rfl ?_
 simp -implicitDefEqProofs only [go_sem]
 refine callF (HF) (by simp -implicitDefEqProofs only [go_sem, zbg, beq_self_eq_true, bne_self_eq_false, Bool.not_true, n2]) ?_
 simp -implicitDefEqProofs only [go_sem, zbg, beq_self_eq_true, bne_self_eq_false, Bool.not_true, n2]
 refine zp1 [0, 1, 6, 7, 9, 66, 67] (HM2) (by simp -implicitDefEqProofs only [go_sem]) (by simp -implicitDefEqProofs only [go_sem]) (by simp -implicitDefEqProofs only [go_sem]) (by simp -implicitDefEqProofs only [go_sem]) (by simp -implicitDefEqProofs only [go_sem]) rfl ?_
 simp -implicitDefEqProofs only [go_sem]
 refine callF (HL) (by simp -implicitDefEqProofs only [go_sem]) ?_
 simp -implicitDefEqProofs only [go_sem]
 refine ⟨fun h => by simp at h, fun _ => ?_⟩
 refine callF (HT) (by simp -implicitDefEqProofs only [go_sem]) ?_
 simp -implicitDefEqProofs only [go_sem]
 refine callF (HI) (by simp -implicitDefEqProofs only [go_sem]) ?_
 simp -implicitDefEqProofs only [go_sem]
 refine callF (HF) (by simp -implicitDefEqProofs only [go_sem, zbg, beq_self_eq_true, bne_self_eq_false, Bool.not_true, n2]) ?_
 simp -implicitDefEqProofs only [go_sem, zbg, beq_self_eq_true, bne_self_eq_false, Bool.not_true, n2]
 refine callF (HL) (by simp -implicitDefEqProofs only [go_sem]) ?_
 simp -implicitDefEqProofs only [go_sem]
 refine ⟨fun h => by simp at h, fun _ => trivial⟩
end Go.Proofs.YtmhbmpbgpjljeaaGreat
