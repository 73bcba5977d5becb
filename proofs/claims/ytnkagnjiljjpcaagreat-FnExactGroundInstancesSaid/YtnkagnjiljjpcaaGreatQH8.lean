/-
  The walk over plain data, and contracts of functions of the program and of its laws.
  Conditions: those that each theorem names.
-/
import Derived.Test.YtnkagnjiljjpcaaGreatQH7
import Derived.Test.YtnkagnjiljjpcaaGreatQH6
import Derived.Test.YtnkagnjiljjpcaaGreatQH5
import Derived.Test.YtnkagnjiljjpcaaGreatQH4
namespace Go.Proofs.YtnkagnjiljjpcaaGreat
set_option linter.unusedSimpArgs false
set_option linter.unusedVariables false
set_option linter.unusedSectionVars false
set_option maxRecDepth 4000
open Go.RowKit
noncomputable def mkC (ls : List Li) : Cq := ⟨zv2 (zux ls)⟩
noncomputable def zjs (ls : List Li) : Bool := ls.all (fun l => l.atom.atomOk) && (mkC ls).ok
noncomputable def ifC (c : Cq) (b : Bool) : Cq := if b = true then c else ⟨[]⟩
theorem qjh {α : Type} (f : α -> Nat) {a b : List α} (h : a.Sublist b) : (a.map f).sum <= (b.map f).sum := by
 induction h with
 | slnil => exact Nat.le_refl _
 | cons x _ ih => simp; omega
 | cons_cons x _ ih => simp; omega
theorem zz2 {a b : List Nat} (h : a.Perm b) : a.sum = b.sum := by
 induction h with
 | nil => rfl
 | cons x _ ih => simp [ih]
 | swap x y l => simp; omega
 | trans _ _ i1 i2 => exact i1.trans i2
theorem zoe (ls : List Li) : (mkC ls).wt <= zd8 ls := by
 have h1 := (zmd (zux ls)).length_le
 have h2 := qjh Li.wt (zmd (zux ls))
 have h3 := (zec ls).length_eq
 have h4 : ((zux ls).map Li.wt).sum = (ls.map Li.wt).sum := zz2 ((zec ls).map Li.wt)
 show (zv2 (zux ls)).length + ((zv2 (zux ls)).map Li.wt).sum <= ls.length + (ls.map Li.wt).sum
 omega
theorem zv9 (c : Cq) (hw : c.wt <= 1048576) : GC Tryz.prog 131 [(true, cqD c)] [cqD (ifC c c.ok), bD c.ok] := by
 have H := zea c hw
 simp only [cqD, zaw] at H ⊢
 cases hc : c.ok
 ·rw [hc] at H
  refine zuv Tryz.call131 Tryz.func131 rfl (by kernel_rfl) (by simp only [List.length_cons, List.length_nil, Tryz.ntmps131]; omega) (by simp [zbz, T.isPin]) ?_
  simp -implicitDefEqProofs only [go_sem, Tryz.results131]
  refine callF (H) (by simp -implicitDefEqProofs only [go_sem]) ?_
  simp -implicitDefEqProofs only [go_sem]
  exact Or.inl rfl
 ·rw [hc] at H
  refine zuv Tryz.call131 Tryz.func131 rfl (by kernel_rfl) (by simp only [List.length_cons, List.length_nil, Tryz.ntmps131]; omega) (by simp [zbz, T.isPin]) ?_
  simp -implicitDefEqProofs only [go_sem, Tryz.results131]
  refine callF (H) (by simp -implicitDefEqProofs only [go_sem]) ?_
  simp -implicitDefEqProofs only [go_sem]
  exact Or.inl rfl
theorem zn5 (ls : List Li) (hw : zd8 ls <= 1048576) : FC Tryz.prog 78 [.one (liS ls)] [cqD (ifC (mkC ls) (zjs ls)), bD (zjs ls)] := by
 have hlw : ∀ l ∈ ls, l.wt <= 1048576 := fun l hl => by
  have := zb1 Li.wt ls l hl
  unfold zd8 at hw; omega
 have hlen : ls.length <= 1048576 := by unfold zd8 at hw; omega
 have HCo := zd7 ls (fun l => !l.atom.atomOk) 130 [] fun l hl => zk7 l (hlw l hl)
 cases hv : ls.all fun l => l.atom.atomOk
 ·have hany : (ls.any fun l => !l.atom.atomOk) = true := by
   rw [List.any_eq_true]
   obtain ⟨l, hl, h⟩ := List.all_eq_false.1 hv
   exact ⟨l, hl, by simpa using h⟩
  rw [hany] at HCo
  have hm : zjs ls = false := by unfold zjs; rw [hv]; rfl
  rw [hm]
  simp only [cqD, zaw, ifC]
  refine zda Tryz.call78 Tryz.func78 rfl (by kernel_rfl) (za4 (by kernel_rfl)) ?_
  simp -implicitDefEqProofs only [go_sem, Tryz.results78]
  refine callF (HCo) (by simp -implicitDefEqProofs only [go_sem]) ?_
  simp -implicitDefEqProofs only [go_sem]
 ·have hany : (ls.any fun l => !l.atom.atomOk) = false := by
   rw [List.any_eq_false]
   intro l hl
   simp [List.all_eq_true.1 hv l hl]
  rw [hany] at HCo
  have hm : zjs ls = (mkC ls).ok := by unfold zjs; rw [hv, Bool.true_and]
  have HC := zvl ls (fun l hl => zrd (List.all_eq_true.1 hv l hl)) hlw hlen
  have HI := zv9 (mkC ls) (Nat.le_trans (zoe ls) hw)
  rw [hm]
  simp only [cqD, zaw] at HC HI ⊢
  have e0 : (mkC ls).lits = zv2 (zux ls) := rfl
  rw [e0] at HI
  refine zda Tryz.call78 Tryz.func78 rfl (by kernel_rfl) (za4 (by kernel_rfl)) ?_
  simp -implicitDefEqProofs only [go_sem, Tryz.results78]
  refine callF (HCo) (by simp -implicitDefEqProofs only [go_sem]) ?_
  simp -implicitDefEqProofs only [go_sem]
  refine callF (HC) (by simp -implicitDefEqProofs only [go_sem]) ?_
  simp -implicitDefEqProofs only [go_sem]
  refine ze7 [2, 3] [8] [] (HI) (by simp -implicitDefEqProofs only [go_sem]) (by simp -implicitDefEqProofs only [go_sem]) (by simp -implicitDefEqProofs only [go_sem]) (by simp -implicitDefEqProofs only [go_sem]) ?_
  simp -implicitDefEqProofs only [go_sem]
end Go.Proofs.YtnkagnjiljjpcaaGreat
namespace Go.Proofs.YtnkagnjiljjpcaaGreat
set_option linter.unusedSimpArgs false
set_option linter.unusedVariables false
set_option linter.unusedSectionVars false
set_option maxRecDepth 4000
open Go.RowKit
variable {X : Type}
def zd4 (st : X -> List Tm -> Bool × X) : List Tm -> X -> List Tm -> Bool × X
 | [], x, _ => (true, x)
 | t :: ts, x, l => if (st x (l ++ [t])).1 = true then zd4 st ts (st x (l ++ [t])).2 l else (false, (st x (l ++ [t])).2)
def ze4 (ts : List Tm) : Nat -> (X -> List Tm -> Bool × X) -> X -> Bool × X
 | 0, st, x => st x []
 | n + 1, st, x => ze4 ts n (zd4 st ts) x
structure SeeC (P : Program) (f : FuncId) (caps : List Value) (JR : X -> Hj -> Prop) (R0 : Nat -> Prop) (Inv : X -> Prop) (okl : List Tm -> Prop) (st : X -> List Tm -> Bool × X) : Prop where
 cal : zaz P f
 r0 : ∀ x J, JR x J -> J.R = R0
 good : ∀ x J, JR x J -> GoodJ J
 inv : ∀ x l, Inv x -> okl l -> (st x l).1 = true -> Inv (st x l).2
 call : ∀ x J l, JR x J -> Inv x -> okl l -> ∀ w v, J.I w -> (∀ y, J.F y -> y < w.heap.size) -> (∀ y, J.R y -> y < w.heap.size) -> zah w (fun b => b < w.heap.size /\ ¬ J.F b) (tmS l) v →
  Calls P f ⟨v :: caps⟩ w fun e w' => ∃ J', e = .returned (.bool (st x l).1) /\ JR (st x l).2 J' /\ EndJ J w J' w'
section
variable {P : Program} {N : Nat} {ops : Array Oper} {i : Nat} {σ : St} {K : St -> Hj -> Prop} {f : FuncId} {caps : List Value} {JR : X -> Hj -> Prop} {R0 : Nat -> Prop} {Inv : X -> Prop} {okl : List Tm -> Prop} {st : X -> List Tm -> Bool × X}
theorem zc0.see (S : SeeC P f caps JR R0 Inv okl st) {d : Nat} {q : Operand} {asx : Array Operand} {ts : Array TypeId} {ty : TypeId} {ps : String} {af : Array Edge} {E : Nat -> Prop} {C : World -> Prop} (hk : zp2 E C) {J : Hj} {x : X} {l : List Tm} {V : V}
  (hl : ops[i]? = some ⟨some d, .call ⟨.value q, asx, ts⟩, ty, ps, af, none⟩) (hd : d < N) (hx : JR x J) (hi : Inv x) (ho : okl l) (hq : σ.get P 0 q = .one (.t (.cl f caps))) (ha : σ.gets P asx ts = [V])
  (hv : ∀ n1 g a w v, Rel n1 N σ g a w -> LtK n1 w -> OkJ (J.wide E C) n1 g.A0 w -> VR σ g w V v -> zah w (fun b => b < w.heap.size /\ ¬ J.F b) (tmS l) v)
  (k : ∀ J2, JR (st x l).2 J2 -> zc0 P N ops (i + 1) (σ.put (some d) (.one (.t (.bool (st x l).1)))) (J2.wide E C) K) : zc0 P N ops i σ (J.wide E C) K := by
 refine zc0.call (fun b J' => ∃ J2, b = (st x l).1 /\ JR (st x l).2 J2 /\ J' = J2.wide E C) hl hd (fun n1 g a w hR hn hJ => ?_) fun b J' hb => ?_
 ·obtain ⟨us, h1, h2⟩ := zo8 (P := P) hR (o := ⟨some d, .call ⟨.value q, asx, ts⟩, ty, ps, af, none⟩) rfl hq S.cal
  rw [ha] at h2
  obtain ⟨u, _, rfl, h2, rfl⟩ := h2
  refine ⟨f, _, h1, ?_⟩
  refine (S.call x J l hx hi ho w u hJ.I.1 (fun y hy => hn y (hJ.F y hy).1) (fun y hy => hn y (hJ.R y (Or.inl hy))) (hv n1 g a w u hR hn hJ h2)).mono ?_
  rintro e w' ⟨J', rfl, h3, h4⟩
  exact ⟨_, _, rfl, ⟨J', rfl, h3, rfl⟩, Hj.wide_end h4 (fun y hy => ⟨hn y (hJ.R y (Or.inr hy)), hJ.good.dis y (Or.inr hy)⟩) hk hJ.I.2⟩
 ·obtain ⟨J2, rfl, h2, rfl⟩ := hb
  exact k J2 h2
end
end Go.Proofs.YtnkagnjiljjpcaaGreat
namespace Go.Proofs.YtnkagnjiljjpcaaGreat
set_option linter.unusedSimpArgs false
set_option linter.unusedVariables false
set_option linter.unusedSectionVars false
set_option maxRecDepth 4000
open Go.RowKit
variable {X : Type}
theorem zv4 {st : X -> List Tm -> Bool × X} {ts : List Tm} {k : Nat} (h : k < ts.length) (x : X) (l : List Tm) : zd4 st (ts.drop k) x l = if (st x (l ++ [ts[k]])).1 = true then zd4 st (ts.drop (k + 1)) (st x (l ++ [ts[k]])).2 l else (false, (st x (l ++ [ts[k]])).2) := by
 rw [List.drop_eq_getElem_cons h, zd4]
theorem zw4 {st : X -> List Tm -> Bool × X} {ts : List Tm} {k : Nat} (h : ¬ k < ts.length) (x : X) (l : List Tm) : zd4 st (ts.drop k) x l = (true, x) := by
 rw [List.drop_eq_nil_of_le (by omega), zd4]
set_option maxHeartbeats 4000000 in
theorem zr0 {f : FuncId} {caps : List Value} {JR : X -> Hj -> Prop} {R0 : Nat -> Prop} {Inv : X -> Prop} {okl : List Tm -> Prop} {st : X -> List Tm -> Bool × X} (S : SeeC Tryz.prog f caps JR R0 Inv okl st) {E : Nat -> Prop} {C : World -> Prop} (hk : zp2 E C)
  {fl ft : List (List T)} {l ts : List Tm} (hC : ∀ w, C w -> zbn w E fl l /\ zbn w E ft ts) (hcf : ∀ c ∈ fl.flatten, c.flat = true) (hsh : ∀ r ∈ ft, ∃ s ao n c, r = [.str s, .vs ao n c]) (hfl : fl.length = l.length) (hft : ft.length = ts.length) (hl : l.length <= 1048576) (ht : ts.length <= 1048576) {x : X} {J : Hj} (hx : JR x J) (hi : Inv x) (ho : ∀ t ∈ ts, okl (l ++ [t])) :
  JC Tryz.prog 127 [.one (.sl 2 fl), .one (.ptr [.sl 2 ft]), .one (.ptr [.cl f caps])] (J.wide E C) (fun b J' => ∃ J2, b = (zd4 st ts x l).1 /\ JR (zd4 st ts x l).2 J2 /\ J' = J2.wide E C) := by
 refine qje Tryz.call127 Tryz.func127 rfl (za4 (by kernel_rfl)) ?_ ?_
 ·rintro b J' ⟨J2, _, h2, rfl⟩ y hy
  rcases hy with hy | hy
  ·exact Or.inl (by rw [S.r0 x J hx]; rw [S.r0 _ J2 h2] at hy; exact hy)
  ·exact Or.inr hy
 have HCl := qaz fl (by omega) hcf
 refine za9.cut 0 rfl (by kernel_rfl) ?_
 simp -implicitDefEqProofs only [go_sem, Tryz.results127]
 refine za9.seq ?_
 refine za9.cut 0 rfl (by kernel_rfl) ?_
 simp -implicitDefEqProofs only [go_sem]
 refine za9.block ?_
 refine za9.loop (fun z : Nat × X × Hj => hd [(0, vT (.sl 2 fl)), (1, vT (.ptr [.sl 2 ft])), (2, vT (.ptr [.cl f caps])), (7, vT (.sl 2 ft)), (8, vI ts.length), (9, vI z.1)] [] []) (fun z => z.2.2.wide E C)
  (fun z => z.1 <= ts.length /\ JR z.2.1 z.2.2 /\ Inv z.2.1 /\ zd4 st ts x l = zd4 st (ts.drop z.1) z.2.1 l) (fun z => ts.length - z.1) (0, x, J) (zab ?_) rfl ⟨Nat.zero_le _, hx, hi, rfl⟩ ?_
 ·simp -implicitDefEqProofs only [go_sem, hft]
 rintro ⟨k, y, J1⟩ ⟨hk1, hy, hiy, heq⟩
 simp only at hk1 hy hiy heq ⊢
 by_cases hlt : k < ts.length
 ·obtain ⟨s, ao, n, c, hrow⟩ := hsh ft[k] (List.getElem_mem (by omega))
  have hget : ft.getD k [] = [.str s, .vs ao n c] := by rw [List.getD_eq_getElem?_getD, List.getElem?_eq_getElem (by omega)]; exact hrow
  refine za9.cut 1 rfl (by kernel_rfl) ?_
  simp -implicitDefEqProofs only [go_sem, hlt]
  refine za9.seq ?_
  refine za9.block ?_
  refine za9.cut 0 rfl (by kernel_rfl) ?_
  simp -implicitDefEqProofs only [go_sem, hft, hlt, hget]
  refine za9.seq (za9.drawn 6 (by kernel_rfl) (by kernel_rfl) (by kernel_rfl) ?_)
  simp -implicitDefEqProofs only [go_sem]
  refine zax (HCl) (by simp -implicitDefEqProofs only [go_sem]) ?_
  simp -implicitDefEqProofs only [go_sem]
  refine zbh (by simp -implicitDefEqProofs only [go_sem]) ?_
  simp -implicitDefEqProofs only [go_sem]
  have hfl2 : fl.length <= 4294967295 := by omega
  refine zhq true (by simp -implicitDefEqProofs only [go_sem, hfl2, ne_eq, not_false_eq_true]) ?_
  simp -implicitDefEqProofs only [go_sem, hfl2, ne_eq, not_false_eq_true]
  refine ⟨by kernel_rfl, ?_⟩
  have hFT : ∀ w, C w -> zit w E [.str s, .vs ao n c] ts[k] := fun w hw => by
   have := (hC w hw).2.at k (by omega) hlt
   rw [hrow] at this
   exact this
  have hto : okl (l ++ [ts[k]]) := ho _ (List.getElem_mem hlt)
  refine zc0.see S hk (x := y) (l := l ++ [ts[k]]) rfl (by simp only [Tryz.ntmps127]; omega) hy hiy hto (by simp -implicitDefEqProofs only [go_sem]) (by simp -implicitDefEqProofs only [go_sem]; rfl) (fun n1 g a w v hR hn hJ hv => ?_) fun J2 hJ2 => ?_
  ·simp only [VR, CR] at hv
   obtain ⟨rfl, -⟩ := hv
   have hA := qj3 (N := Tryz.f127.ntmps) hR hn hJ (e := 480) (by simp -implicitDefEqProofs only [go_sem]; rfl) rfl rfl
   have hF := hC w hJ.I.2
   exact hA.deepL (A' := E) (fun b hb => hb) (fun b hb => ⟨hn b (hJ.R b (Or.inr hb)), hJ.good.dis b (Or.inr hb)⟩) (hF.1.snoc (hFT w hJ.I.2))
  ·refine zc0.plain 1 (by decide) rfl (by kernel_rfl) ?_
   simp -implicitDefEqProofs only [go_sem]
   refine zc0.done rfl ?_
   simp -implicitDefEqProofs only [go_sem]
   rw [zv4 hlt] at heq
   have hinv := S.inv y _ hiy hto
   cases hb : (st y (l ++ [ts[k]])).1
   ·rw [hb, if_neg (by simp)] at heq
    refine za9.ofEx (by kernel_rfl) ?_
    simp -implicitDefEqProofs only [go_sem, Bool.not_false, hb]
    exact ⟨false, by simp -implicitDefEqProofs only [go_sem], J2, by rw [heq], by rw [heq]; exact hJ2, rfl⟩
   ·rw [hb, if_pos rfl] at heq
    refine za9.ofEx (by kernel_rfl) ?_
    simp -implicitDefEqProofs only [go_sem, Bool.not_true, hb]
    refine za9.ofEx (by kernel_rfl) ?_
    simp -implicitDefEqProofs only [go_sem]
    refine ⟨(k + 1, (st y (l ++ [ts[k]])).2, J2), ⟨by simp only; omega, hJ2, hinv hb, heq⟩, by simp only; omega, rfl, zab ?_⟩
    simp -implicitDefEqProofs only [go_sem]
    rw [zan (by omega)]
 ·rw [zw4 hlt] at heq
  refine za9.cut 1 rfl (by kernel_rfl) ?_
  simp -implicitDefEqProofs only [go_sem, hlt]
  refine za9.ofEx (by kernel_rfl) ?_
  simp -implicitDefEqProofs only [go_sem]
  exact ⟨true, by simp -implicitDefEqProofs only [go_sem], J1, by rw [heq], by rw [heq]; exact hy, rfl⟩
end Go.Proofs.YtnkagnjiljjpcaaGreat
namespace Go.Proofs.YtnkagnjiljjpcaaGreat
set_option linter.unusedSimpArgs false
set_option linter.unusedVariables false
set_option linter.unusedSectionVars false
set_option maxRecDepth 4000
open Go.RowKit
variable {X : Type}
theorem zn1 {st : X -> List Tm -> Bool × X} {Inv : X -> Prop} {okl : List Tm -> Prop} (h : ∀ x l, Inv x -> okl l -> (st x l).1 = true -> Inv (st x l).2) : ∀ (ts : List Tm) (x : X) (l : List Tm), Inv x -> (∀ t ∈ ts, okl (l ++ [t])) -> (zd4 st ts x l).1 = true -> Inv (zd4 st ts x l).2
 | [], x, l, hi, _, _ => hi
 | t :: ts, x, l, hi, ho, hb => by
  rw [zd4] at hb ⊢
  by_cases hc : (st x (l ++ [t])).1 = true
  ·rw [if_pos hc] at hb ⊢
   exact zn1 h ts _ l (h x _ hi (ho t (by simp)) hc) (fun u hu => ho u (by simp [hu])) hb
  ·rw [if_neg hc] at hb
   cases hb
theorem zbn.shape {w : World} {A : Nat -> Prop} : ∀ {rs : List (List T)} {ts : List Tm}, zbn w A rs ts -> ∀ r ∈ rs, ∃ s ao n c, r = [.str s, .vs ao n c]
 | [], _, _, r, hr => by simp at hr
 | _ :: _, _, h, r, hr => by
  obtain ⟨t', ts, rfl, ⟨ao, l, c, rfl, _⟩, h2⟩ := h
  rcases List.mem_cons.1 hr with rfl | hr
  ·exact ⟨_, ao, l, c, rfl⟩
  ·exact zbn.shape h2 r hr
theorem SeeC.up {f : FuncId} {caps : List Value} {JR : X -> Hj -> Prop} {R0 : Nat -> Prop} {Inv : X -> Prop} {okl : List Tm -> Prop} {st : X -> List Tm -> Bool × X} (S : SeeC Tryz.prog f caps JR R0 Inv okl st) {E : Nat -> Prop} {C : World -> Prop} (hk : zp2 E C)
  {ft : List (List T)} {ts : List Tm} (ht : ts.length <= 1048576) {p3 p5 : Value} (hC : ∀ w, C w -> zah w E (.ptr [.sl 2 ft]) p3 /\ zbn w E ft ts /\ zah w E (.ptr [.cl f caps]) p5) :
  SeeC Tryz.prog 127 [p3, p5] (fun x J' => ∃ J, JR x J /\ (∀ y, E y -> ¬ J.F y) /\ J' = J.wide E C) (fun y => R0 y \/ E y) Inv (fun l => l.length <= 1048576 /\ ∀ t ∈ ts, okl (l ++ [t])) (zd4 st ts) := by
 refine ⟨Tryz.call127, ?_, ?_, fun x l hi ho hb => zn1 S.inv ts x l hi ho.2 hb, ?_⟩
 ·rintro x _ ⟨J, h1, h2, rfl⟩
  funext y
  show (J.R y \/ E y) = _
  rw [S.r0 x J h1]
 ·rintro x _ ⟨J, h1, h2, rfl⟩
  exact Hj.wide_good (S.good x J h1) h2 hk
 ·rintro x _ l ⟨J, h1, h2, rfl⟩ hi ⟨hl, ho⟩ w v hI hF hR hv
  have hF : ∀ y, J.F y -> y < w.heap.size := hF
  have hR : ∀ y, J.R y \/ E y -> y < w.heap.size := hR
  obtain ⟨hI, hc⟩ := hI
  obtain ⟨r3, rt, r5⟩ := hC w hc
  have hv : zah w (fun b => b < w.heap.size /\ ¬ J.F b) (tmS l) v := hv
  obtain ⟨fl, v1, v2⟩ := hv.flatL
  have hEE : ∀ y, E y -> y < w.heap.size /\ ¬ J.F y := fun y hy => ⟨hR y (Or.inr hy), h2 y hy⟩
  have hk2 : zp2 (fun b => b < w.heap.size /\ ¬ J.F b) (fun w' => zbn w' (fun b => b < w.heap.size /\ ¬ J.F b) fl l /\ zbn w' (fun b => b < w.heap.size /\ ¬ J.F b) ft ts) := fun a b hs h => ⟨h.1.keep hs fun _ q => q, h.2.keep hs fun _ q => q⟩
  have hc2 : zbn w (fun b => b < w.heap.size /\ ¬ J.F b) fl l /\ zbn w (fun b => b < w.heap.size /\ ¬ J.F b) ft ts := ⟨v2, rt.keep (fun _ _ => rfl) hEE⟩
  have H := zr0 S hk2 (fun w hw => hw) v2.flat rt.shape v2.len rt.len hl ht h1 hi ho
  have hgJ := S.good x J h1
  refine (H.2 w [v, p3, p5] (fun b => b < w.heap.size /\ ¬ J.F b) (Hj.wide_good hgJ (fun y hy => hy.2) hk2) ⟨hI, hc2⟩ (fun y hy => ⟨hF y hy, fun q => q.2 hy⟩) (fun y hy => hy.elim (fun q => hR y (Or.inl q)) fun q => q.1) ?_).mono ?_
  ·refine ⟨v, _, rfl, zah.keep (fun _ _ => rfl) (fun b hb => ⟨hb.1, hb⟩) _ _ v1, p3, _, rfl, zah.keep (fun _ _ => rfl) (fun b hb => ⟨(hEE b hb).1, hEE b hb⟩) _ _ r3, p5, _, rfl, zah.keep (fun _ _ => rfl) (fun b hb => ⟨(hEE b hb).1, hEE b hb⟩) _ _ r5, rfl⟩
  ·rintro e w' ⟨b, _, rfl, ⟨J2, rfl, k1, rfl⟩, k2⟩
   have hEnd : EndJ J w J2 w' := Hj.wide_drop k2 (S.good _ J2 k1) (fun y hy => by rw [S.r0 x J h1]; rw [S.r0 _ J2 k1] at hy; exact hy)
   exact ⟨J2.wide E C, rfl, ⟨J2, k1, fun y hy hf => (hEnd.F y hf).1.elim (h2 y hy) fun q => by have := (hEE y hy).1; omega, rfl⟩, Hj.wide_end hEnd hEE hk hc⟩
section
variable {P : Program} {N : Nat} {ops : Array Oper} {i : Nat} {σ : St} {K : St -> Hj -> Prop} {f : FuncId} {caps : List Value} {JR : X -> Hj -> Prop} {R0 : Nat -> Prop} {Inv : X -> Prop} {okl : List Tm -> Prop} {st : X -> List Tm -> Bool × X}
theorem zc0.see0 (S : SeeC P f caps JR R0 Inv okl st) {d : Nat} {q : Operand} {asx : Array Operand} {ts : Array TypeId} {ty : TypeId} {ps : String} {af : Array Edge} {J : Hj} {x : X} {l : List Tm} {V : V}
  (hl : ops[i]? = some ⟨some d, .call ⟨.value q, asx, ts⟩, ty, ps, af, none⟩) (hd : d < N) (hx : JR x J) (hi : Inv x) (ho : okl l) (hq : σ.get P 0 q = .one (.t (.cl f caps))) (ha : σ.gets P asx ts = [V])
  (hv : ∀ n1 g a w v, Rel n1 N σ g a w -> LtK n1 w -> OkJ J n1 g.A0 w -> VR σ g w V v -> zah w (fun b => b < w.heap.size /\ ¬ J.F b) (tmS l) v)
  (k : ∀ J2, JR (st x l).2 J2 -> zc0 P N ops (i + 1) (σ.put (some d) (.one (.t (.bool (st x l).1)))) J2 K) : zc0 P N ops i σ J K := by
 refine zc0.call (fun b J' => b = (st x l).1 /\ JR (st x l).2 J') hl hd (fun n1 g a w hR hn hJ => ?_) fun b J' hb => ?_
 ·obtain ⟨us, h1, h2⟩ := zo8 (P := P) hR (o := ⟨some d, .call ⟨.value q, asx, ts⟩, ty, ps, af, none⟩) rfl hq S.cal
  rw [ha] at h2
  obtain ⟨u, _, rfl, h2, rfl⟩ := h2
  refine ⟨f, _, h1, ?_⟩
  refine (S.call x J l hx hi ho w u hJ.I (fun y hy => hn y (hJ.F y hy).1) (fun y hy => hn y (hJ.R y hy)) (hv n1 g a w u hR hn hJ h2)).mono ?_
  rintro e w' ⟨J', rfl, h3, h4⟩
  exact ⟨_, _, rfl, ⟨rfl, h3⟩, h4⟩
 ·obtain ⟨rfl, h2⟩ := hb
  exact k J' h2
end
theorem qfd {P : Program} {N : Nat} {n0 : Nat -> Prop} {σ : St} {g : Gh} {a : Act} {w : World} (hR : Rel n0 N σ g a w) {f : FuncId} (hf : zaz P f) {o : Oper} {x : Operand} {asx : Array Operand} {ts : Array TypeId} {cvs : List V} {Q : Ending -> World -> Prop} (ho : o.op = .call ⟨.value x, asx, ts⟩)
  (hc : zau (σ.get P 0 x) = some (f, cvs)) (k : ∀ vs, VRl σ g w (σ.gets P asx ts ++ cvs) vs -> Calls P f ⟨vs⟩ w Q) : ∃ f vs, (execOp a.eval o).run P w = .ok (.enter f vs) w /\ Calls P f vs w Q := by
 obtain ⟨vs, h1, h2⟩ := zcy hR ho hc hf
 exact ⟨f, _, h1, k vs h2⟩
theorem zu8 {N : Nat} {f : FuncId} {caps : List Value} {JR : X -> Hj -> Prop} {R0 : Nat -> Prop} {Inv : X -> Prop} {okl : List Tm -> Prop} {st : X -> List Tm -> Bool × X} (S : SeeC Tryz.prog f caps JR R0 Inv okl st) {ts : List Tm} (ht : ts.length <= 1048576) {n : Nat}
  (ih : n <= 1048576 -> ∀ {f : FuncId} {caps : List Value} {JR : X -> Hj -> Prop} {R0 : Nat -> Prop} {Inv : X -> Prop} {okl : List Tm -> Prop} {st : X -> List Tm -> Bool × X}, SeeC Tryz.prog f caps JR R0 Inv okl st -> (∀ l : List Tm, l.length = n -> (∀ t ∈ l, t ∈ ts) -> okl l) -> ∀ {x : X} {J : Hj}, JR x J -> Inv x →
   JC Tryz.prog 75 [.one (tmS ts), .one (.int .i64 n), .one (.cl f caps)] J (fun b J' => b = (ze4 ts n st x).1 /\ JR (ze4 ts n st x).2 J'))
  (hn : n + 1 <= 1048576) (hok : ∀ l : List Tm, l.length = n + 1 -> (∀ t ∈ l, t ∈ ts) -> okl l) {x : X} {J : Hj} (hx : JR x J) (hi : Inv x)
  {n1 : Nat -> Prop} {σ : St} {g : Gh} {a : Act} {w : World} (hR : Rel n1 N σ g a w) (hn1 : LtK n1 w) (hJ : OkJ J n1 g.A0 w) {o : Oper} {q : Operand} {asx : Array Operand} {tys : Array TypeId} (ho : o.op = .call ⟨.value q, asx, tys⟩)
  (hc : zau (σ.get Tryz.prog 0 q) = some (75, [])) (ha : σ.gets Tryz.prog asx tys = [.one (.t (tmS ts)), .one (.t (.int .i64 n)), .one (.fn 127 [3, 5])]) (h3 : σ.bx 3 = some [.t (tmS ts)]) (h5 : σ.bx 5 = some [.t (.cl f caps)]) :
  ∃ f vs, (execOp a.eval o).run Tryz.prog w = .ok (.enter f vs) w /\ Calls Tryz.prog f vs w fun e w' => ∃ b J', e = .returned (.bool b) /\ (b = (ze4 ts (n + 1) st x).1 /\ JR (ze4 ts (n + 1) st x).2 J') /\ EndJ J w J' w' := by
 refine qfd hR Tryz.call75 (cvs := []) ho hc fun vs hvs => ?_
 rw [ha] at hvs
 obtain ⟨v1, _, rfl, q1, v2, _, rfl, q2, v3, _, rfl, q3, rfl⟩ := hvs
 simp only [VR, CR] at q1 q2 q3
 obtain ⟨rfl, -⟩ := q3
 obtain ⟨c3, ty3, m3, k3⟩ := hR.boxes 3 _ h3
 obtain ⟨c5, ty5, m5, k5⟩ := hR.boxes 5 _ h5
 obtain ⟨c3⟩ := c3
 obtain ⟨c5⟩ := c5
 obtain ⟨u3, _, rfl, k3, rfl⟩ := k3
 obtain ⟨u5, _, rfl, k5, rfl⟩ := k5
 obtain ⟨ft, f1, f2⟩ := zah.flatL (show zah w (Fix σ g w) (tmS ts) u3 from k3)
 have k5 : zah w (Fix σ g w) (.cl f caps) u5 := k5
 have b3 : ¬ n1 (g.β 3) := hR.base 3 (by rw [h3]; simp)
 have b5 : ¬ n1 (g.β 5) := hR.base 5 (by rw [h5]; simp)
 have l3 : g.β 3 < w.heap.size := hR.lt (by rw [h3]; simp)
 have l5 : g.β 5 < w.heap.size := hR.lt (by rw [h5]; simp)
 have e3 : w.cell? ⟨g.β 3, 0, none⟩ = some u3 := by simp [World.cell?, m3]
 have e5 : w.cell? ⟨g.β 5, 0, none⟩ = some u5 := by simp [World.cell?, m5]
 have hE : ∀ b, (Fix σ g w b \/ b = g.β 3 \/ b = g.β 5) -> b < w.heap.size /\ ¬ J.F b := by
  rintro b (hb | rfl | rfl)
  ·exact ⟨hb.2.2.1, fun hF => (hJ.F b hF).2 hb.2.2.2⟩
  ·exact ⟨l3, fun hF => b3 (hJ.F _ hF).1⟩
  ·exact ⟨l5, fun hF => b5 (hJ.F _ hF).1⟩
 generalize hEd : (fun b => Fix σ g w b \/ b = g.β 3 \/ b = g.β 5) = E at *
 have hFE : ∀ b, Fix σ g w b -> E b := fun b hb => by rw [<- hEd]; exact Or.inl hb
 have hE3 : E (g.β 3) := by rw [<- hEd]; exact Or.inr (Or.inl rfl)
 have hE5 : E (g.β 5) := by rw [<- hEd]; exact Or.inr (Or.inr rfl)
 have hE : ∀ b, E b -> b < w.heap.size /\ ¬ J.F b := fun b hb => hE b (by rw [<- hEd] at hb; exact hb)
 have hk : zp2 E (fun w' => zah w' E (.ptr [.sl 2 ft]) (.pointer (some ⟨g.β 3, 0, none⟩)) /\ zbn w' E ft ts /\ zah w' E (.ptr [.cl f caps]) (.pointer (some ⟨g.β 5, 0, none⟩))) := fun a b hs h => ⟨zah.keep hs (fun _ q => q) _ _ h.1, h.2.1.keep hs fun _ q => q, zah.keep hs (fun _ q => q) _ _ h.2.2⟩
 have hc0 : zah w E (.ptr [.sl 2 ft]) (.pointer (some ⟨g.β 3, 0, none⟩)) /\ zbn w E ft ts /\ zah w E (.ptr [.cl f caps]) (.pointer (some ⟨g.β 5, 0, none⟩)) := by
  refine ⟨?_, f2.keep (fun _ _ => rfl) hFE, ?_⟩
  ·unfold zah
   exact ⟨_, 0, rfl, hE3, ⟨u3, e3, zah.keep (fun _ _ => rfl) hFE _ _ f1⟩, trivial⟩
  ·unfold zah
   exact ⟨_, 0, rfl, hE5, ⟨u5, e5, zah.keep (fun _ _ => rfl) hFE _ _ k5⟩, trivial⟩
 have S' := S.up hk ht (fun w hw => hw)
 have H := ih (by omega) S' (fun l hl hm => ⟨by omega, fun t htt => hok _ (by simp [hl]) fun q hq => by
  rcases List.mem_append.1 hq with h | h
  ·exact hm q h
  ·rw [List.mem_singleton.1 h]; exact htt⟩) (x := x) (J := J.wide E _) ⟨J, hx, fun y hy => (hE y hy).2, rfl⟩ hi
 refine (H.2 w [v1, v2, _] E (S'.good x _ ⟨J, hx, fun y hy => (hE y hy).2, rfl⟩) ⟨hJ.I, hc0⟩ (fun y hy => ⟨hn1 y (hJ.F y hy).1, fun q => (hE y q).2 hy⟩) (fun y hy => hy.elim (fun q => hn1 y (hJ.R y q)) fun q => (hE y q).1) ?_).mono ?_
 ·refine ⟨v1, _, rfl, zah.keep (fun _ _ => rfl) (fun b hb => ⟨(hE b (hFE b hb)).1, hFE b hb⟩) _ _ q1, v2, _, rfl, zah.keep (fun _ _ => rfl) (fun b hb => ⟨(hE b (hFE b hb)).1, hFE b hb⟩) _ _ q2, _, _, rfl, ?_, rfl⟩
  show zah _ _ _ _
  unfold zah
  rfl
 ·rintro e w' ⟨b, _, rfl, ⟨rfl, J2, r1, r2, rfl⟩, r3⟩
  refine ⟨_, J2, rfl, ⟨rfl, r1⟩, Hj.wide_drop r3 (S.good _ J2 r1) fun y hy => ?_⟩
  rw [S.r0 x J hx]; rw [S.r0 _ J2 r1] at hy; exact hy
set_option maxHeartbeats 4000000 in
theorem zrw (ts : List Tm) (ht : ts.length <= 1048576) : ∀ (n : Nat), n <= 1048576 -> ∀ {f : FuncId} {caps : List Value} {JR : X -> Hj -> Prop} {R0 : Nat -> Prop} {Inv : X -> Prop} {okl : List Tm -> Prop} {st : X -> List Tm -> Bool × X} (S : SeeC Tryz.prog f caps JR R0 Inv okl st)
  (hok : ∀ l : List Tm, l.length = n -> (∀ t ∈ l, t ∈ ts) -> okl l) {x : X} {J : Hj}, JR x J -> Inv x →
  JC Tryz.prog 75 [.one (tmS ts), .one (.int .i64 n), .one (.cl f caps)] J (fun b J' => b = (ze4 ts n st x).1 /\ JR (ze4 ts n st x).2 J') := by
 intro n
 induction n with
 | zero =>
  intro _ f caps JR R0 Inv okl st S hok x J hx hi
  refine qje Tryz.call75 Tryz.func75 rfl (za4 (by kernel_rfl)) ?_ ?_
  ·rintro b J' ⟨_, h2⟩ y hy
   rw [S.r0 x J hx]; rw [S.r0 _ J' h2] at hy; exact hy
  refine za9.cut 0 rfl (by kernel_rfl) ?_
  simp -implicitDefEqProofs only [go_sem, Tryz.results75]
  refine za9.seq ?_
  refine za9.cut 0 rfl (by kernel_rfl) ?_
  simp -implicitDefEqProofs only [go_sem]
  have e0 : (((0 : Nat) : Int) == 0) = true := by simp
  refine za9.cond (b := true) (by simp -implicitDefEqProofs only [go_sem, e0]) (fun _ => ?_) (fun h => by cases h)
  refine za9.seq (za9.region (zc0.plain 1 (by decide) rfl (by kernel_rfl) ?_))
  simp -implicitDefEqProofs only [go_sem]
  refine zc0.see0 S (x := x) (l := []) rfl (by simp only [Tryz.ntmps75]; omega) hx hi (hok [] rfl (by simp)) (by simp -implicitDefEqProofs only [go_sem]) (by simp -implicitDefEqProofs only [go_sem]; rfl) (fun n1 g a w v hR hn hJ hv => ?_) fun J2 hJ2 => ?_
  ·simp only [VR, CR] at hv
   subst hv
   unfold zah
   exact ⟨none, 0, rfl, Nat.zero_le _, by unfold zd2; omega, Or.inl rfl⟩
  ·refine zc0.plain 1 (by decide) rfl (by kernel_rfl) ?_
   simp -implicitDefEqProofs only [go_sem]
   refine zc0.done rfl ?_
   simp -implicitDefEqProofs only [go_sem]
   refine za9.ofEx (by kernel_rfl) ?_
   simp -implicitDefEqProofs only [go_sem]
   exact ⟨(st x []).1, by simp -implicitDefEqProofs only [go_sem], rfl, hJ2⟩
 | succ n ih =>
  intro hn f caps JR R0 Inv okl st S hok x J hx hi
  refine qje Tryz.call75 Tryz.func75 rfl (za4 (by kernel_rfl)) ?_ ?_
  ·rintro b J' ⟨_, h2⟩ y hy
   rw [S.r0 x J hx]; rw [S.r0 _ J' h2] at hy; exact hy
  refine za9.cut 0 rfl (by kernel_rfl) ?_
  simp -implicitDefEqProofs only [go_sem, Tryz.results75]
  refine za9.seq ?_
  refine za9.cut 0 rfl (by kernel_rfl) ?_
  simp -implicitDefEqProofs only [go_sem]
  have e0 : (((n + 1 : Nat) : Int) == 0) = false := by simp; omega
  refine za9.cond (b := false) (by simp -implicitDefEqProofs only [go_sem, e0]) (fun h => by cases h) fun _ => ?_
  refine za9.ofEx (by kernel_rfl) ?_
  simp -implicitDefEqProofs only [go_sem]
  refine za9.seq (za9.region (zc0.plain 4 (by decide) rfl (by kernel_rfl) ?_))
  have e1 : IntKind.i64.wrap (((n + 1 : Nat) : Int) - 1) = (n : Int) := by rw [zbt (by omega) (by omega)]; omega
  simp -implicitDefEqProofs only [go_sem, e1]
  refine zc0.call (fun b J' => b = (ze4 ts (n + 1) st x).1 /\ JR (ze4 ts (n + 1) st x).2 J') rfl (by simp only [Tryz.ntmps75]; omega) (fun n1 g a w hR hn1 hJ => ?_) fun b J' hb => ?_
  ·exact zu8 S ht ih (by omega) hok hx hi hR hn1 hJ rfl (by simp -implicitDefEqProofs only [go_sem]) (by simp -implicitDefEqProofs only [go_sem]) (by simp -implicitDefEqProofs only [go_sem]) (by simp -implicitDefEqProofs only [go_sem])
  ·obtain ⟨rfl, h2⟩ := hb
   refine zc0.plain 1 (by decide) rfl (by kernel_rfl) ?_
   simp -implicitDefEqProofs only [go_sem]
   refine zc0.done rfl ?_
   simp -implicitDefEqProofs only [go_sem]
   refine za9.ofEx (by kernel_rfl) ?_
   simp -implicitDefEqProofs only [go_sem]
   exact ⟨(ze4 ts (n + 1) st x).1, by simp -implicitDefEqProofs only [go_sem], rfl, h2⟩
end Go.Proofs.YtnkagnjiljjpcaaGreat
namespace Go.Proofs.YtnkagnjiljjpcaaGreat
set_option linter.unusedSimpArgs false
set_option linter.unusedVariables false
set_option linter.unusedSectionVars false
set_option maxRecDepth 4000
open Go.RowKit
variable {X : Type}
theorem zey.split {w : World} {bs : Nat -> Nat} : ∀ {b1 b2 : Bxs} {j : Nat} {bvs : List (List Value)}, zey w bs j bvs (b1 ++ b2) -> ∃ v1 v2, bvs = v1 ++ v2 /\ zey w bs j v1 b1 /\ zey w bs (j + b1.length) v2 b2
 | [], b2, j, bvs, h => ⟨[], bvs, rfl, by unfold zey; trivial, h⟩
 | b :: b1, b2, j, [], h => h.elim
 | b :: b1, b2, j, vs :: bvs, h => by
  obtain ⟨h1, h2, h3⟩ := h
  obtain ⟨v1, v2, rfl, k1, k2⟩ := zey.split h3
  exact ⟨vs :: v1, v2, rfl, ⟨h1, h2, k1⟩, by rw [List.length_cons, show j + (b1.length + 1) = j + 1 + b1.length by omega]; exact k2⟩
theorem zey.append {w : World} {bs : Nat -> Nat} : ∀ {b1 b2 : Bxs} {j : Nat} {v1 v2 : List (List Value)}, zey w bs j v1 b1 -> zey w bs (j + b1.length) v2 b2 -> zey w bs j (v1 ++ v2) (b1 ++ b2)
 | [], b2, j, [], v2, _, k => k
 | [], b2, j, _ :: _, v2, h, k => h.elim
 | b :: b1, b2, j, [], v2, h, _ => h.elim
 | b :: b1, b2, j, vs :: v1, v2, h, k => ⟨h.1, h.2.1, zey.append h.2.2 (by rw [List.length_cons, show j + (b1.length + 1) = j + 1 + b1.length by omega] at k; exact k)⟩
theorem zey.flatLen {w : World} {bs : Nat -> Nat} : ∀ {b : Bxs} {j : Nat} {vs : List (List Value)}, zey w bs j vs b -> vs.flatten.length = b.flatten.length
 | [], _, [], _ => rfl
 | [], _, _ :: _, h => h.elim
 | _ :: _, _, [], h => h.elim
 | _ :: _, _, _ :: _, h => by simp only [List.flatten_cons, List.length_append, h.1, zey.flatLen h.2.2]
theorem zdn {w w' : World} {A A' : Nat -> Prop} : ∀ {b : List (Bool × T)}, (∀ p ∈ b, p.1 = true) -> ∀ {vs : List Value} {fp tp : List Nat}, zas w A (bxA b) vs fp tp -> (∀ x ∈ fp, w'.heap[x]? = w.heap[x]?) -> zas w' A' (bxA b) vs fp tp
 | [], _, _, _, _, h, _ => h
 | (true, t) :: b, ht, _, _, _, h, hs => by
  obtain ⟨v, vs', f1, f2, t1, t2, rfl, rfl, rfl, h1, h2⟩ := h
  exact ⟨v, vs', f1, f2, t1, t2, rfl, rfl, rfl, ⟨zap.keep _ _ _ h1.1 fun x hx => hs x (by simp [hx]), h1.2⟩, zdn (fun p hp => ht p (by simp [hp])) h2 fun x hx => hs x (by simp [hx])⟩
 | (false, t) :: b, ht, _, _, _, _, _ => by have := ht (false, t) (by simp); cases this
theorem zm0 {w : World} {A : Nat -> Prop} : ∀ {b : List (Bool × T)}, (∀ p ∈ b, p.1 = true) -> ∀ {vs : List Value} {fp tp : List Nat}, zas w A (bxA b) vs fp tp -> ∀ x ∈ fp, x < w.heap.size
 | [], _, _, _, _, h, x, hx => by rw [h.2.1] at hx; simp at hx
 | (true, t) :: b, ht, _, _, _, h, x, hx => by
  obtain ⟨v, vs', f1, f2, t1, t2, rfl, rfl, rfl, h1, h2⟩ := h
  rcases List.mem_append.1 hx with q | q
  ·exact zap.lt _ _ _ h1.1 x q
  ·exact zm0 (fun p hp => ht p (by simp [hp])) h2 x q
 | (false, t) :: b, ht, _, _, _, _, _, _ => by have := ht (false, t) (by simp); cases this
theorem za3.cut {w : World} {A : Nat -> Prop} : ∀ {c : List T} {r : List D} {vs us : List Value}, vs.length = c.length -> za3 w A (c.map D.one ++ r) (vs ++ us) -> zac w A c vs /\ za3 w A r us
 | [], r, [], us, _, h => ⟨by unfold zac; rfl, h⟩
 | [], r, _ :: _, us, hl, _ => by simp at hl
 | _ :: _, r, [], us, hl, _ => by simp at hl
 | t :: c, r, v :: vs, us, hl, h => by
  obtain ⟨v', vs', e, h1, h2⟩ := h
  simp only [List.cons_append, List.cons.injEq] at e
  obtain ⟨rfl, rfl⟩ := e
  obtain ⟨k1, k2⟩ := za3.cut (by simpa using hl) h2
  exact ⟨by unfold zac; exact ⟨_, _, rfl, h1, k1⟩, k2⟩
abbrev csB (cs : List (List T)) : Bxs := cs.map fun c => c.map fun t => (false, t)
theorem zxh : ∀ cs : List (List T), bxA (csB cs).flatten = rd (cs.flatten.map D.one)
 | [] => rfl
 | c :: cs => by
  have h1 : bxA (c.map fun t => (false, t)) = rd (c.map D.one) := by simp [bxA, rd, List.map_map, Function.comp_def]
  show bxA ((c.map fun t => (false, t)) ++ (csB cs).flatten) = _
  rw [zc4, h1, zxh cs]
  simp [rd]
theorem znn {w : World} {A : Nat -> Prop} {bs : Nat -> Nat} : ∀ {cs : List (List T)} {j : Nat} {b2 : List (List Value)}, zey w bs j b2 (csB cs) -> za3 w A (cs.flatten.map D.one) b2.flatten -> ∀ i, i < cs.length -> ∃ vs ty, w.heap[bs (j + i)]? = some (.cells ⟨vs⟩ ty (0, 0)) /\ zac w A (cs.getD i []) vs
 | [], _, _, _, _, i, hi => by simp at hi
 | c :: cs, j, [], h, _, _, _ => h.elim
 | c :: cs, j, vs :: b2, h, hr, i, hi => by
  obtain ⟨h1, ⟨ty, h2⟩, h3⟩ := h
  rw [List.flatten_cons, List.flatten_cons, List.map_append] at hr
  obtain ⟨k1, k2⟩ := za3.cut (by simpa using h1) hr
  cases i with
  | zero => exact ⟨vs, ty, h2, k1⟩
  | succ i =>
   obtain ⟨us, ty', q1, q2⟩ := znn h3 k2 i (by simpa using hi)
   exact ⟨us, ty', by rw [show j + (i + 1) = j + 1 + i by omega]; exact q1, by simpa using q2⟩
theorem qku {w : World} {A A' : Nat -> Prop} (ha : ∀ b, A b -> A' b) {b : Nat} (hb : A' b) {vs : List Value} {ty : TypeId} {c : List T} (h : w.heap[b]? = some (.cells ⟨vs⟩ ty (0, 0))) (k : zac w A c vs) : zah w A' (.ptr c) (zlk b) := by
 unfold zah
 refine ⟨b, 0, rfl, hb, za5.mk fun i t hi => ?_⟩
 obtain ⟨v, h1, h2⟩ := k.at i t hi
 exact ⟨v, by rw [Nat.zero_add]; simp [World.cell?, h, h1], zah.keep (fun _ _ => rfl) ha _ _ h2⟩
def qcm (m : Nat) (cs : List (List T)) (j : Nat) : AF := if j < m then .p j else .d false (.one (.ptr (cs.getD (j - m) [])))
theorem ziw (m : Nat) (cs : List (List T)) (bs : Nat -> Nat) : ∀ js : List Nat, AF.vals bs (js.map (qcm m cs)) ((js.filter fun j => !decide (j < m)).map fun j => zlk (bs j)) = js.map fun j => zlk (bs j)
 | [] => rfl
 | j :: js => by
  by_cases h : j < m
  ·rw [List.map_cons, qcm, if_pos h, List.filter_cons_of_neg (by simp [h]), AF.vals, ziw m cs bs js, List.map_cons]
  ·rw [List.map_cons, qcm, if_neg h, List.filter_cons_of_pos (by simp [h]), List.map_cons, AF.vals, ziw m cs bs js, List.map_cons]
theorem zr2 (m : Nat) (cs : List (List T)) : ∀ js : List Nat, AF.ds (js.map (qcm m cs)) = rd ((js.filter fun j => !decide (j < m)).map fun j => .one (.ptr (cs.getD (j - m) [])))
 | [] => rfl
 | j :: js => by
  by_cases h : j < m
  ·rw [List.map_cons, qcm, if_pos h, List.filter_cons_of_neg (by simp [h]), AF.ds, zr2 m cs js]
  ·rw [List.map_cons, qcm, if_neg h, List.filter_cons_of_pos (by simp [h]), List.map_cons, AF.ds, zr2 m cs js]; rfl
def qkm (m : Nat) (bs : Nat -> Nat) (bx : Bxs) (F : Nat -> Prop) (w : World) : Prop := ∃ vb fp tp, zey w bs 0 vb bx /\ zas w (fun _ => False) (bxA bx.flatten) vb.flatten fp tp /\ fp.Nodup /\ (∀ j, j < m -> bs j ∉ fp) /\ ∀ b ∈ fp, F b
def qie (m : Nat) (bs : Nat -> Nat) (cs : List (List T)) (R0 : Nat -> Prop) (w : World) : Prop := ∀ i, i < cs.length -> zah w R0 (.ptr (cs.getD i [])) (zlk (bs (m + i)))
def JRb (m : Nat) (bs : Nat -> Nat) (bx : X -> Bxs) (cs : List (List T)) (R0 : Nat -> Prop) (x : X) (J : Hj) : Prop := J.R = R0 /\ (∀ j, j < m -> J.F (bs j)) /\ (∀ y, R0 y -> ¬ J.F y) /\ J.I = fun w => qkm m bs (bx x) J.F w /\ qie m bs cs R0 w
theorem qie.keep {m : Nat} {bs : Nat -> Nat} {cs : List (List T)} {R0 : Nat -> Prop} {w w' : World} (hs : ∀ b, R0 b -> w'.heap[b]? = w.heap[b]?) (h : qie m bs cs R0 w) : qie m bs cs R0 w' := fun i hi => zah.keep hs (fun _ q => q) _ _ (h i hi)
theorem qkm.keep {m : Nat} {bs : Nat -> Nat} {bx : Bxs} {F : Nat -> Prop} {w w' : World} (hm : bx.length = m) (ht : ∀ b ∈ bx, ∀ p ∈ b, p.1 = true) (hF : ∀ j, j < m -> F (bs j)) (hs : ∀ b, F b -> w'.heap[b]? = w.heap[b]?) (h : qkm m bs bx F w) : qkm m bs bx F w' := by
 obtain ⟨vb, fp, tp, h1, h2, h3, h4, h5⟩ := h
 exact ⟨vb, fp, tp, h1.keep (fun i hi => hs _ (by rw [Nat.zero_add]; exact hF i (by omega))), zdn (fun p hp => by obtain ⟨b, hb, hp⟩ := List.mem_flatten.1 hp; exact ht b hb p hp) h2 fun x hx => hs x (h5 x hx), h3, h4, h5⟩
theorem JRb.good {m : Nat} {bs : Nat -> Nat} {bx : X -> Bxs} {cs : List (List T)} {R0 : Nat -> Prop} (hm : ∀ x, (bx x).length = m) (ht : ∀ x, ∀ b ∈ bx x, ∀ p ∈ b, p.1 = true) {x : X} {J : Hj} (h : JRb m bs bx cs R0 x J) : GoodJ J := by
 obtain ⟨rfl, h2, h3, h4⟩ := h
 refine ⟨h3, fun w w' hs hi => ?_⟩
 rw [h4] at hi ⊢
 exact ⟨hi.1.keep (hm x) (ht x) h2 fun b hb => hs b (Or.inl hb), hi.2.keep fun b hb => hs b (Or.inr hb)⟩
theorem see_of {P : Program} {g : FuncId} {bx : X -> Bxs} {m : Nat} (hm : ∀ x, (bx x).length = m) (ht : ∀ x, ∀ b ∈ bx x, ∀ p ∈ b, p.1 = true) {cs : List (List T)} {js : List Nat} (hjs : ∀ j ∈ js, j < m + cs.length) {Inv : X -> Prop} {okl : List Tm -> Prop} {st : X -> List Tm -> Bool × X} (hcal : zaz P g)
  (hinv : ∀ x l, Inv x -> okl l -> (st x l).1 = true -> Inv (st x l).2) (HS : ∀ x l, Inv x -> okl l -> PC P g (bx x) (.d false (.one (tmS l)) :: js.map (qcm m cs)) (bx (st x l).2) [(true, .one (.bool (st x l).1))])
  {bs : Nat -> Nat} (hbi : ∀ i j, i < m -> j < m -> bs i = bs j -> i = j) (R0 : Nat -> Prop) : SeeC P g (js.map fun j => zlk (bs j)) (JRb m bs bx cs R0) R0 Inv okl st := by
 refine ⟨hcal, fun x J h => h.1, fun x J h => h.good hm ht, hinv, fun x J l hJ hi ho w v hI hF hR hv => ?_⟩
 have hJ0 := hJ
 obtain ⟨hJR, hJF, hJd, hJI⟩ := hJ
 rw [hJI] at hI
 obtain ⟨⟨vb, fp, tp, i1, i2, i3, i4, i5⟩, ip⟩ := hI
 have hp : ∀ y, y < w.heap.size -> ¬ J.F y -> (y < w.heap.size /\ y ∉ fp /\ ∀ j, j < (bx x).length -> y ≠ bs j) /\ True := fun y h1 h2 => ⟨⟨h1, fun q => h2 (i5 y q), fun j hj e => h2 (e ▸ hJF j (by rw [<- hm x]; exact hj))⟩, trivial⟩
 have hptr : za3 w (fun y => (y < w.heap.size /\ y ∉ fp /\ ∀ j, j < (bx x).length -> y ≠ bs j) /\ True) ((js.filter fun j => !decide (j < m)).map fun j => .one (.ptr (cs.getD (j - m) []))) ((js.filter fun j => !decide (j < m)).map fun j => zlk (bs j)) := by
  have : ∀ l : List Nat, (∀ j ∈ l, m <= j /\ j < m + cs.length) -> za3 w (fun y => (y < w.heap.size /\ y ∉ fp /\ ∀ j, j < (bx x).length -> y ≠ bs j) /\ True) (l.map fun j => .one (.ptr (cs.getD (j - m) []))) (l.map fun j => zlk (bs j)) := by
   intro l
   induction l with
   | nil => intro _; rfl
   | cons j l ih =>
    intro h
    obtain ⟨a1, a2⟩ := h j (by simp)
    refine ⟨_, _, rfl, ?_, ih fun q hq => h q (by simp [hq])⟩
    have := ip (j - m) (by omega)
    rw [show m + (j - m) = j by omega] at this
    exact zah.keep (fun _ _ => rfl) (fun b hb => hp b (hR b (by rw [hJR]; exact hb)) (hJd b hb)) _ _ this
  refine this _ fun j hj => ?_
  obtain ⟨h1, h2⟩ := List.mem_filter.1 hj
  exact ⟨by simpa using h2, hjs j h1⟩
 have hds : AF.ds (AF.d false (.one (tmS l)) :: js.map (qcm m cs)) = rd (.one (tmS l) :: (js.filter fun j => !decide (j < m)).map fun j => .one (.ptr (cs.getD (j - m) []))) := by
  rw [AF.ds, zr2]; rfl
 have H := (HS x l hi ho).2.2 w bs vb (v :: (js.filter fun j => !decide (j < m)).map fun j => zlk (bs j)) fp tp (fun _ => True) (fun i j hi hj => hbi i j (by rw [<- hm x]; exact hi) (by rw [<- hm x]; exact hj)) (fun j hj => i4 j (by rw [<- hm x]; exact hj)) i1 (by
  rw [hds]
  refine zas.rd_append (zas.keepA (fun _ q => q.elim) i2) ?_
  exact ⟨v, _, rfl, zah.keep (fun _ _ => rfl) (fun b hb => hp b hb.1 hb.2) _ _ hv, hptr⟩) i3 (by rw [hds]; simp [rd])
 rw [AF.vals, ziw] at H
 refine H.mono ?_
 rintro e w' ⟨us, vb', fp', tp', rfl, o1, o2, o3, o4, o5, o6⟩
 obtain ⟨u, us', f1, f2, t1, t2, e1, rfl, rfl, ⟨g1, -⟩, g2⟩ := o3
 obtain ⟨u0, rfl⟩ : ∃ u0, us = [u0] := by
  cases us with
  | nil => simp at o2
  | cons u0 us => cases us with
   | nil => exact ⟨u0, rfl⟩
   | cons _ _ => simp at o2
 simp only [List.cons_append, List.nil_append, List.cons.injEq] at e1
 obtain ⟨rfl, rfl⟩ := e1
 unfold zap at g1
 obtain ⟨rfl, rfl⟩ := g1
 rw [List.nil_append] at o4 o5
 have hsz := o6.size
 refine ⟨⟨fun y => J.F y \/ (w.heap.size <= y /\ y < w'.heap.size), R0, fun w'' => qkm m bs (bx (st x l).2) (fun y => J.F y \/ (w.heap.size <= y /\ y < w'.heap.size)) w'' /\ qie m bs cs R0 w''⟩, rfl, ?_, ?_⟩
 ·exact ⟨rfl, fun j hj => Or.inl (hJF j hj), fun y hy h => h.elim (hJd y hy) fun q => by have := hR y (by rw [hJR]; exact hy); omega, rfl⟩
 ·refine ⟨?_, ⟨⟨vb', f2, t2, o1, zdn (fun p hp => by obtain ⟨b, hb, hp⟩ := List.mem_flatten.1 hp; exact ht _ b hb p hp) g2 (fun _ _ => rfl), o4, fun j hj hf => ?_, fun b hb => ?_⟩, ip.keep fun b hb => ?_⟩, fun y hy => ?_, fun y hy => by rw [hJR]; exact hy, ?_⟩
  ·exact JRb.good (X := X) (R0 := R0) (bs := bs) (cs := cs) hm ht (x := (st x l).2) ⟨rfl, fun j hj => Or.inl (hJF j hj), fun y hy h => h.elim (hJd y hy) fun q => by have := hR y (by rw [hJR]; exact hy); omega, rfl⟩
  ·rcases o5 _ hf with q | q
   ·exact i4 j hj q
   ·have := hF _ (hJF j hj); omega
  ·rcases o5 b hb with q | q
   ·exact Or.inl (i5 b q)
   ·refine Or.inr ⟨q, ?_⟩
    exact zm0 (fun p hp => by obtain ⟨b, hb, hp⟩ := List.mem_flatten.1 hp; exact ht _ b hb p hp) g2 b hb
  ·exact o6.block b (hp b (hR b (by rw [hJR]; exact hb)) (hJd b hb)).1
  ·rcases hy with q | q
   ·exact ⟨Or.inl q, Nat.lt_of_lt_of_le (hF y q) hsz⟩
   ·exact ⟨Or.inr q.1, q.2⟩
  ·exact ⟨o6.os, o6.tape, o6.output, o6.size, fun y hy => o6.block y (hp y hy.1 hy.2).1⟩
theorem zum {w : World} {A : Nat -> Prop} : ∀ {ds : List D} {vs : List Value}, za3 w A ds vs -> zas w A (rd ds) vs [] []
 | [], _, h => ⟨h, rfl, rfl⟩
 | _ :: _, _, h => by obtain ⟨v, vs', rfl, h1, h2⟩ := h; exact ⟨v, vs', rfl, h1, zum h2⟩
theorem zq7 {g : FuncId} {bx : X -> Bxs} {m : Nat} (hm : ∀ x, (bx x).length = m) (ht : ∀ x, ∀ b ∈ bx x, ∀ p ∈ b, p.1 = true) (cs : List (List T)) {js : List Nat} (hjs : ∀ j ∈ js, j < m + cs.length) {Inv : X -> Prop} {okl : List Tm -> Prop} {st : X -> List Tm -> Bool × X} (hcal : zaz Tryz.prog g)
  (hinv : ∀ x l, Inv x -> okl l -> (st x l).1 = true -> Inv (st x l).2) (HS : ∀ x l, Inv x -> okl l -> PC Tryz.prog g (bx x) (.d false (.one (tmS l)) :: js.map (qcm m cs)) (bx (st x l).2) [(true, .one (.bool (st x l).1))])
  (ts : List Tm) (hts : ts.length <= 1048576) (n : Nat) (hn : n <= 1048576) (hok : ∀ l : List Tm, l.length = n -> (∀ t ∈ l, t ∈ ts) -> okl l) (x : X) (hx : Inv x) :
  PC Tryz.prog 75 (bx x ++ csB cs) [.d false (.one (tmS ts)), .d false (.one (.int .i64 n)), .fn g js] (bx (ze4 ts n st x).2 ++ csB cs) [(true, .one (.bool (ze4 ts n st x).1))] := by
 refine ⟨Tryz.call75, by rw [List.length_append, List.length_append, hm, hm], fun w bs bvs dvs fp tp A hinj hnf hB hG hnd hdl => ?_⟩
 have hlen : (bx x ++ csB cs).length = m + cs.length := by rw [List.length_append, hm]; simp [csB]
 rw [hlen] at hinj hnf hG ⊢
 obtain ⟨b1, b2, rfl, B1, B2⟩ := zey.split hB
 obtain ⟨v1, v2, rfl⟩ : ∃ v1 v2, dvs = [v1, v2] := by
  match dvs, hdl with
  | [a, b], _ => exact ⟨a, b, rfl⟩
 obtain ⟨_, _, e1, r1, _, _, e2, r2, hG⟩ := hG
 simp only [List.cons_append, List.nil_append, List.cons.injEq] at e1
 obtain ⟨rfl, rfl⟩ := e1
 simp only [List.cons.injEq] at e2
 obtain ⟨rfl, rfl⟩ := e2
 rw [List.flatten_append, List.flatten_append, zc4] at hG
 replace hG : zas w _ (bxA (bx x).flatten ++ bxA (csB cs).flatten) (b1.flatten ++ b2.flatten) fp tp := hG
 obtain ⟨g1, g2, f1, f2, t1, t2, e3, rfl, rfl, hG1, hG2⟩ := hG.split
 obtain ⟨rfl, rfl⟩ : b1.flatten = g1 /\ b2.flatten = g2 := List.append_inj e3 (by rw [B1.flatLen, hG1.len, bxA, List.length_map])
 rw [zxh] at hG2
 obtain ⟨hC, rfl, rfl⟩ := zck hG2
 simp only [List.append_nil] at *
 generalize hA' : (fun k => (k < w.heap.size /\ k ∉ f1 /\ ∀ j, j < m + cs.length -> k ≠ bs j) /\ A k) = A' at *
 have hAe : ∀ k, A' k -> (k < w.heap.size /\ k ∉ f1 /\ ∀ j, j < m + cs.length -> k ≠ bs j) /\ A k := fun k hk => by rw [<- hA'] at hk; exact hk
 have hlt : ∀ j, j < m + cs.length -> bs j < w.heap.size := fun j hj => by have := hB.lt j (by rw [hlen]; exact hj); rwa [Nat.zero_add] at this
 have ho1 := zm0 (fun p hp => by obtain ⟨b, hb, hp⟩ := List.mem_flatten.1 hp; exact ht x b hb p hp) hG1
 rw [Nat.zero_add, hm] at B2
 have hcp := znn B2 hC
 have S := see_of hm ht hjs hcal hinv HS (bs := bs) (fun i j hi hj => hinj i j (by omega) (by omega)) (fun k => A' k \/ ∃ j, m <= j /\ j < m + cs.length /\ k = bs j)
 have hRd : ∀ y, (A' y \/ ∃ j, m <= j /\ j < m + cs.length /\ y = bs j) -> y < w.heap.size /\ ¬ (y ∈ f1 \/ ∃ j, j < m /\ y = bs j) := by
  rintro y (hy | ⟨j, h1, h2, rfl⟩)
  ·obtain ⟨⟨a1, a2, a3⟩, _⟩ := hAe y hy
   exact ⟨a1, fun q => q.elim a2 fun ⟨j, hj, e⟩ => a3 j (by omega) e⟩
  ·exact ⟨hlt j h2, fun q => q.elim (fun q => hnf j h2 q) fun ⟨i, hi, e⟩ => by have := hinj j i h2 (by omega) e; omega⟩
 have hJ : JRb m bs bx cs (fun k => A' k \/ ∃ j, m <= j /\ j < m + cs.length /\ k = bs j) x ⟨fun y => y ∈ f1 \/ ∃ j, j < m /\ y = bs j, fun k => A' k \/ ∃ j, m <= j /\ j < m + cs.length /\ k = bs j, fun w' => qkm m bs (bx x) (fun y => y ∈ f1 \/ ∃ j, j < m /\ y = bs j) w' /\ qie m bs cs (fun k => A' k \/ ∃ j, m <= j /\ j < m + cs.length /\ k = bs j) w'⟩ := ⟨rfl, fun j hj => Or.inr ⟨j, hj, rfl⟩, fun y hy => (hRd y hy).2, rfl⟩
 have hI : qkm m bs (bx x) (fun y => y ∈ f1 \/ ∃ j, j < m /\ y = bs j) w /\ qie m bs cs (fun k => A' k \/ ∃ j, m <= j /\ j < m + cs.length /\ k = bs j) w := by
  refine ⟨⟨b1, f1, t1, B1, zdn (fun p hp => by obtain ⟨b, hb, hp⟩ := List.mem_flatten.1 hp; exact ht x b hb p hp) hG1 (fun _ _ => rfl), hnd, fun j hj => hnf j (by omega), fun b hb => Or.inl hb⟩, fun i hi => ?_⟩
  obtain ⟨vs, ty, q1, q2⟩ := hcp i hi
  exact qku (fun b hb => Or.inl hb) (Or.inr ⟨m + i, by omega, by omega, rfl⟩) q1 q2
 have hF0 : ∀ y, (y ∈ f1 \/ ∃ j, j < m /\ y = bs j) -> y < w.heap.size /\ ¬ A' y := by
  rintro y (q | ⟨j, hj, rfl⟩)
  ·exact ⟨ho1 y q, fun hq => (hAe y hq).1.2.1 q⟩
  ·exact ⟨hlt j (by omega), fun hq => (hAe _ hq).1.2.2 j (by omega) rfl⟩
 have H := (zrw ts hts n hn S hok hJ hx).2 w [_, _, .func (.func g) #[] ⟨js.map fun j => zlk (bs j)⟩] A' (hJ.good hm ht) hI hF0 (fun y hy => (hRd y hy).1) ⟨_, _, rfl, zah.keep (fun _ _ => rfl) (fun b hb => ⟨(hAe b hb).1.1, hb⟩) _ _ r1, _, _, rfl, zah.keep (fun _ _ => rfl) (fun b hb => ⟨(hAe b hb).1.1, hb⟩) _ _ r2, _, _, rfl, by show zah _ _ _ _; unfold zah; rfl, rfl⟩
 refine H.mono ?_
 rintro e w' ⟨b, J', rfl, ⟨rfl, k1, k2, k3, k4⟩, kE⟩
 have hI' := kE.I
 rw [k4] at hI'
 obtain ⟨⟨vb, fp', tp', j1, j2, j3, j4, j5⟩, jp⟩ := hI'
 have hsame : ∀ y, y < w.heap.size -> ¬ (y ∈ f1 \/ ∃ j, j < m /\ y = bs j) -> w'.heap[y]? = w.heap[y]? := fun y h1 h2 => kE.bk.block y ⟨h1, h2⟩
 have hA2 : ∀ k, A' k -> (k < w'.heap.size /\ k ∉ fp' /\ ∀ j, j < m + cs.length -> k ≠ bs j) /\ (A k \/ w.heap.size <= k \/ k ∈ f1) := fun k hk => by
  obtain ⟨⟨a1, a2, a3⟩, a4⟩ := hAe k hk
  exact ⟨⟨Nat.lt_of_lt_of_le a1 kE.bk.size, fun q => k3 k (Or.inl hk) (j5 k q), a3⟩, Or.inl a4⟩
 refine ⟨[_], vb ++ b2, fp', tp', rfl, zey.append j1 ?_, rfl, ?_, j3, fun b hb => ?_, ⟨kE.bk.os, kE.bk.tape, kE.bk.output, kE.bk.size, fun k hk => hsame k hk.1 fun q => q.elim hk.2.1 fun ⟨j, hj, e⟩ => hk.2.2 j (by omega) e⟩⟩
 ·rw [Nat.zero_add, hm]
  exact B2.keep fun i hi => hsame _ (hlt _ (by simp [csB] at hi; omega)) (hRd _ (Or.inr ⟨m + i, by omega, by simp [csB] at hi; omega, rfl⟩)).2
 ·rw [List.flatten_append, List.flatten_append, zc4, zxh]
  have q1 : zas w' (fun k => (k < w'.heap.size /\ k ∉ fp' /\ ∀ j, j < m + cs.length -> k ≠ bs j) /\ (A k \/ w.heap.size <= k \/ k ∈ f1)) (bxA (bx (ze4 ts n st x).2).flatten) vb.flatten fp' tp' := zdn (fun p hp => by obtain ⟨b, hb, hp⟩ := List.mem_flatten.1 hp; exact ht _ b hb p hp) j2 (fun _ _ => rfl)
  have q2 := q1.append (zum (za3.keep (fun b hb => hsame b (hAe b hb).1.1 (hRd b (Or.inl hb)).2) hA2 hC))
  rw [List.append_nil, List.append_nil] at q2
  exact ⟨_, _, [], fp', [], tp', rfl, rfl, rfl, ⟨by unfold zap; exact ⟨rfl, rfl⟩, rfl⟩, q2⟩
 ·rcases (kE.F b (j5 b hb)).1 with (q | ⟨j, hj, rfl⟩) | q
  ·exact Or.inl q
  ·exact absurd hb (j4 j hj)
  ·exact Or.inr q
end Go.Proofs.YtnkagnjiljjpcaaGreat
namespace Go.Proofs.YtnkagnjiljjpcaaGreat
set_option linter.unusedSimpArgs false
set_option linter.unusedVariables false
set_option linter.unusedSectionVars false
set_option maxRecDepth 4000
open Go.RowKit
theorem zgg.wkA {P : Program} {N : Nat} {c : Code} {σ σ' : St} {Q : Exit -> St -> Prop} (h : Wk σ σ') (k : zgg P N c σ' Q) : zgg P N c σ Q := fun n0 w0 A0 g a w h1 h2 h3 h4 => by
 obtain ⟨g', r1, r2, r3⟩ := h n0 N g a w h1
 exact k n0 w0 A0 g' a w r1 h2 h3 (by rw [r2, r3]; exact h4)
theorem qeo (t : Tm) (hw : t.wt <= 1048576) : FC Tryz.prog 72 [tmD t] [bD (!grT t)] := by
 have H := zj8 t hw
 simp only [tmD, zaa] at H ⊢
 refine zaq Tryz.call72 Tryz.func72 rfl (by kernel_rfl) (za4 (by kernel_rfl)) ?_
 simp -implicitDefEqProofs only [go_sem, Tryz.results72]
 refine callF (H) (by simp -implicitDefEqProofs only [go_sem]) ?_
 simp -implicitDefEqProofs only [go_sem]
def clL (c : Cq) (ps : List (Str × Tm)) : List Li := c.lits.map fun l => ⟨l.pos, rvT ps l.atom⟩
noncomputable def giS (c : Cq) (ns : List Str) (x : List Cq) (l : List Tm) : Bool × List Cq :=
 (zjs (clL c (ns.zip l)), if zjs (clL c (ns.zip l)) = true /\ (x.any fun a => same a (mkC (clL c (ns.zip l)))) = false then x ++ [mkC (clL c (ns.zip l))] else x)
set_option maxHeartbeats 4000000 in
theorem qh8 (c : Cq) (ns : List Str) (hnd : ns.Nodup) (x : List Cq) (l : List Tm) (hl : l.length = ns.length) (hx : x.length <= 1048576) (hns : ns.length <= 1048576) (hcw : c.wt <= 1048576) (hlw : ∀ t ∈ l, t.wt <= 1048576) (hLw : zd8 (clL c (ns.zip l)) <= 1048576) :
  PC Tryz.prog 76 [[(true, cqS x)]] (.d false (.one (tmS l)) :: [1, 2, 0].map (qcm 1 [[zd3 ns], cqC c])) [[(true, cqS (giS c ns x l).2)]] [(true, .one (.bool (giS c ns x l).1))] := by
 have hcl : c.lits.length <= 1048576 := by have := c.wt_eq; unfold zd8 at this; omega
 have hll : ∀ q ∈ c.lits, q.wt <= 1048576 := fun q hq => Nat.le_trans (ziq hq) hcw
 show PC _ _ _ [.d false (.one (tmS l)), .d false (.one (.ptr [zd3 ns])), .d false (.one (.ptr (cqC c))), .p 0] _ _
 simp only [zaw]
 refine PC_ofW Tryz.call76 Tryz.func76 rfl (by simp only [List.length_cons, List.length_nil, Tryz.ntmps76]; omega) (by simp only [Tryz.ntmps76]; omega) rfl rfl (by simp [zbz, T.isPin, AF.ds, bxA]) (by simp [gFS, T.fs, T.flat, AF.ds, bxA]) rfl ?_
 refine zgg.wkA (σ' := hd [(0, .one (.rn (tmS l))), (1, vT (.ptr [zd3 ns])), (2, vT (.ptr [liS c.lits])), (3, .one (.bx 1000000 0)), (1000000, .one (.bx 1000000 0))] [(1000000, [.ow 96 0])] [(96, ⟨true, 1, x.map cqC, 0, true⟩)]) (zab ?_) ?_
 ·simp -implicitDefEqProofs only [go_sem]
 refine zgg.cut 0 rfl (by kernel_rfl) ?_
 simp -implicitDefEqProofs only [go_sem, Tryz.results76]
 refine zgg.scope true rfl rfl rfl (by simp only [Tryz.ntmps76]; omega) ?_
 intro b
 refine zd6.cut 0 rfl (by kernel_rfl) ?_
 simp -implicitDefEqProofs only [go_sem]
 refine zd6.block ?_
 refine zd6.loop (fun j : Nat => hd [(0, .one (.rn (tmS l))), (1, vT (.ptr [zd3 ns])), (2, vT (.ptr [liS c.lits])), (3, .one (.bx 1000000 0)), (1000000, .one (.bx 1000000 0)), (6, .one (.cv (.map (some b)))), (15, vT (zd3 ns)), (16, vI ns.length), (17, vI j)] [(1000000, [.ow 96 0])] [(96, ⟨true, 1, x.map cqC, 0, true⟩)])
  (fun j => ((ns.zip l).take j).map bnC) (fun j => j <= ns.length) (fun j => ns.length - j) 0 (zab ?_) rfl (Nat.zero_le _) ?_
 ·simp -implicitDefEqProofs only [go_sem]
 intro j hj
 refine zd6.cut 1 rfl (by kernel_rfl) ?_
 by_cases hlj : j < ns.length
 ·have hlj2 : j < l.length := by omega
  have hzl : j < (ns.zip l).length := by rw [List.length_zip]; omega
  have hfr : zc5 (.str ns[j]) (((ns.zip l).take j).map bnC) = some none := by
   rw [zgu, List.find?_eq_none.2]
   ·rfl
   ·intro p hp e
    obtain ⟨i, hi, rfl⟩ := List.getElem_of_mem hp
    rw [List.length_take] at hi
    rw [List.getElem_take, List.getElem_zip, beq_iff_eq] at e
    have := zxe hnd (by omega) hlj e
    omega
  have hrow : ((ns.zip l).take (j + 1)).map bnC = ((ns.zip l).take j).map bnC ++ [[.str ns[j], .str l[j].name, .sl 2 (l[j].args.map tmC)]] := by
   rw [List.take_succ_eq_append_getElem hzl, List.map_append, List.map_singleton, List.getElem_zip, zuj]
  generalize ((ns.zip l).take j).map bnC = R at hfr hrow ⊢
  simp -implicitDefEqProofs only [go_sem, hlj]
  refine zd6.seq ?_
  refine zd6.block ?_
  refine zd6.cut 0 rfl (by kernel_rfl) ?_
  simp -implicitDefEqProofs only [go_sem, zai, hlj]
  refine zd6.upd 6 rfl rfl rfl (by kernel_rfl) ?_
  simp -implicitDefEqProofs only [go_sem, zai, hlj, hlj2, zaa l[j], hfr, Tryz.underlying102, Tryz.underlying9]
  refine zd6.ofEx (by kernel_rfl) ?_
  simp -implicitDefEqProofs only [go_sem]
  refine ⟨j + 1, hlj, by omega, hrow, zab ?_⟩
  simp -implicitDefEqProofs only [go_sem]
  rw [zan (by omega)]
 have htz : (ns.zip l).take j = ns.zip l := List.take_of_length_le (by rw [List.length_zip]; omega)
 have hps : ∀ p ∈ ns.zip l, p.2.wt <= 1048576 := fun p hp => hlw p.2 (List.of_mem_zip hp).2
 have HM := zn5 (clL c (ns.zip l)) hLw
 have hcll : (clL c (ns.zip l)).length = c.lits.length := by unfold clL; simp
 have HH := zrx x (mkC (clL c (ns.zip l)))
 simp -implicitDefEqProofs only [go_sem, hlj, htz]
 refine zgg.ofEx (by kernel_rfl) ?_
 simp -implicitDefEqProofs only [go_sem]
 refine zcd (by simp -implicitDefEqProofs only [go_sem]) ?_
 simp -implicitDefEqProofs only [go_sem]
 refine zag (fun k : Nat => hd [(3, .one (.bx 1000000 0)), (1000000, .one (.bx 1000000 0)), (6, vT (mpS (ns.zip l))), (9, .one (.ow 928 0)), (31, vT (liS c.lits)), (32, vI c.lits.length), (33, vI k)] [(1000000, [.ow 96 0])] [(96, ⟨true, 1, x.map cqC, 0, true⟩), (928, ⟨true, 3, ((clL c (ns.zip l)).take k).map liC, 0, true⟩)]) (fun k => k <= c.lits.length) (fun k => c.lits.length - k) 0 (zab ?_) (Nat.zero_le _) ?_
 ·simp -implicitDefEqProofs only [go_sem]
  rfl
 intro k hk
 by_cases hlt : k < c.lits.length
 ·have hmin : min k (clL c (ns.zip l)).length <= 4294967295 := by omega
  have HR := zl4 (ns.zip l) hps c.lits[k].atom (hll _ (List.getElem_mem hlt))
  have hrow : ((clL c (ns.zip l)).take (k + 1)).map liC = ((clL c (ns.zip l)).take k).map liC ++ [[.bool c.lits[k].pos, .str (rvT (ns.zip l) c.lits[k].atom).name, .sl 2 ((rvT (ns.zip l) c.lits[k].atom).args.map tmC)]] := by
   rw [List.take_succ_eq_append_getElem (by omega), List.map_append, List.map_singleton]
   unfold clL
   rw [List.getElem_map]
   rfl
  simp only [tmD, zaa c.lits[k].atom, zaa (rvT (ns.zip l) c.lits[k].atom)] at HR
  simp -implicitDefEqProofs only [go_sem, zai, hlt, zak c.lits[k]]
  refine drawn (by kernel_rfl) ?_
  simp -implicitDefEqProofs only [go_sem]
  refine zax (HR) (by simp -implicitDefEqProofs only [go_sem]) ?_
  simp -implicitDefEqProofs only [go_sem]
  refine zbh (by simp -implicitDefEqProofs only [go_sem]) ?_
  simp -implicitDefEqProofs only [go_sem]
  refine zhq true (by simp -implicitDefEqProofs only [go_sem, ne_eq, List.length_map, List.length_take, hmin]) ?_
  simp -implicitDefEqProofs only [go_sem, ne_eq, List.length_map, List.length_take, hmin]
  refine ⟨by kernel_rfl, k + 1, hlt, by omega, zab ?_⟩
  simp -implicitDefEqProofs only [go_sem]
  rw [zan (by omega), hrow]
  trivial
 have ht : (clL c (ns.zip l)).take k = clL c (ns.zip l) := List.take_of_length_le (by omega)
 rw [ht]
 unfold giS
 simp only [cqD, zaw] at HM HH
 generalize zjs (clL c (ns.zip l)) = ok at HM ⊢
 generalize mkC (clL c (ns.zip l)) = q at HM HH ⊢
 cases ok
 ·simp only [Bool.false_eq_true, false_and, if_false]
  simp -implicitDefEqProofs only [go_sem, hlt]
  refine callF (HM) (by simp -implicitDefEqProofs only [go_sem]) ?_
  simp -implicitDefEqProofs only [go_sem]
 ·simp only [true_and, ifC, if_true] at HM ⊢
  generalize (x.any fun a => same a q) = kn at HH ⊢
  cases kn
  ·simp only [if_true]
   have hx2 : x.length <= 4294967295 := by omega
   simp -implicitDefEqProofs only [go_sem, hlt]
   refine callF (HM) (by simp -implicitDefEqProofs only [go_sem]) ?_
   simp -implicitDefEqProofs only [go_sem]
   refine callF (HH) (by simp -implicitDefEqProofs only [go_sem]) ?_
   simp -implicitDefEqProofs only [go_sem]
   refine zcd (by simp -implicitDefEqProofs only [go_sem]) ?_
   simp -implicitDefEqProofs only [go_sem]
   refine apD true (by simp -implicitDefEqProofs only [go_sem, ne_eq, List.length_map, hx2]) ?_
   simp -implicitDefEqProofs only [go_sem, ne_eq, List.length_map, hx2]
   refine Or.inl (Or.inl ?_)
   rw [List.map_append, List.map_singleton]; rfl
  ·simp only [Bool.true_eq_false, if_false]
   simp -implicitDefEqProofs only [go_sem, hlt]
   refine callF (HM) (by simp -implicitDefEqProofs only [go_sem]) ?_
   simp -implicitDefEqProofs only [go_sem]
   refine callF (HH) (by simp -implicitDefEqProofs only [go_sem]) ?_
   simp -implicitDefEqProofs only [go_sem]
end Go.Proofs.YtnkagnjiljjpcaaGreat
namespace Go.Proofs.YtnkagnjiljjpcaaGreat
set_option linter.unusedSimpArgs false
set_option linter.unusedVariables false
set_option linter.unusedSectionVars false
set_option maxRecDepth 4000
open Go.RowKit
section
variable {X : Type}
def zfb (ts : List Tm) : Nat -> List (List Tm)
 | 0 => [[]]
 | n + 1 => (zfb ts n).flatMap fun l => ts.map fun t => l ++ [t]
def runT (st : X -> List Tm -> Bool × X) : List (List Tm) -> X -> Bool × X
 | [], x => (true, x)
 | l :: ls, x => if (st x l).1 = true then runT st ls (st x l).2 else (false, (st x l).2)
theorem znz (st : X -> List Tm -> Bool × X) : ∀ (ts : List Tm) (x : X) (l : List Tm), zd4 st ts x l = runT st (ts.map fun t => l ++ [t]) x
 | [], _, _ => rfl
 | t :: ts, x, l => by rw [zd4, List.map_cons, runT, znz st ts]
theorem zjf (st : X -> List Tm -> Bool × X) : ∀ (a b : List (List Tm)) (x : X), runT st (a ++ b) x = if (runT st a x).1 = true then runT st b (runT st a x).2 else (false, (runT st a x).2)
 | [], b, x => rfl
 | l :: a, b, x => by
  rw [List.cons_append, runT, runT]
  by_cases h : (st x l).1 = true
  ·rw [if_pos h, if_pos h]; exact zjf st a b _
  ·rw [if_neg h, if_neg h]; rfl
theorem zpv (st : X -> List Tm -> Bool × X) (ts : List Tm) : ∀ (ls : List (List Tm)) (x : X), runT (zd4 st ts) ls x = runT st (ls.flatMap fun l => ts.map fun t => l ++ [t]) x
 | [], _ => rfl
 | l :: ls, x => by
  rw [runT, List.flatMap_cons, zjf, znz, zpv st ts ls]
theorem zpw (ts : List Tm) : ∀ (n : Nat) (st : X -> List Tm -> Bool × X) (x : X), ze4 ts n st x = runT st (zfb ts n) x
 | 0, st, x => by
  rw [ze4, zfb, runT, runT]
  by_cases h : (st x []).1 = true
  ·rw [if_pos h]; exact Prod.ext h rfl
  ·rw [if_neg h]; exact Prod.ext (by simpa using h) rfl
 | n + 1, st, x => by rw [ze4, zpw ts n, zpv]; rfl
end
theorem zcv (ts : List Tm) : ∀ (n : Nat) (l : List Tm), l ∈ zfb ts n ↔ l.length = n /\ ∀ t ∈ l, t ∈ ts
 | 0, l => by
  simp only [zfb, List.mem_singleton]
  exact ⟨fun h => by subst h; exact ⟨rfl, by simp⟩, fun h => List.eq_nil_of_length_eq_zero h.1⟩
 | n + 1, l => by
  simp only [zfb, List.mem_flatMap, List.mem_map]
  constructor
  ·rintro ⟨a, ha, t, ht, rfl⟩
   obtain ⟨h1, h2⟩ := (zcv ts n a).1 ha
   refine ⟨by simp [h1], fun u hu => ?_⟩
   rcases List.mem_append.1 hu with hu | hu
   ·exact h2 u hu
   ·rw [List.mem_singleton.1 hu]; exact ht
  ·rintro ⟨h1, h2⟩
   have hne : l ≠ [] := fun h => by rw [h] at h1; cases h1
   refine ⟨l.dropLast, (zcv ts n _).2 ⟨by simp [h1], fun t ht => h2 t ((List.dropLast_sublist l).subset ht)⟩, l.getLast hne, h2 _ (List.getLast_mem hne), List.dropLast_concat_getLast hne⟩
theorem zht (ts : List Tm) : ∀ n : Nat, (zfb ts n).length = ts.length ^ n
 | 0 => rfl
 | n + 1 => by
  have : ∀ L : List (List Tm), (L.flatMap fun l => ts.map fun t => l ++ [t]).length = L.length * ts.length := by
   intro L
   induction L with
   | nil => simp
   | cons l L ih => rw [List.flatMap_cons, List.length_append, ih, List.length_map, List.length_cons, Nat.add_mul]; omega
  rw [zfb, this, zht ts n, Nat.pow_succ]
theorem zso {α : Type} : ∀ {x y : List α}, x.Nodup -> (∀ a ∈ x, a ∈ y) -> x.length <= y.length
 | [], _, _, _ => Nat.zero_le _
 | a :: x, y, hn, h => by
  obtain ⟨s, t, rfl⟩ := List.append_of_mem (h a (by simp))
  obtain ⟨h1, h2⟩ := List.nodup_cons.1 hn
  have := zso (x := x) (y := s ++ t) h2 fun b hb => by
   have := h b (by simp [hb])
   simp only [List.mem_append, List.mem_cons] at this ⊢
   rcases this with q | rfl | q
   ·exact Or.inl q
   ·exact absurd hb h1
   ·exact Or.inr q
  simp only [List.length_append, List.length_cons] at this ⊢
  omega
noncomputable def zww (x : List Cq) (q : Cq) : List Cq := if (x.any fun a => same a q) = true then x else x ++ [q]
noncomputable def zp5 (c : Cq) (ns : List Str) (L : List (List Tm)) : Bool := L.all fun l => zjs (clL c (ns.zip l))
noncomputable def giR (c : Cq) (ns : List Str) (L : List (List Tm)) (x : List Cq) : List Cq := L.foldl (fun x l => zww x (mkC (clL c (ns.zip l)))) x
theorem qhe {c : Cq} {ns : List Str} {x : List Cq} {l : List Tm} (h : zjs (clL c (ns.zip l)) = true) : giS c ns x l = (true, zww x (mkC (clL c (ns.zip l)))) := by
 unfold giS zww
 rw [h]
 cases ha : (x.any fun a => same a (mkC (clL c (ns.zip l)))) <;> simp
theorem zzc (c : Cq) (ns : List Str) : ∀ (L : List (List Tm)) (x : List Cq), (runT (giS c ns) L x).1 = zp5 c ns L /\ (zp5 c ns L = true -> (runT (giS c ns) L x).2 = giR c ns L x)
 | [], x => ⟨rfl, fun _ => rfl⟩
 | l :: L, x => by
  rw [runT]
  cases h : zjs (clL c (ns.zip l))
  ·have h1 : (giS c ns x l).1 = false := h
   have h2 : zp5 c ns (l :: L) = false := by unfold zp5; rw [List.all_cons, h]; rfl
   rw [h1, if_neg (by simp), h2]
   exact ⟨rfl, fun h => by cases h⟩
  ·have h2 : zp5 c ns (l :: L) = zp5 c ns L := by unfold zp5; rw [List.all_cons, h]; rfl
   rw [qhe h, if_pos rfl, h2]
   exact zzc c ns L _
def zli (c : Cq) (ns : List Str) (ts : List Tm) (x : List Cq) : Prop := x.Nodup /\ ∀ q ∈ x, q ∈ (zfb ts ns.length).map fun l => mkC (clL c (ns.zip l))
theorem zli.len {c : Cq} {ns : List Str} {ts : List Tm} {x : List Cq} (h : zli c ns ts x) : x.length <= ts.length ^ ns.length := by
 have := zso h.1 h.2
 rwa [List.length_map, zht] at this
theorem zli.put {c : Cq} {ns : List Str} {ts : List Tm} {x : List Cq} (h : zli c ns ts x) {l : List Tm} (hl : l ∈ zfb ts ns.length) : zli c ns ts (zww x (mkC (clL c (ns.zip l)))) := by
 unfold zww
 split
 ·exact h
 ·rename_i ha
  have ha : ∀ a ∈ x, a ≠ mkC (clL c (ns.zip l)) := fun a hm e => ha (List.any_eq_true.2 ⟨a, hm, zbj.2 e⟩)
  refine ⟨List.nodup_append.2 ⟨h.1, by simp, fun a hm b hb => by rw [List.mem_singleton.1 hb]; exact ha a hm⟩, fun q hq => ?_⟩
  rcases List.mem_append.1 hq with hq | hq
  ·exact h.2 q hq
  ·rw [List.mem_singleton.1 hq]; exact List.mem_map.2 ⟨l, hl, rfl⟩
theorem zli.step {c : Cq} {ns : List Str} {ts : List Tm} {x : List Cq} {l : List Tm} (h : zli c ns ts x) (hl : l ∈ zfb ts ns.length) (ho : (giS c ns x l).1 = true) : zli c ns ts (giS c ns x l).2 := by
 rw [qhe (c := c) (ns := ns) (x := x) (l := l) ho]
 exact h.put hl
end Go.Proofs.YtnkagnjiljjpcaaGreat
namespace Go.Proofs.YtnkagnjiljjpcaaGreat
set_option linter.unusedSimpArgs false
set_option linter.unusedVariables false
set_option linter.unusedSectionVars false
set_option maxRecDepth 4000
open Go.RowKit
theorem zgs (c : Cq) (hc : c.ok = true) (hw : c.wt <= 1048576) : FC Tryz.prog 74 [cqD c] [.one (zd3 (zb7 [] c.vo))] := by
 have HN := zzt c hc hw
 have hl := zta c
 rw [vi_vo hc] at HN
 have HS := qa0 (zbv [] c.vo) (by have := zgy c.vo; omega)
 rw [zhu] at HS
 simp only [cqD, zaw] at HN ⊢
 refine zda Tryz.call74 Tryz.func74 rfl (by kernel_rfl) (za4 (by kernel_rfl)) ?_
 simp -implicitDefEqProofs only [go_sem, Tryz.results74]
 refine callF (HN) (by simp -implicitDefEqProofs only [go_sem]) ?_
 simp -implicitDefEqProofs only [go_sem]
 refine callIs (HS) (by simp -implicitDefEqProofs only [go_sem, zgk]) (by simp -implicitDefEqProofs only [go_sem, zgk]) rfl ?_
 simp -implicitDefEqProofs only [go_sem, zgk]
theorem zq2 (ss : List Str) : (zb7 [] ss).Nodup := by
 rw [<- zhu]
 exact (List.mergeSort_perm _ leB).nodup_iff.2 (zmp ss List.nodup_nil)
noncomputable def vaC (c : Cq) : List Str := zb7 [] c.vo
theorem zz9 (c : Cq) : (vaC c).length <= c.wt := Nat.le_trans (zkt c.vo) (zta c)
theorem zn0 {c : Cq} (hc : c.ok = true) {ps : List (Str × Tm)} (hg : Grd ps) : zd8 (clL c ps) <= 1048576 := by
 have h1 := ok_len hc
 have h2 : ∀ l ∈ clL c ps, l.wt <= 16000 := fun l hl => by
  unfold clL at hl
  obtain ⟨q, hq, rfl⟩ := List.mem_map.1 hl
  have ha := zlj hc q hq
  show (rvT ps q.atom).wt <= _
  rw [zpd ps hg.v (zkw ha)]
  have h5 := qke ps 240 (fun p hp => zsm (hg.g p hp).1) q.atom
  have h6 := qcf ha
  have h7 : q.atom.nodes <= 30 := by
   rw [zia, Bool.and_eq_true] at ha
   have h8 := ha.2
   unfold zcs at h8
   simp only [Bool.and_eq_true, decide_eq_true_eq] at h8
   exact h8.1
  omega
 have h3 : (clL c ps).length = c.lits.length := by unfold clL; simp
 have h4 : ∀ L : List Li, (∀ l ∈ L, l.wt <= 16000) -> (L.map Li.wt).sum <= L.length * 16000 := by
  intro L
  induction L with
  | nil => intro _; simp
  | cons l L ih =>
   intro h
   have := ih fun q hq => h q (by simp [hq])
   have := h l (by simp)
   simp only [List.map_cons, List.sum_cons, List.length_cons]
   omega
 have := h4 _ h2
 unfold zd8
 omega
end Go.Proofs.YtnkagnjiljjpcaaGreat
namespace Go.Proofs.YtnkagnjiljjpcaaGreat
set_option linter.unusedSimpArgs false
set_option linter.unusedVariables false
set_option linter.unusedSectionVars false
set_option maxRecDepth 4000
open Go.RowKit
theorem voS_ok : ∀ a : Tm, ∀ n ∈ voS a, zay n = true := za7 fun m xs ih n hn => by
 rw [zo2] at hn
 split at hn
 ·rename_i h; rw [List.mem_singleton.1 hn]; exact h
 ·obtain ⟨l, hl, hn⟩ := List.mem_flatten.1 hn
  obtain ⟨a, ha, rfl⟩ := List.mem_map.1 hl
  exact ih a ha n hn
theorem qb7 (c : Cq) : ∀ n ∈ vaC c, zay n = true := fun n hn => by
 unfold vaC at hn
 rw [zil] at hn
 have hn := hn.resolve_right (by simp)
 obtain ⟨l, hl, hn⟩ := List.mem_flatten.1 hn
 obtain ⟨a, ha, rfl⟩ := List.mem_map.1 hl
 exact voS_ok _ n hn
noncomputable def giP (c : Cq) (ts : List Tm) : Bool := c.ok && decide (ts.length <= 60) && ts.all grT
noncomputable def giB (c : Cq) (ts : List Tm) : Bool := giP c ts && decide (ts.length ^ (vaC c).length <= 60) && zp5 c (vaC c) (zfb ts (vaC c).length)
noncomputable def giV (c : Cq) (ts : List Tm) : List Cq := if giB c ts = true then giR c (vaC c) (zfb ts (vaC c).length) [] else []
theorem qbr {ts : List Tm} {t : Tm} (h : t ∈ ts) : t.wt <= zgm ts := by
 have := zb1 Tm.wt ts t h
 unfold zgm; omega
set_option maxHeartbeats 4000000 in
theorem qeg (c : Cq) (ts : List Tm) (hcw : c.wt <= 1048576) (htw : zgm ts <= 1048576) : FC Tryz.prog 28 [cqD c, .one (tmS ts)] [.one (cqS (giV c ts)), bD (giB c ts)] := by
 have HV := zea c hcw
 have HG := zdb ts (fun t => !grT t) 72 [] fun t ht => qeo t (Nat.le_trans (qbr ht) htw)
 rw [show (ts.any fun t => !grT t) = !ts.all grT by rw [<- zw3 ts grT]; simp] at HG
 have hb : giB c ts = (giP c ts && decide (ts.length ^ (vaC c).length <= 60) && zp5 c (vaC c) (zfb ts (vaC c).length)) := rfl
 have hv : giV c ts = if giB c ts = true then giR c (vaC c) (zfb ts (vaC c).length) [] else [] := rfl
 have hp : giP c ts = (c.ok && decide (ts.length <= 60) && ts.all grT) := rfl
 simp only [cqD, zaw] at HV ⊢
 cases hok : c.ok
 ·rw [hok, Bool.false_and, Bool.false_and] at hp
  rw [hp, Bool.false_and, Bool.false_and] at hb
  rw [hb, if_neg (by simp)] at hv
  rw [hok] at HV
  rw [hv, hb]
  refine zda Tryz.call28 Tryz.func28 rfl (by kernel_rfl) (za4 (by kernel_rfl)) ?_
  simp -implicitDefEqProofs only [go_sem, Tryz.results28]
  refine callF (HV) (by simp -implicitDefEqProofs only [go_sem]) ?_
  simp -implicitDefEqProofs only [go_sem]
 rw [hok, Bool.true_and] at hp
 rw [hok] at HV
 by_cases h60 : ts.length <= 60
 ·have h60' : ((60 : Int) < (ts.length : Int)) = False := eq_false (by omega)
  rw [decide_eq_true h60, Bool.true_and] at hp
  cases hgr : ts.all grT
  ·rw [hgr] at hp HG
   rw [hp, Bool.false_and, Bool.false_and] at hb
   rw [hb, if_neg (by simp)] at hv
   rw [hv, hb]
   refine zda Tryz.call28 Tryz.func28 rfl (by kernel_rfl) (za4 (by kernel_rfl)) ?_
   simp -implicitDefEqProofs only [go_sem, Tryz.results28]
   refine callF (HV) (by simp -implicitDefEqProofs only [go_sem, h60']) ?_
   simp -implicitDefEqProofs only [go_sem, h60']
   refine callF (HG) (by simp -implicitDefEqProofs only [go_sem]) ?_
   simp -implicitDefEqProofs only [go_sem]
  ·rw [hgr] at hp HG
   rw [hp, Bool.true_and] at hb
   have HN := zgs c hok hcw
   have hnl := zz9 c
   have hnd : (vaC c).Nodup := zq2 c.vo
   have hgrd : ∀ l, l ∈ zfb ts (vaC c).length -> Grd ((vaC c).zip l) := fun l hl => zq4 (qb7 c) (by
    rw [List.all_eq_true]
    exact fun t ht => List.all_eq_true.1 hgr t (((zcv ts _ l).1 hl).2 t ht))
   change FC _ _ _ [.one (zd3 (vaC c))] at HN
   simp only [cqD, zaw] at HN
   refine zda Tryz.call28 Tryz.func28 rfl (by kernel_rfl) (za4 (by kernel_rfl)) ?_
   simp -implicitDefEqProofs only [go_sem, Tryz.results28]
   refine callF (HV) (by simp -implicitDefEqProofs only [go_sem, h60']) ?_
   simp -implicitDefEqProofs only [go_sem, h60']
   refine callF (HG) (by simp -implicitDefEqProofs only [go_sem]) ?_
   simp -implicitDefEqProofs only [go_sem]
   refine callF (HN) (by simp -implicitDefEqProofs only [go_sem]) ?_
   simp -implicitDefEqProofs only [go_sem]
   have hnn : (vaC c).length <= 1048576 := by omega
   refine zag (fun k : Nat => hd [(1, .one (.rn (tmS ts))), (2, .one (.bx 2 0)), (6, .one (.bx 6 0)), (7, vI ((ts.length ^ k : Nat) : Int)), (25, vI (vaC c).length), (26, vI k)] [(2, [.rn (liS c.lits)]), (6, [.ow 736 0])] [(736, ⟨true, 1, (vaC c).map fun s => [.str s], 0, true⟩)]) (fun k => k <= (vaC c).length /\ ts.length ^ k <= 60) (fun k => (vaC c).length - k) 0 (zab ?_) ⟨Nat.zero_le _, by simp⟩ ?_
   ·simp -implicitDefEqProofs only [go_sem]
    rfl
   ·intro k ⟨hk, hk60⟩
    by_cases hlt : k < (vaC c).length
    ·have hmul : ts.length ^ k * ts.length <= 60 * 60 := Nat.mul_le_mul hk60 h60
     have hps : ts.length ^ (k + 1) = ts.length ^ k * ts.length := Nat.pow_succ ..
     have hwm : IntKind.i64.wrap (((ts.length ^ k : Nat) : Int) * (ts.length : Int)) = ((ts.length ^ (k + 1) : Nat) : Int) := by
      rw [hps, <- Int.natCast_mul, zbt (by omega) (by omega)]
     by_cases h61 : ts.length ^ (k + 1) <= 60
     ·have h61' : ((60 : Int) < ((ts.length ^ (k + 1) : Nat) : Int)) = False := eq_false (by omega)
      simp -implicitDefEqProofs only [go_sem, hlt, hwm, h61']
      refine ⟨k + 1, ⟨hlt, h61⟩, by omega, zab ?_⟩
      simp -implicitDefEqProofs only [go_sem]
      rw [zan (by omega)]
     ·have h61' : ((60 : Int) < ((ts.length ^ (k + 1) : Nat) : Int)) = True := eq_true (by omega)
      have hbig : ¬ ts.length ^ (vaC c).length <= 60 := by
       have h1 : 0 < ts.length := Nat.pos_of_ne_zero fun h => by rw [h, Nat.zero_pow (by omega)] at h61; omega
       have := Nat.pow_le_pow_right h1 (show k + 1 <= (vaC c).length by omega)
       omega
      rw [decide_eq_false hbig, Bool.false_and] at hb
      rw [hb, if_neg (by simp)] at hv
      rw [hv, hb]
      simp -implicitDefEqProofs only [go_sem, hlt, hwm, h61']
    ·have hkn : k = (vaC c).length := by omega
     rw [hkn] at hk60
     rw [decide_eq_true hk60, Bool.true_and] at hb
     have HE := zq7 (g := 76) (bx := fun x : List Cq => [[(true, cqS x)]]) (m := 1) (fun _ => rfl) (fun x b hb p hp => by
       rw [List.mem_singleton.1 hb, List.mem_singleton] at hp
       rw [hp]) [[zd3 (vaC c)], cqC c] (js := [1, 2, 0]) (by simp) (Inv := zli c (vaC c) ts) (okl := fun l => l ∈ zfb ts (vaC c).length) (st := giS c (vaC c)) Tryz.call76 (fun x l hx hl ho => hx.step hl ho) (fun x l hx hl => qh8 c (vaC c) hnd x l ((zcv ts _ l).1 hl).1 (by have := hx.len; omega) hnn hcw (fun t ht => Nat.le_trans (qbr (((zcv ts _ l).1 hl).2 t ht)) htw) (zn0 hok (hgrd l hl)))
      ts (by omega) (vaC c).length hnn (fun l h1 h2 => (zcv ts _ l).2 ⟨h1, h2⟩) [] ⟨List.nodup_nil, by simp⟩
     rw [zpw] at HE
     have hrun := zzc c (vaC c) (zfb ts (vaC c).length) []
     rw [hrun.1] at HE
     replace hrun := hrun.2
     generalize (runT (giS c (vaC c)) (zfb ts (vaC c).length) []).2 = y at HE hrun
     change PC _ _ [[(true, cqS [])], [(false, zd3 (vaC c))], [(false, liS c.lits)]] _ [[(true, cqS y)], [(false, zd3 (vaC c))], [(false, liS c.lits)]] _ at HE
     cases hgo : zp5 c (vaC c) (zfb ts (vaC c).length)
     ·rw [hgo] at hb HE
      rw [hb, if_neg (by simp)] at hv
      rw [hv, hb]
      simp -implicitDefEqProofs only [go_sem, hlt]
      refine zcd (by simp -implicitDefEqProofs only [go_sem]) ?_
      simp -implicitDefEqProofs only [go_sem]
      refine frzO 736 rfl rfl ?_
      simp -implicitDefEqProofs only [go_sem]
      refine qgr [6, 8] [36, 38, 39] [8, 6, 2] [] (HE) (by decide) rfl (by simp -implicitDefEqProofs only [go_sem]) (by simp -implicitDefEqProofs only [go_sem]) (by simp -implicitDefEqProofs only [go_sem]) (by simp -implicitDefEqProofs only [go_sem]) ?_
      simp -implicitDefEqProofs only [go_sem]
     ·rw [hgo] at hb HE
      rw [hb, if_pos rfl, <- hrun hgo] at hv
      rw [hv, hb]
      simp -implicitDefEqProofs only [go_sem, hlt]
      refine zcd (by simp -implicitDefEqProofs only [go_sem]) ?_
      simp -implicitDefEqProofs only [go_sem]
      refine frzO 736 rfl rfl ?_
      simp -implicitDefEqProofs only [go_sem]
      refine qgr [6, 8] [36, 38, 39] [8, 6, 2] [] (HE) (by decide) rfl (by simp -implicitDefEqProofs only [go_sem]) (by simp -implicitDefEqProofs only [go_sem]) (by simp -implicitDefEqProofs only [go_sem]) (by simp -implicitDefEqProofs only [go_sem]) ?_
      simp -implicitDefEqProofs only [go_sem]
 ·have h60' : ((60 : Int) < (ts.length : Int)) = True := eq_true (by omega)
  rw [decide_eq_false h60, Bool.false_and] at hp
  rw [hp, Bool.false_and, Bool.false_and] at hb
  rw [hb, if_neg (by simp)] at hv
  rw [hv, hb]
  refine zda Tryz.call28 Tryz.func28 rfl (by kernel_rfl) (za4 (by kernel_rfl)) ?_
  simp -implicitDefEqProofs only [go_sem, Tryz.results28]
  refine callF (HV) (by simp -implicitDefEqProofs only [go_sem, h60']) ?_
  simp -implicitDefEqProofs only [go_sem, h60']
end Go.Proofs.YtnkagnjiljjpcaaGreat
namespace Go.Proofs.YtnkagnjiljjpcaaGreat
set_option linter.unusedSimpArgs false
set_option linter.unusedVariables false
set_option linter.unusedSectionVars false
set_option maxRecDepth 4000
open Go.RowKit
theorem qd3 (l : List (Str × Tm)) (hl : l.length <= 1048576) (x : Str) : FC Tryz.prog 190 [.agg [sbS l], sD x] [iD (zsa l fun p => p.1 == x)] := by
 unfold sbS
 refine zaq Tryz.call190 Tryz.func190 rfl (by kernel_rfl) (za4 (by kernel_rfl)) ?_
 simp -implicitDefEqProofs only [go_sem, Tryz.results190]
 refine zag (fun k : Nat => hd [(1, vT (.str x)), (2, .one (.bx 2 0)), (5, vI k)] [(2, [.t (.sl 3 (l.map bnC))])] []) (fun k => k <= l.length /\ ∀ p ∈ l.take k, (p.1 == x) = false) (fun k => l.length - k) 0 (zab ?_) ⟨Nat.zero_le _, by simp⟩ ?_
 ·simp -implicitDefEqProofs only [go_sem]
 ·intro k ⟨hk, hr⟩
  by_cases hlt : k < l.length
  ·have he := zuj l[k].1 l[k].2
   rw [show (l[k].1, l[k].2) = l[k] from rfl] at he
   simp -implicitDefEqProofs only [go_sem, hlt, zai, he]
   refine ⟨fun h => ?_, fun h => ⟨k + 1, ⟨hlt, zcu hlt hr h⟩, by omega, zab (by simp -implicitDefEqProofs only [go_sem]; rw [zan (by omega)])⟩⟩
   rw [zet hlt hr h]
  ·simp -implicitDefEqProofs only [go_sem, hlt]
   rw [List.take_of_length_le (by omega)] at hr
   rw [zf2 hr]
theorem zse {α : Type} (p : α -> Bool) : ∀ (l : List α) (h : l.findIdx p < l.length), l.find? p = some l[l.findIdx p]
 | [], h => by simp at h
 | a :: l, h => by
  cases ha : p a
  ·have h' : l.findIdx p < l.length := by
    rw [List.findIdx_cons, ha] at h
    simpa using h
   have := zse p l h'
   simp only [List.find?_cons, ha, List.findIdx_cons, cond_false, List.getElem_cons_succ]
   exact this
  ·simp [List.find?_cons, ha, List.findIdx_cons]
theorem zqv (l : List (Str × Tm)) (hl : l.length <= 1048576) (hw : ∀ p ∈ l, p.2.wt <= 1048576) (a : Tm) (ha : a.args.length <= 1048576) (H : ∀ x ∈ a.args, FC Tryz.prog 166 [.agg [sbS l], tmD x] [tmD (ze2 l x)]) : FC Tryz.prog 166 [.agg [sbS l], tmD a] [tmD (ze2 l a)] := by
 have hv := zjr l a
 have HV := zik a.name
 cases hva : zay a.name
 ·rw [hva, if_neg (by simp)] at hv
  rw [hva] at HV
  rw [hv]
  have e1 : tmD (.mk a.name (a.args.map (ze2 l))) = .agg [.str a.name, .sl 2 (a.args.map fun x => tmC (ze2 l x))] := by unfold tmD; rw [zaa]; simp only [Tm.name, Tm.args, List.map_map, Function.comp_def]
  rw [e1]
  simp only [tmD, zaa a] at H ⊢
  unfold sbS at H ⊢
  generalize l.map bnC = L at H ⊢
  refine zaq Tryz.call166 Tryz.func166 rfl (by kernel_rfl) (za4 (by kernel_rfl)) ?_
  simp -implicitDefEqProofs only [go_sem, Tryz.results166]
  refine callF (HV) (by simp -implicitDefEqProofs only [go_sem]) ?_
  simp -implicitDefEqProofs only [go_sem]
  refine zag (fun k : Nat => hd [(2, .one (.bx 2 0)), (3, .one (.bx 3 0)), (4, .one (.bx 4 0)), (6, .one (.bx 6 0)), (7, vI k)] [(2, [.t (.sl 3 L)]), (3, [.t (.str a.name), .t (tmS a.args)]), (4, [.t (.str []), .nl 2]), (6, [.t (.str a.name), .ow 3000 0])] [(3000, ⟨true, 2, (a.args.take k).map fun x => tmC (ze2 l x), 0, true⟩)]) (fun k => k <= a.args.length) (fun k => a.args.length - k) 0 (zab ?_) (Nat.zero_le _) ?_
  ·simp -implicitDefEqProofs only [go_sem]
  ·intro k hk
   by_cases hlt : k < a.args.length
   ·have HC := H a.args[k] (List.getElem_mem hlt)
    have hmin : min k a.args.length <= 4294967295 := by omega
    simp only [zaa a.args[k], zaa (ze2 l a.args[k])] at HC
    simp -implicitDefEqProofs only [go_sem, hlt]
    refine drawn (by kernel_rfl) ?_
    simp -implicitDefEqProofs only [go_sem, zai, hlt, zaa a.args[k]]
    refine zax (HC) (by simp -implicitDefEqProofs only [go_sem]) ?_
    simp -implicitDefEqProofs only [go_sem]
    refine zbh (by simp -implicitDefEqProofs only [go_sem]) ?_
    simp -implicitDefEqProofs only [go_sem]
    refine zhq true (by simp -implicitDefEqProofs only [go_sem, ne_eq, List.length_map, List.length_take, hmin]) ?_
    simp -implicitDefEqProofs only [go_sem, ne_eq, List.length_map, List.length_take, hmin]
    refine ⟨by kernel_rfl, k + 1, hlt, by omega, zab ?_⟩
    simp -implicitDefEqProofs only [go_sem]
    rw [zan (by omega), List.take_succ_eq_append_getElem hlt, List.map_append, List.map_singleton]
    simp only [zaa]
    trivial
   ·have ht : a.args.take k = a.args := List.take_of_length_le (by omega)
    simp -implicitDefEqProofs only [go_sem, hlt, ht]
 ·rw [hva, if_pos rfl] at hv
  rw [hva] at HV
  rw [hv]
  have HF := qd3 l hl a.name
  cases hany : l.any fun p => p.1 == a.name
  ·have hid : zsa l (fun p => p.1 == a.name) = -1 := by unfold zsa; rw [hany]; rfl
   have hfn : (l.find? fun p => p.1 == a.name) = none := by
    rw [List.find?_eq_none]
    intro p hp
    have := List.any_eq_false.1 hany p hp
    exact this
   rw [hid] at HF
   rw [hfn]
   have e1 : tmD (.mk a.name []) = .agg [.str a.name, .sl 2 []] := rfl
   show FC _ _ _ [tmD (.mk a.name [])]
   rw [e1]
   simp only [tmD, zaa a]
   unfold sbS at HF ⊢
   refine zaq Tryz.call166 Tryz.func166 rfl (by kernel_rfl) (za4 (by kernel_rfl)) ?_
   simp -implicitDefEqProofs only [go_sem, Tryz.results166]
   refine callF (HV) (by simp -implicitDefEqProofs only [go_sem]) ?_
   simp -implicitDefEqProofs only [go_sem]
   refine callF (HF) (by simp -implicitDefEqProofs only [go_sem]) ?_
   simp -implicitDefEqProofs only [go_sem]
  ·have hlt : l.findIdx (fun p => p.1 == a.name) < l.length := List.findIdx_lt_length.2 (List.any_eq_true.1 hany)
   have hid : zsa l (fun p => p.1 == a.name) = ((l.findIdx fun p => p.1 == a.name : Nat) : Int) := by unfold zsa; rw [if_pos hany]
   have hfn : (l.find? fun p => p.1 == a.name) = some l[l.findIdx fun p => p.1 == a.name] := by
    exact zse _ l hlt
   rw [hid] at HF
   rw [hfn]
   generalize (l.findIdx fun p => p.1 == a.name) = i at HF hlt ⊢
   have HK := zq1 l[i].2 (hw _ (List.getElem_mem hlt))
   have he := zuj l[i].1 l[i].2
   rw [show (l[i].1, l[i].2) = l[i] from rfl] at he
   show FC _ _ _ [tmD l[i].2]
   simp only [tmD, zaa a, zaa l[i].2] at HK ⊢
   have hi0 : ((i : Int) >= 0) = True := eq_true (by omega)
   have hi1 : (0 <= (i : Int)) = True := eq_true (by omega)
   unfold sbS at HF ⊢
   refine zaq Tryz.call166 Tryz.func166 rfl (by kernel_rfl) (za4 (by kernel_rfl)) ?_
   simp -implicitDefEqProofs only [go_sem, Tryz.results166]
   refine callF (HV) (by simp -implicitDefEqProofs only [go_sem]) ?_
   simp -implicitDefEqProofs only [go_sem]
   refine callF (HF) (by simp -implicitDefEqProofs only [go_sem, hi0, hi1, zai, hlt, he]) ?_
   simp -implicitDefEqProofs only [go_sem, hi0, hi1, zai, hlt, he]
   refine callF (HK) (by simp -implicitDefEqProofs only [go_sem]) ?_
   simp -implicitDefEqProofs only [go_sem]
theorem zvf (l : List (Str × Tm)) (hl : l.length <= 1048576) (hw : ∀ p ∈ l, p.2.wt <= 1048576) : ∀ a : Tm, a.wt <= 1048576 -> FC Tryz.prog 166 [.agg [sbS l], tmD a] [tmD (ze2 l a)] :=
 za7 fun m xs ih hs => by
  obtain ⟨h1, h2⟩ := Tm.wt_args hs
  exact zqv l hl hw (.mk m xs) h1 fun x hx => ih x hx (h2 x hx)
end Go.Proofs.YtnkagnjiljjpcaaGreat
namespace Go.Proofs.YtnkagnjiljjpcaaGreat
set_option linter.unusedSimpArgs false
set_option linter.unusedVariables false
set_option linter.unusedSectionVars false
set_option maxRecDepth 4000
open Go.RowKit
set_option maxHeartbeats 1000000 in
theorem qik (c : Cq) (hw : c.wt <= 1048576) : FC Tryz.prog 121 [cqD c] [cqD c] := by
 have hll : ∀ q ∈ c.lits, q.atom.wt <= 1048576 := fun q hq => Nat.le_trans (ziq hq) hw
 have hlen : c.lits.length <= 1048576 := by have := c.wt_eq; unfold zd8 at this; omega
 simp only [cqD, zaw]
 generalize c.lits = ls at hll hlen ⊢
 refine zaq Tryz.call121 Tryz.func121 rfl (by kernel_rfl) (za4 (by kernel_rfl)) ?_
 simp -implicitDefEqProofs only [go_sem, Tryz.results121]
 refine zag (fun k : Nat => hd [(1, .one (.bx 1 0)), (2, .one (.bx 2 0)), (3, .one (.bx 3 0)), (4, vI k)] [(1, [.t (liS ls)]), (2, [.nl 3]), (3, [.ow 3000 0])] [(3000, ⟨true, 3, (ls.take k).map liC, 0, true⟩)]) (fun k => k <= ls.length) (fun k => ls.length - k) 0 (zab ?_) (Nat.zero_le _) ?_
 ·simp -implicitDefEqProofs only [go_sem]
 ·intro k hk
  by_cases hlt : k < ls.length
  ·have hmin : min k ls.length <= 4294967295 := by omega
   have HL := zq1 ls[k].atom (hll _ (List.getElem_mem hlt))
   simp only [tmD, zaa ls[k].atom] at HL
   simp -implicitDefEqProofs only [go_sem, hlt]
   refine drawn (by kernel_rfl) ?_
   simp -implicitDefEqProofs only [go_sem, zai, hlt, zak ls[k]]
   refine zax (HL) (by simp -implicitDefEqProofs only [go_sem]) ?_
   simp -implicitDefEqProofs only [go_sem]
   refine zbh (by simp -implicitDefEqProofs only [go_sem]) ?_
   simp -implicitDefEqProofs only [go_sem]
   refine zhq true (by simp -implicitDefEqProofs only [go_sem, ne_eq, List.length_map, List.length_take, hmin]) ?_
   simp -implicitDefEqProofs only [go_sem, ne_eq, List.length_map, List.length_take, hmin]
   refine ⟨by kernel_rfl, k + 1, hlt, by omega, zab ?_⟩
   simp -implicitDefEqProofs only [go_sem]
   rw [zan (by omega), List.take_succ_eq_append_getElem hlt, List.map_append, List.map_singleton, zak ls[k]]
   trivial
  ·have ht : ls.take k = ls := List.take_of_length_le (by omega)
   simp -implicitDefEqProofs only [go_sem, hlt, ht]
set_option maxHeartbeats 1000000 in
theorem qdj (a b : Cq) (hw : a.wt <= 1048576) : FC Tryz.prog 120 [cqD a, cqD b] [bD (same a b)] := by
 have hlen : a.lits.length <= 1048576 := by have := a.wt_eq; unfold zd8 at this; omega
 rw [zyw]
 simp only [cqD, zaw]
 generalize a.lits = xs at hlen ⊢
 generalize b.lits = ys
 by_cases hl : xs.length = ys.length
 ·have hl0 : ((xs.length : Int) != (ys.length : Int)) = false := by simp [hl]
  refine zaq Tryz.call120 Tryz.func120 rfl (by kernel_rfl) (za4 (by kernel_rfl)) ?_
  simp -implicitDefEqProofs only [go_sem, Tryz.results120, hl0]
  refine zag (fun k : Nat => hd [(2, .one (.bx 2 0)), (3, .one (.bx 3 0)), (5, vI k)] [(2, [.t (liS xs)]), (3, [.t (liS ys)])] []) (fun k => k <= xs.length /\ same xs ys = same (xs.drop k) (ys.drop k)) (fun k => xs.length - k) 0 (zab ?_) ⟨Nat.zero_le _, rfl⟩ ?_
  ·simp -implicitDefEqProofs only [go_sem]
  ·intro k ⟨hk, hr⟩
   by_cases hlt : k < xs.length
   ·have hlt2 : k < ys.length := by omega
    rw [List.drop_eq_getElem_cons hlt, List.drop_eq_getElem_cons hlt2, zb9, zqm] at hr
    have HS := qdo xs[k].atom ys[k].atom
    simp only [tmD, zaa xs[k].atom, zaa ys[k].atom] at HS
    rw [<- zdv xs[k].pos] at hr
    simp -implicitDefEqProofs only [go_sem, hlt]
    refine drawn (by kernel_rfl) ?_
    cases hp : xs[k].pos == ys[k].pos
    ·rw [hp, Bool.false_and, Bool.false_and] at hr
     rw [hr]
     simp -implicitDefEqProofs only [go_sem, zai, hlt, hlt2, zak xs[k], zak ys[k], hp, Bool.not_false]
     kernel_rfl
    ·rw [hp, Bool.true_and] at hr
     simp -implicitDefEqProofs only [go_sem, zai, hlt, hlt2, zak xs[k], zak ys[k], hp, Bool.not_true]
     cases hs : same xs[k].atom ys[k].atom
     ·rw [hs] at HS
      rw [hs, Bool.false_and] at hr
      rw [hr]
      refine zjd (HS) (by simp -implicitDefEqProofs only [go_sem, Bool.not_false]) ?_
      simp -implicitDefEqProofs only [go_sem, Bool.not_false]
      kernel_rfl
     ·rw [hs] at HS
      rw [hs, Bool.true_and] at hr
      refine zjd (HS) (by simp -implicitDefEqProofs only [go_sem, Bool.not_true]) ?_
      simp -implicitDefEqProofs only [go_sem, Bool.not_true]
      refine ⟨by kernel_rfl, k + 1, ⟨hlt, hr⟩, by omega, zab ?_⟩
      simp -implicitDefEqProofs only [go_sem]
      rw [zan (by omega)]
   ·rw [List.drop_eq_nil_of_le (by omega), List.drop_eq_nil_of_le (by omega), zbb] at hr
    rw [hr]
    simp -implicitDefEqProofs only [go_sem, hlt]
 ·have hl0 : ((xs.length : Int) != (ys.length : Int)) = true := by rw [bne_iff_ne]; omega
  refine zaq Tryz.call120 Tryz.func120 rfl (by kernel_rfl) (za4 (by kernel_rfl)) ?_
  simp -implicitDefEqProofs only [go_sem, Tryz.results120, hl0]
  rw [zci.2 fun h => hl (by rw [h])]
end Go.Proofs.YtnkagnjiljjpcaaGreat
namespace Go.Proofs.YtnkagnjiljjpcaaGreat
set_option linter.unusedSimpArgs false
set_option linter.unusedVariables false
set_option linter.unusedSectionVars false
set_option maxRecDepth 4000
open Go.RowKit
def zfy : List Li -> Li -> List Li
 | [], l => [l]
 | a :: ls, l => if zdc a l < 0 then a :: zfy ls l else if zdc a l = 0 then a :: ls else l :: a :: ls
abbrev qis (ls : List Li) : Prop := ls.Pairwise fun a b => zdc a b < 0
theorem zmz : ∀ (ls : List Li) (l x : Li), x ∈ zfy ls l ↔ x = l \/ x ∈ ls
 | [], l, x => by simp [zfy]
 | a :: ls, l, x => by
  unfold zfy
  split
  ·rw [List.mem_cons, zmz ls l x, List.mem_cons]
   exact ⟨fun h => h.elim (fun h => Or.inr (Or.inl h)) fun h => h.elim Or.inl fun h => Or.inr (Or.inr h), fun h => h.elim (fun h => Or.inr (Or.inl h)) fun h => h.elim Or.inl fun h => Or.inr (Or.inr h)⟩
  ·split
   ·rename_i h
    have := zel.1 h
    subst this
    simp
   ·simp
theorem zqo {a b c : Li} (h1 : zdc a b < 0) (h2 : zdc b c < 0) : zdc a c < 0 := by
 have hO := zy2 zce
 have := hO.trans a b c (by unfold ltOf; exact decide_eq_true h1) (by unfold ltOf; exact decide_eq_true h2)
 unfold ltOf at this
 exact of_decide_eq_true this
theorem zsu : ∀ {ls : List Li} {l : Li}, qis ls -> qis (zfy ls l)
 | [], l, _ => by simp [zfy]
 | a :: ls, l, h => by
  obtain ⟨h1, h2⟩ := List.pairwise_cons.1 h
  unfold zfy
  split
  ·rename_i hc
   refine List.pairwise_cons.2 ⟨fun x hx => ?_, zsu h2⟩
   rcases (zmz ls l x).1 hx with rfl | hx
   ·exact hc
   ·exact h1 x hx
  ·split
   ·exact h
   ·rename_i hc hz
    have hla : zdc l a < 0 := by have := zce.neg a l; omega
    refine List.pairwise_cons.2 ⟨fun x hx => ?_, h⟩
    rcases List.mem_cons.1 hx with rfl | hx
    ·exact hla
    ·exact zqo hla (h1 x hx)
theorem zoi : ∀ (xs ls : List Li) (x : Li), x ∈ xs.foldl zfy ls ↔ x ∈ xs \/ x ∈ ls
 | [], ls, x => by simp
 | a :: xs, ls, x => by
  rw [List.foldl_cons, zoi xs, zmz, List.mem_cons]
  exact ⟨fun h => h.elim (fun h => Or.inl (Or.inr h)) fun h => h.elim (fun h => Or.inl (Or.inl h)) Or.inr, fun h => h.elim (fun h => h.elim (fun h => Or.inr (Or.inl h)) Or.inl) fun h => Or.inr (Or.inr h)⟩
theorem znp : ∀ (xs : List Li) {ls : List Li}, qis ls -> qis (xs.foldl zfy ls)
 | [], _, h => h
 | _ :: xs, _, h => znp xs (zsu h)
theorem qgi {a b : List Li} (ha : qis a) (hb : qis b) (h : ∀ x, x ∈ a ↔ x ∈ b) : a = b := by
 have hne : ∀ {x : Li}, ¬ zdc x x < 0 := fun {x} hx => by have := zce.neg x x; omega
 have na : a.Nodup := ha.imp fun hxy e => by subst e; exact hne hxy
 have nb : b.Nodup := hb.imp fun hxy e => by subst e; exact hne hxy
 have hp : a.Perm b := (List.perm_ext_iff_of_nodup na nb).2 h
 exact List.Perm.eq_of_pairwise (le := fun a b => zdc a b < 0) (fun x y _ _ h1 h2 => absurd (zqo h1 h2) hne) ha hb hp
theorem zu1 (ls : List Li) : zv2 ls = (kp ls ls.length).map fun i => ls.getD i ⟨false, .mk [] []⟩ := by
 have := qg5 ls ls id (⟨false, .mk [] []⟩ : Li)
 rw [List.map_id, List.map_id] at this
 exact this.symm
theorem qe7 {ls : List Li} (h : ls.Pairwise fun a b => ltOf zdc b a = false) : qis (zv2 ls) := by
 have hle : ∀ i j (hi : i < ls.length) (hj : j < ls.length), i < j -> ¬ zdc ls[j] ls[i] < 0 := fun i j hi hj hij => by
  have := List.pairwise_iff_getElem.1 h i j hi hj hij
  unfold ltOf at this
  exact of_decide_eq_false this
 rw [zu1]
 refine List.pairwise_map.2 ?_
 have hp : (kp ls ls.length).Pairwise (· < ·) := by unfold kp; exact List.Pairwise.filter _ List.pairwise_lt_range
 refine hp.imp_of_mem fun {i j} hi hj hij => ?_
 have hi' := qjd hi
 have hj' := qjd hj
 rw [List.getD_eq_getElem?_getD, List.getD_eq_getElem?_getD, List.getElem?_eq_getElem hi', List.getElem?_eq_getElem hj', Option.getD_some, Option.getD_some]
 have hk : zhp ls j = true := by unfold kp at hj; exact (List.mem_filter.1 hj).2
 rw [zhw (by omega) hj'] at hk
 have hne : ls[j] ≠ ls[j - 1]'(by omega) := by
  have : same ls[j] (ls[j - 1]'(by omega)) = false := by simpa using hk
  exact zci.1 this
 have h1 : zdc (ls[j - 1]'(by omega)) ls[j] < 0 := by
  have h2 := hle (j - 1) j (by omega) hj' (by omega)
  have h3 := zce.neg (ls[j - 1]'(by omega)) ls[j]
  have h4 : zdc (ls[j - 1]'(by omega)) ls[j] ≠ 0 := fun e => hne (zel.1 e).symm
  omega
 by_cases hc : i = j - 1
 ·subst hc; exact h1
 ·have h2 := hle i (j - 1) hi' (by omega) (by omega)
  have h3 := zce.neg ls[i] (ls[j - 1]'(by omega))
  by_cases h4 : zdc ls[i] (ls[j - 1]'(by omega)) = 0
  ·rw [zel.1 h4]; exact h1
  ·exact zqo (by omega) h1
theorem qdn (ls : List Li) (x : Li) : x ∈ zv2 ls ↔ x ∈ ls := by
 refine ⟨fun h => (zmd ls).subset h, fun h => ?_⟩
 obtain ⟨i, hi, rfl⟩ := List.getElem_of_mem h
 rw [zu1]
 have : ∀ i (hi : i < ls.length), ∃ j ∈ kp ls ls.length, ls.getD j ⟨false, .mk [] []⟩ = ls[i] := by
  intro i
  induction i with
  | zero =>
   intro hi
   refine ⟨0, ?_, by rw [List.getD_eq_getElem?_getD, List.getElem?_eq_getElem hi]; rfl⟩
   unfold kp
   exact List.mem_filter.2 ⟨List.mem_range.2 hi, by simp [zhp]⟩
  | succ i ih =>
   intro hi
   cases hk : zhp ls (i + 1)
   ·rw [zhw (by omega) hi] at hk
    have he : same ls[i + 1] (ls[i + 1 - 1]'(by omega)) = true := by simpa using hk
    obtain ⟨j, hj, hje⟩ := ih (by omega)
    refine ⟨j, hj, ?_⟩
    rw [hje, zbj.1 he]
    rfl
   ·refine ⟨i + 1, ?_, by rw [List.getD_eq_getElem?_getD, List.getElem?_eq_getElem hi]; rfl⟩
    unfold kp
    exact List.mem_filter.2 ⟨List.mem_range.2 hi, hk⟩
 obtain ⟨j, hj, hje⟩ := this i hi
 exact List.mem_map.2 ⟨j, hj, hje⟩
theorem qiz (ls : List Li) : (mkC ls).lits = ls.foldl zfy [] :=
 qgi (qe7 (ztv ls)) (znp ls List.Pairwise.nil) fun x => by
  show x ∈ zv2 (zux ls) ↔ _
  rw [qdn, (zec ls).mem_iff, zoi]
  simp
end Go.Proofs.YtnkagnjiljjpcaaGreat
namespace Go.Proofs.YtnkagnjiljjpcaaGreat
set_option linter.unusedSimpArgs false
set_option linter.unusedVariables false
set_option linter.unusedSectionVars false
set_option maxRecDepth 4000
open Go.RowKit
theorem zya : ∀ {ls : List Li} {k : Nat} {l : Li}, (∀ x ∈ ls.take k, zdc x l < 0) -> zfy ls l = ls.take k ++ zfy (ls.drop k) l
 | ls, 0, l, _ => rfl
 | [], k + 1, l, _ => rfl
 | a :: ls, k + 1, l, h => by
  have ha := h a (by simp)
  show (if zdc a l < 0 then a :: zfy ls l else _) = _
  rw [if_pos ha, zya (ls := ls) (k := k) fun x hx => h x (by simp [hx])]
  rfl
theorem ztx : ∀ (ls : List Li) (l : Li), (zfy ls l).length <= ls.length + 1
 | [], l => by simp [zfy]
 | a :: ls, l => by
  unfold zfy
  have := ztx ls l
  split
  ·simp; omega
  ·split <;> simp
theorem zm9 : ∀ (xs ls : List Li), (xs.foldl zfy ls).length <= ls.length + xs.length
 | [], ls => by simp
 | a :: xs, ls => by
  have h1 := zm9 xs (zfy ls a)
  have h2 := ztx ls a
  simp only [List.foldl_cons, List.length_cons]
  omega
theorem Wk.fsO {σ σ' : St} (e : Nat) (k : zao (σ.ev e) fun x => x.deep = false /\ x.on = true /\ Wk (σ.fs e x) σ') : Wk σ σ' := by
 obtain ⟨x, hx, h1, h2, h3⟩ := zam k
 exact (qh3 hx h1 h2).trans h3
set_option maxHeartbeats 4000000 in
theorem qdf (ls : List Li) (hw : ∀ l ∈ ls, l.wt <= 1048576) (hlen : ls.length <= 1048576) : RC Tryz.prog 167 [.one (liS ls)] [cqD ⟨ls.foldl zfy []⟩] := by
 simp only [cqD, zaw]
 refine zg9 Tryz.call167 Tryz.func167 rfl (by kernel_rfl) (za4 (by kernel_rfl)) ?_
 simp -implicitDefEqProofs only [go_sem, Tryz.results167]
 refine zim (by simp -implicitDefEqProofs only [go_sem]) ?_
 simp -implicitDefEqProofs only [go_sem]
 refine zag (fun i : Nat => hd [(0, vT (liS ls)), (2, .one (.bx 2 0)), (3, vT (liS ((ls.take i).foldl zfy []))), (4, vI i)] [(2, [.nl 3])] []) (fun i => i <= ls.length) (fun i => ls.length - i) 0 (zab ?_) (Nat.zero_le _) ?_
 ·simp -implicitDefEqProofs only [go_sem]
  rfl
 ·intro i hi
  by_cases hlt : i < ls.length
  ·have hsucc : (ls.take (i + 1)).foldl zfy [] = zfy ((ls.take i).foldl zfy []) ls[i] := by
    rw [List.take_succ_eq_append_getElem hlt, List.foldl_append]; rfl
   have hol : ((ls.take i).foldl zfy []).length <= i := by
    have := zm9 (ls.take i) []
    rw [List.length_take, List.length_nil] at this; omega
   generalize (ls.take i).foldl zfy [] = out at hsucc hol ⊢
   simp -implicitDefEqProofs only [go_sem, hlt]
   refine zag (fun k : Nat => hd [(0, vT (liS ls)), (2, .one (.bx 2 0)), (3, vT (liS out)), (4, vI i), (5, vI k)] [(2, [.nl 3])] []) (fun k => k <= out.length /\ ∀ x ∈ out.take k, zdc x ls[i] < 0) (fun k => out.length - k) 0 (zab ?_) ⟨Nat.zero_le _, by simp⟩ ?_
   ·simp -implicitDefEqProofs only [go_sem]
   ·intro k ⟨hk, hr⟩
    have hm1 : min k out.length <= 4294967296 := by omega
    have hm2 : min k out.length <= 4294967295 := by omega
    have hm3 : min k out.length + 1 + (out.length - k) <= 4294967296 := by omega
    have hat := zya hr
    have HO := zq1 ls[i].atom (hw _ (List.getElem_mem hlt))
    by_cases hkl : k < out.length
    ·have HC := zhm out[k] ls[i]
     simp only [liD, zak out[k], zak ls[i]] at HC
     have hz1 := zel (a := out[k]) (b := ls[i])
     rw [List.drop_eq_getElem_cons hkl] at hat
     have hat : zfy out ls[i] = out.take k ++ (if zdc out[k] ls[i] < 0 then out[k] :: zfy (out.drop (k + 1)) ls[i] else if zdc out[k] ls[i] = 0 then out[k] :: out.drop (k + 1) else ls[i] :: out[k] :: out.drop (k + 1)) := hat
     have hnx : zdc out[k] ls[i] < 0 -> ∀ x ∈ out.take (k + 1), zdc x ls[i] < 0 := fun hb x hx => by
      rw [List.take_succ_eq_append_getElem hkl] at hx
      rcases List.mem_append.1 hx with hx | hx
      ·exact hr x hx
      ·rw [List.mem_singleton.1 hx]; exact hb
     generalize zdc out[k] ls[i] = cc at HC hat hnx
     simp -implicitDefEqProofs only [go_sem, hkl]
     refine drawn (by kernel_rfl) ?_
     simp -implicitDefEqProofs only [go_sem, hkl, hlt, zai, zak out[k], zak ls[i]]
     refine zjd (HC) (by simp -implicitDefEqProofs only [go_sem]) ?_
     simp -implicitDefEqProofs only [go_sem]
     refine ⟨by kernel_rfl, fun h => ?_, fun h => ?_⟩
     ·have hc : cc < 0 := by simpa using h
      refine ⟨k + 1, ⟨hkl, hnx hc⟩, by omega, zab ?_⟩
      simp -implicitDefEqProofs only [go_sem]
      rw [zan (by omega)]
     ·have hc : ¬ cc < 0 := by simpa using h
      rw [if_neg hc] at hat
      refine drawn (by kernel_rfl) ?_
      simp -implicitDefEqProofs only [go_sem, hkl, hlt, zai, zak out[k], zak ls[i]]
      refine zjd (HC) (by simp -implicitDefEqProofs only [go_sem]) ?_
      simp -implicitDefEqProofs only [go_sem]
      refine ⟨by kernel_rfl, fun h2 => ?_, fun h2 => ?_⟩
      ·have hz : cc = 0 := by simpa using h2
       rw [if_pos hz, <- List.drop_eq_getElem_cons hkl, List.take_append_drop] at hat
       refine ⟨i + 1, hlt, by omega, zab ?_⟩
       simp -implicitDefEqProofs only [go_sem]
       rw [zan (by omega), hsucc, hat]
       exact ⟨rfl, rfl⟩
      ·have hz : ¬ cc = 0 := by simpa using h2
       rw [if_neg hz, <- List.drop_eq_getElem_cons hkl] at hat
       simp only [tmD, zaa ls[i].atom] at HO
       refine drawn (by kernel_rfl) ?_
       simp -implicitDefEqProofs only [go_sem, zai, hlt, zak ls[i]]
       refine zax (HO) (by simp -implicitDefEqProofs only [go_sem]) ?_
       simp -implicitDefEqProofs only [go_sem]
       refine ⟨by kernel_rfl, ?_⟩
       refine frzD 1857 ?_
       simp -implicitDefEqProofs only [go_sem]
       refine drawn (by kernel_rfl) ?_
       simp -implicitDefEqProofs only [go_sem, hk]
       refine zfo (by simp -implicitDefEqProofs only [go_sem, hk]) ?_
       simp -implicitDefEqProofs only [go_sem, hk]
       refine zhq false (by simp -implicitDefEqProofs only [go_sem, hk, ne_eq, Nat.zero_add, hm1, hm2, hm3, zbp, List.length_drop, List.length_take, List.length_append, List.length_map]) ?_
       simp -implicitDefEqProofs only [go_sem, hk, ne_eq, Nat.zero_add, hm1, hm2, hm3, zbp, List.length_drop, List.length_take, List.length_append, List.length_map]
       refine zfo (by simp -implicitDefEqProofs only [go_sem, hk]) ?_
       simp -implicitDefEqProofs only [go_sem, hk]
       refine zhq false (by simp -implicitDefEqProofs only [go_sem, hk, ne_eq, Nat.zero_add, hm1, hm2, hm3, zbp, List.length_drop, List.length_take, List.length_append, List.length_map]) ?_
       simp -implicitDefEqProofs only [go_sem, hk, ne_eq, Nat.zero_add, hm1, hm2, hm3, zbp, List.length_drop, List.length_take, List.length_append, List.length_map]
       refine zhq false (by simp -implicitDefEqProofs only [go_sem, hk, ne_eq, Nat.zero_add, hm1, hm2, hm3, zbp, List.length_drop, List.length_take, List.length_append, List.length_map]) ?_
       simp -implicitDefEqProofs only [go_sem, hk, ne_eq, Nat.zero_add, hm1, hm2, hm3, zbp, List.length_drop, List.length_take, List.length_append, List.length_map]
       refine ⟨by kernel_rfl, i + 1, hlt, by omega, Wk.fsO 1920 ?_⟩
       simp -implicitDefEqProofs only [go_sem]
       refine zab ?_
       simp -implicitDefEqProofs only [go_sem]
       rw [zan (by omega), hsucc, hat]
       refine ⟨?_, rfl⟩
       show T.sl 3 _ = T.sl 3 _
       rw [List.map_append, List.map_cons, List.map_take, List.map_drop, List.append_assoc]; rfl
    ·have hat : zfy out ls[i] = out.take k ++ ls[i] :: out.drop k := by
      rw [List.drop_eq_nil_of_le (by omega)] at hat ⊢
      exact hat
     simp -implicitDefEqProofs only [go_sem, hkl]
     refine drawn (by kernel_rfl) ?_
     simp -implicitDefEqProofs only [go_sem, hkl]
     refine ⟨by kernel_rfl, ?_⟩
     refine drawn (by kernel_rfl) ?_
     simp -implicitDefEqProofs only [go_sem, hkl]
     refine ⟨by kernel_rfl, ?_⟩
     simp only [tmD, zaa ls[i].atom] at HO
     refine drawn (by kernel_rfl) ?_
     simp -implicitDefEqProofs only [go_sem, zai, hlt, zak ls[i]]
     refine zax (HO) (by simp -implicitDefEqProofs only [go_sem]) ?_
     simp -implicitDefEqProofs only [go_sem]
     refine ⟨by kernel_rfl, ?_⟩
     refine frzD 1857 ?_
     simp -implicitDefEqProofs only [go_sem]
     refine drawn (by kernel_rfl) ?_
     simp -implicitDefEqProofs only [go_sem, hk]
     refine zfo (by simp -implicitDefEqProofs only [go_sem, hk]) ?_
     simp -implicitDefEqProofs only [go_sem, hk]
     refine zhq false (by simp -implicitDefEqProofs only [go_sem, hk, ne_eq, Nat.zero_add, hm1, hm2, hm3, zbp, List.length_drop, List.length_take, List.length_append, List.length_map]) ?_
     simp -implicitDefEqProofs only [go_sem, hk, ne_eq, Nat.zero_add, hm1, hm2, hm3, zbp, List.length_drop, List.length_take, List.length_append, List.length_map]
     refine zfo (by simp -implicitDefEqProofs only [go_sem, hk]) ?_
     simp -implicitDefEqProofs only [go_sem, hk]
     refine zhq false (by simp -implicitDefEqProofs only [go_sem, hk, ne_eq, Nat.zero_add, hm1, hm2, hm3, zbp, List.length_drop, List.length_take, List.length_append, List.length_map]) ?_
     simp -implicitDefEqProofs only [go_sem, hk, ne_eq, Nat.zero_add, hm1, hm2, hm3, zbp, List.length_drop, List.length_take, List.length_append, List.length_map]
     refine zhq false (by simp -implicitDefEqProofs only [go_sem, hk, ne_eq, Nat.zero_add, hm1, hm2, hm3, zbp, List.length_drop, List.length_take, List.length_append, List.length_map]) ?_
     simp -implicitDefEqProofs only [go_sem, hk, ne_eq, Nat.zero_add, hm1, hm2, hm3, zbp, List.length_drop, List.length_take, List.length_append, List.length_map]
     refine ⟨by kernel_rfl, i + 1, hlt, by omega, Wk.fsO 1920 ?_⟩
     simp -implicitDefEqProofs only [go_sem]
     refine zab ?_
     simp -implicitDefEqProofs only [go_sem]
     rw [zan (by omega), hsucc, hat]
     refine ⟨?_, rfl⟩
     show T.sl 3 _ = T.sl 3 _
     rw [List.map_append, List.map_cons, List.map_take, List.map_drop, List.append_assoc]; rfl
  ·have ht : ls.take i = ls := List.take_of_length_le (by omega)
   simp -implicitDefEqProofs only [go_sem, hlt, ht]
end Go.Proofs.YtnkagnjiljjpcaaGreat
namespace Go.Proofs.YtnkagnjiljjpcaaGreat
set_option linter.unusedSimpArgs false
set_option linter.unusedVariables false
set_option linter.unusedSectionVars false
set_option maxRecDepth 4000
open Go.RowKit
def clP (ls : List Li) (ps : List (Str × Tm)) : List Li := ls.map fun l => ⟨l.pos, ze2 ps l.atom⟩
theorem mkC_eq (L : List Li) : mkC L = ⟨L.foldl zfy []⟩ := by
 have := qiz L
 cases h : mkC L
 rw [h] at this
 simp only at this
 rw [this]
set_option maxHeartbeats 2000000 in
theorem zxt (ls : List Li) (ps : List (Str × Tm)) (hpl : ps.length <= 1048576) (hps : ∀ p ∈ ps, p.2.wt <= 1048576) (hlw : ∀ l ∈ ls, l.wt <= 1048576) (hlen : ls.length <= 1048576) (hLw : zd8 (clP ls ps) <= 1048576) :
  RC Tryz.prog 119 [.agg [sbS ps], .one (liS ls)] [cqD (ifC (mkC (clP ls ps)) (zjs (clP ls ps))), bD (zjs (clP ls ps))] := by
 have hLl : ∀ l ∈ clP ls ps, l.wt <= 1048576 := fun l hl => by
  have := zb1 Li.wt _ l hl
  unfold zd8 at hLw; omega
 have hLn : (clP ls ps).length = ls.length := by unfold clP; simp
 have hLg : ∀ k (h : k < ls.length), (clP ls ps)[k]'(by rw [hLn]; exact h) = ⟨ls[k].pos, ze2 ps ls[k].atom⟩ := fun k h => by unfold clP; rw [List.getElem_map]
 have HM := qdf (clP ls ps) hLl (by omega)
 rw [<- mkC_eq] at HM
 have HG := zlo (mkC (clP ls ps)) (Nat.le_trans (zoe _) hLw)
 have hmo : zjs (clP ls ps) = ((clP ls ps).all (fun l => l.atom.atomOk) && (mkC (clP ls ps)).ok) := rfl
 generalize hLd : clP ls ps = L at *
 have hA : ∀ k (h : k < ls.length), FC Tryz.prog 166 [.agg [sbS ps], tmD ls[k].atom] [tmD (ze2 ps ls[k].atom)] := fun k h => zvf ps hpl hps ls[k].atom (hlw _ (List.getElem_mem h))
 simp only [cqD, zaw] at HM HG ⊢
 unfold sbS at hA ⊢
 refine zg9 Tryz.call119 Tryz.func119 rfl (by kernel_rfl) (za4 (by kernel_rfl)) ?_
 simp -implicitDefEqProofs only [go_sem, Tryz.results119]
 refine zcd (by simp -implicitDefEqProofs only [go_sem]) ?_
 simp -implicitDefEqProofs only [go_sem]
 refine zag (fun k : Nat => hd [(1, vT (liS ls)), (2, .one (.bx 2 0)), (4, .one (.bx 4 0)), (6, .one (.ow 320 0)), (7, vI k)] [(2, [.t (.sl 3 (ps.map bnC))]), (4, [.nl 3])] [(320, ⟨true, 3, (L.take k).map liC, 0, true⟩)]) (fun k => k <= ls.length /\ (L.take k).all (fun l => l.atom.atomOk) = true) (fun k => ls.length - k) 0 (zab ?_) ⟨Nat.zero_le _, rfl⟩ ?_
 ·simp -implicitDefEqProofs only [go_sem]
 ·intro k ⟨hk, hr⟩
  by_cases hlt : k < ls.length
  ·have hkL : k < L.length := by omega
   have HA := hA k hlt
   have hgk := hLg k hlt
   have HT := ztg (ze2 ps ls[k].atom) (by have := hLl L[k] (List.getElem_mem hkL); rw [hgk] at this; exact Nat.le_trans this (by omega))
   have hmin : min k L.length <= 4294967295 := by omega
   have hall : (L.take (k + 1)).all (fun l => l.atom.atomOk) = (ze2 ps ls[k].atom).atomOk := by
    rw [List.take_succ_eq_append_getElem hkL, List.all_append, hr, hgk]; simp
   have hrow : (L.take (k + 1)).map liC = (L.take k).map liC ++ [[.bool ls[k].pos, .str (ze2 ps ls[k].atom).name, .sl 2 ((ze2 ps ls[k].atom).args.map tmC)]] := by
    rw [List.take_succ_eq_append_getElem hkL, List.map_append, List.map_singleton, hgk]; rfl
   simp only [tmD, zaa ls[k].atom, zaa (ze2 ps ls[k].atom)] at HA HT
   simp -implicitDefEqProofs only [go_sem, hlt]
   refine drawn (by kernel_rfl) ?_
   simp -implicitDefEqProofs only [go_sem, hlt, zai, zak ls[k]]
   refine zax (HA) (by simp -implicitDefEqProofs only [go_sem]) ?_
   simp -implicitDefEqProofs only [go_sem]
   refine ⟨by kernel_rfl, ?_⟩
   cases hat : (ze2 ps ls[k].atom).atomOk
   ·rw [hat] at HT hall
    have hbad : zjs L = false := by
     rw [hmo]
     have : L.all (fun l => l.atom.atomOk) = false := by
      rw [List.all_eq_false]
      exact ⟨L[k], List.getElem_mem hkL, by rw [hgk]; simp [hat]⟩
     rw [this]; rfl
    rw [hbad]
    simp only [ifC, Bool.false_eq_true, if_false]
    refine callF (HT) (by simp -implicitDefEqProofs only [go_sem]) ?_
    simp -implicitDefEqProofs only [go_sem]
   ·rw [hat] at HT hall
    refine callF (HT) (by simp -implicitDefEqProofs only [go_sem]) ?_
    simp -implicitDefEqProofs only [go_sem]
    refine drawn (by kernel_rfl) ?_
    simp -implicitDefEqProofs only [go_sem, hlt, zai, zak ls[k]]
    refine zbh (by simp -implicitDefEqProofs only [go_sem]) ?_
    simp -implicitDefEqProofs only [go_sem]
    refine zhq true (by simp -implicitDefEqProofs only [go_sem, ne_eq, List.length_map, List.length_take, hmin]) ?_
    simp -implicitDefEqProofs only [go_sem, ne_eq, List.length_map, List.length_take, hmin]
    refine ⟨by kernel_rfl, k + 1, ⟨hlt, hall⟩, by omega, zab ?_⟩
    simp -implicitDefEqProofs only [go_sem]
    rw [zan (by omega), hrow]
    trivial
  ·have ht : L.take k = L := List.take_of_length_le (by omega)
   rw [ht] at hr
   rw [hr, Bool.true_and] at hmo
   rw [hmo]
   cases hok : (mkC L).ok
   ·rw [hok] at HG
    simp only [ifC, Bool.false_eq_true, if_false]
    simp -implicitDefEqProofs only [go_sem, hlt, ht]
    refine frzO 320 rfl rfl ?_
    simp -implicitDefEqProofs only [go_sem]
    refine callR (HM) (by simp -implicitDefEqProofs only [go_sem]) ?_
    simp -implicitDefEqProofs only [go_sem]
    refine callF (HG) (by simp -implicitDefEqProofs only [go_sem]) ?_
    simp -implicitDefEqProofs only [go_sem]
   ·rw [hok] at HG
    simp only [ifC, if_true]
    simp -implicitDefEqProofs only [go_sem, hlt, ht]
    refine frzO 320 rfl rfl ?_
    simp -implicitDefEqProofs only [go_sem]
    refine callR (HM) (by simp -implicitDefEqProofs only [go_sem]) ?_
    simp -implicitDefEqProofs only [go_sem]
    refine callF (HG) (by simp -implicitDefEqProofs only [go_sem]) ?_
    simp -implicitDefEqProofs only [go_sem]
end Go.Proofs.YtnkagnjiljjpcaaGreat
namespace Go.Proofs.YtnkagnjiljjpcaaGreat
set_option linter.unusedSimpArgs false
set_option linter.unusedVariables false
set_option linter.unusedSectionVars false
set_option maxRecDepth 4000
open Go.RowKit
section
variable {α β : Type}
def zjw (xs : List α) : Nat -> List (List α)
 | 0 => [[]]
 | n + 1 => (zjw xs n).flatMap fun l => xs.map fun t => l ++ [t]
theorem zhz (f : α -> β) (xs : List α) : ∀ n, zjw (xs.map f) n = (zjw xs n).map (List.map f)
 | 0 => rfl
 | n + 1 => by
  rw [zjw, zjw, zhz f xs n, List.flatMap_map, List.map_flatMap]
  congr 1
  funext l
  rw [List.map_map, List.map_map]
  congr 1
  funext t
  simp
theorem zmw (xs : List α) : ∀ n : Nat, (zjw xs n).length = xs.length ^ n
 | 0 => rfl
 | n + 1 => by
  have : ∀ L : List (List α), (L.flatMap fun l => xs.map fun t => l ++ [t]).length = L.length * xs.length := by
   intro L
   induction L with
   | nil => simp
   | cons l L ih => rw [List.flatMap_cons, List.length_append, ih, List.length_map, List.length_cons, Nat.add_mul]; omega
  rw [zjw, this, zmw xs n, Nat.pow_succ]
theorem zla (xs : List α) : ∀ n, ∀ l ∈ zjw xs n, l.length = n /\ ∀ t ∈ l, t ∈ xs
 | 0, l, h => by
  rw [zjw, List.mem_singleton] at h
  subst h
  exact ⟨rfl, by simp⟩
 | n + 1, l, h => by
  rw [zjw, List.mem_flatMap] at h
  obtain ⟨a, ha, h⟩ := h
  obtain ⟨t, ht, rfl⟩ := List.mem_map.1 h
  obtain ⟨h1, h2⟩ := zla xs n a ha
  refine ⟨by simp [h1], fun u hu => ?_⟩
  rcases List.mem_append.1 hu with hu | hu
  ·exact h2 u hu
  ·rw [List.mem_singleton.1 hu]; exact ht
def zhg (xs : List α) (most : Nat) : Nat -> Nat -> List (List α) × Bool
 | 0, i => (zjw xs i, true)
 | r + 1, i => if (zjw xs (i + 1)).length <= most then zhg xs most r (i + 1) else (zjw xs i, false)
end
abbrev rwS (L : List (List (List T))) : T := .sl 1 (L.map fun l => [.sl 2 l])
theorem qah {α β : Type} (f : α -> List β) (L : List α) (k : Nat) (h : k < L.length) : ((L.take (k + 1)).flatMap f) = (L.take k).flatMap f ++ f L[k] := by
 rw [List.take_succ_eq_append_getElem h, List.flatMap_append]; simp
set_option maxHeartbeats 4000000 in
theorem l16F_c (ft : List (List T)) (hsh : ∀ r ∈ ft, ∃ s ao n c, r = [.str s, .vs ao n c]) (n most : Nat) (hft : ft.length <= 1048576) (hn : n <= 1048576) (hm : most <= 1048576) :
  RC Tryz.prog 52 [.one (.sl 2 ft), iD n, iD most] [.one (rwS (zhg ft most n 0).1), bD (zhg ft most n 0).2] := by
 refine zg9 Tryz.call52 Tryz.func52 rfl (by kernel_rfl) (za4 (by kernel_rfl)) ?_
 simp -implicitDefEqProofs only [go_sem, Tryz.results52]
 refine zim (by simp -implicitDefEqProofs only [go_sem]) ?_
 simp -implicitDefEqProofs only [go_sem]
 refine zim (by simp -implicitDefEqProofs only [go_sem]) ?_
 simp -implicitDefEqProofs only [go_sem]
 refine zag (fun i : Nat => hd [(0, vT (.sl 2 ft)), (1, vI n), (2, vI most), (8, vT (rwS (zjw ft i))), (9, vI i)] [] []) (fun i => i <= n /\ (i = 0 \/ (zjw ft i).length <= most) /\ zhg ft most n 0 = zhg ft most (n - i) i) (fun i => n - i) 0 (zab ?_) ⟨Nat.zero_le _, Or.inl rfl, rfl⟩ ?_
 ·simp -implicitDefEqProofs only [go_sem]
  rfl
 ·intro i ⟨hi, h0, heq⟩
  by_cases hin : i < n
  ·have hin' : ((i : Int) < (n : Int)) = True := eq_true (by omega)
   obtain ⟨r, hr⟩ : ∃ r, n - i = r + 1 := ⟨n - i - 1, by omega⟩
   rw [hr, zhg] at heq
   have hLl : (zjw ft i).length <= 1048577 := by
    rcases h0 with rfl | h0
    ·show 1 <= _; omega
    ·omega
   have hnx : zjw ft (i + 1) = (zjw ft i).flatMap fun l => ft.map fun t => l ++ [t] := rfl
   have hel := zla ft i
   rw [hnx] at heq
   generalize hO : zjw ft i = out at *
   have hfl : ∀ l ∈ out, ∀ c ∈ l.flatten, c.flat = true := fun l hl c hc => by
    obtain ⟨q, hq, hc⟩ := List.mem_flatten.1 hc
    obtain ⟨s, ao, n, cc, rfl⟩ := hsh q ((hel l hl).2 q hq)
    simp only [List.mem_cons, List.not_mem_nil, or_false] at hc
    rcases hc with rfl | rfl <;> rfl
   simp -implicitDefEqProofs only [go_sem, hin']
   refine zcd (by simp -implicitDefEqProofs only [go_sem]) ?_
   simp -implicitDefEqProofs only [go_sem]
   refine zag (fun k : Nat => hd [(0, vT (.sl 2 ft)), (1, vI n), (2, vI most), (8, vT (rwS out)), (9, vI i), (10, .one (.ow 640 0)), (11, vI k)] [] [(640, ⟨true, 1, ((out.take k).flatMap fun l => ft.map fun t => l ++ [t]).map fun l => [.sl 2 l], 0, true⟩)]) (fun k => k <= out.length /\ ((out.take k).flatMap fun l => ft.map fun t => l ++ [t]).length <= most) (fun k => out.length - k) 0 (zab ?_) ⟨Nat.zero_le _, by simp⟩ ?_
   ·simp -implicitDefEqProofs only [go_sem]
    rfl
   ·intro k ⟨hk, hkm⟩
    by_cases hlk : k < out.length
    ·have hpart := qah (fun l => ft.map fun t => l ++ [t]) out k hlk
     have hpre : ∀ j, j <= ft.length -> ((out.take k).flatMap fun l => ft.map fun t => l ++ [t]).length + j <= (out.flatMap fun l => ft.map fun t => l ++ [t]).length := fun j hj => by
      have h1 : ((out.take (k + 1)).flatMap fun l => ft.map fun t => l ++ [t]).length <= (out.flatMap fun l => ft.map fun t => l ++ [t]).length := by
       conv => rhs; rw [<- List.take_append_drop (k + 1) out, List.flatMap_append, List.length_append]
       omega
      rw [hpart, List.length_append, List.length_map] at h1
      omega
     have hlo := (hel out[k] (List.getElem_mem hlk)).1
     have hflk := hfl out[k] (List.getElem_mem hlk)
     generalize ((out.take k).flatMap fun l => ft.map fun t => l ++ [t]) = P at hkm hpart hpre ⊢
     simp -implicitDefEqProofs only [go_sem, hlk]
     refine zag (fun j : Nat => hd [(0, vT (.sl 2 ft)), (1, vI n), (2, vI most), (8, vT (rwS out)), (9, vI i), (10, .one (.ow 640 0)), (11, vI k), (12, vI j)] [] [(640, ⟨true, 1, (P ++ (ft.take j).map fun t => out[k] ++ [t]).map fun l => [.sl 2 l], 0, true⟩)]) (fun j => j <= ft.length /\ P.length + j <= most) (fun j => ft.length - j) 0 (zab ?_) ⟨Nat.zero_le _, hkm⟩ ?_
     ·simp -implicitDefEqProofs only [go_sem]
     ·intro j ⟨hj, hjm⟩
      have hPl : (P ++ (ft.take j).map fun t => out[k] ++ [t]).length = P.length + j := by
       rw [List.length_append, List.length_map, List.length_take]; omega
      by_cases hlj : j < ft.length
      ·obtain ⟨s, ao, nn, cc, hrow⟩ := hsh ft[j] (List.getElem_mem hlj)
       have hrs : (P ++ (ft.take (j + 1)).map fun t => out[k] ++ [t]) = (P ++ (ft.take j).map fun t => out[k] ++ [t]) ++ [out[k] ++ [[.str s, .vs ao nn cc]]] := by
        rw [List.take_succ_eq_append_getElem hlj, List.map_append, List.map_singleton, List.append_assoc, hrow]
       have hget : ft.getD j [] = [.str s, .vs ao nn cc] := by rw [List.getD_eq_getElem?_getD, List.getElem?_eq_getElem hlj]; exact hrow
       generalize (P ++ (ft.take j).map fun t => out[k] ++ [t]) = W at hPl hrs ⊢
       by_cases hmost : P.length + j = most
       ·have hmost' : ((W.length : Int) == (most : Int)) = true := by rw [beq_iff_eq]; omega
        have hfail : ¬ (out.flatMap fun l => ft.map fun t => l ++ [t]).length <= most := by
         have := hpre (j + 1) (by omega)
         omega
        rw [if_neg hfail] at heq
        rw [heq]
        simp -implicitDefEqProofs only [go_sem, hlj, hmost']
       ·have hmost' : ((W.length : Int) == (most : Int)) = false := by rw [beq_eq_false_iff_ne]; omega
        have hb1 : out[k].length <= 4294967295 := by omega
        have hb2 : W.length <= 4294967295 := by omega
        simp -implicitDefEqProofs only [go_sem, hlj, hmost']
        refine drawn (by kernel_rfl) ?_
        have hkget : (out.map fun l => [T.sl 2 l]).getD k [] = [.sl 2 out[k]] := by rw [List.getD_eq_getElem?_getD, List.getElem?_map, List.getElem?_eq_getElem hlk]; rfl
        simp -implicitDefEqProofs only [go_sem, hlk, hlj, hkget, hget]
        have hb3 : out[k].length <= 4294967296 := by omega
        have hfr : flR out[k] = true := by
         have : ∀ l : List (List T), (∀ q ∈ l, q ∈ ft) -> flR l = true := by
          intro l
          induction l with
          | nil => intro _; rfl
          | cons q l ih =>
           intro h
           obtain ⟨s, ao, n, c, rfl⟩ := hsh q (h q (by simp))
           rw [flR, ih fun x hx => h x (by simp [hx])]
           rfl
         exact this _ (hel out[k] (List.getElem_mem hlk)).2
        refine zbh (by simp -implicitDefEqProofs only [go_sem, hlk, hlj, hkget, hget, ne_eq, not_false_eq_true, hb1, hb2, hb3, hfr, Nat.zero_add, List.length_map, List.length_append]) ?_
        simp -implicitDefEqProofs only [go_sem, hlk, hlj, hkget, hget, ne_eq, not_false_eq_true, hb1, hb2, hb3, hfr, Nat.zero_add, List.length_map, List.length_append]
        refine zhq true (by simp -implicitDefEqProofs only [go_sem, hlk, hlj, hkget, hget, ne_eq, not_false_eq_true, hb1, hb2, hb3, hfr, Nat.zero_add, List.length_map, List.length_append]) ?_
        simp -implicitDefEqProofs only [go_sem, hlk, hlj, hkget, hget, ne_eq, not_false_eq_true, hb1, hb2, hb3, hfr, Nat.zero_add, List.length_map, List.length_append]
        refine zbh (by simp -implicitDefEqProofs only [go_sem, hlk, hlj, hkget, hget, ne_eq, not_false_eq_true, hb1, hb2, hb3, hfr, Nat.zero_add, List.length_map, List.length_append]) ?_
        simp -implicitDefEqProofs only [go_sem, hlk, hlj, hkget, hget, ne_eq, not_false_eq_true, hb1, hb2, hb3, hfr, Nat.zero_add, List.length_map, List.length_append]
        refine zhq true (by simp -implicitDefEqProofs only [go_sem, hlk, hlj, hkget, hget, ne_eq, not_false_eq_true, hb1, hb2, hb3, hfr, Nat.zero_add, List.length_map, List.length_append]) ?_
        simp -implicitDefEqProofs only [go_sem, hlk, hlj, hkget, hget, ne_eq, not_false_eq_true, hb1, hb2, hb3, hfr, Nat.zero_add, List.length_map, List.length_append]
        refine zbh (by simp -implicitDefEqProofs only [go_sem, hlk, hlj, hkget, hget, ne_eq, not_false_eq_true, hb1, hb2, hb3, hfr, Nat.zero_add, List.length_map, List.length_append]) ?_
        simp -implicitDefEqProofs only [go_sem, hlk, hlj, hkget, hget, ne_eq, not_false_eq_true, hb1, hb2, hb3, hfr, Nat.zero_add, List.length_map, List.length_append]
        refine zhq true (by simp -implicitDefEqProofs only [go_sem, hlk, hlj, hkget, hget, ne_eq, not_false_eq_true, hb1, hb2, hb3, hfr, Nat.zero_add, List.length_map, List.length_append]) ?_
        simp -implicitDefEqProofs only [go_sem, hlk, hlj, hkget, hget, ne_eq, not_false_eq_true, hb1, hb2, hb3, hfr, Nat.zero_add, List.length_map, List.length_append]
        refine ⟨by kernel_rfl, j + 1, ⟨hlj, by omega⟩, by omega, zab ?_⟩
        simp -implicitDefEqProofs only [go_sem]
        rw [zan (by omega), hrs, List.map_append]
        exact ⟨rfl, rfl⟩
      ·have ht : ft.take j = ft := List.take_of_length_le (by omega)
       simp -implicitDefEqProofs only [go_sem, hlj]
       refine ⟨k + 1, ⟨hlk, by rw [hpart, List.length_append, List.length_map]; omega⟩, by omega, zab ?_⟩
       simp -implicitDefEqProofs only [go_sem]
       rw [zan (by omega), hpart, ht]
       exact ⟨rfl, rfl⟩
    ·have ht : out.take k = out := List.take_of_length_le (by omega)
     rw [ht] at hkm
     rw [if_pos hkm] at heq
     simp -implicitDefEqProofs only [go_sem, hlk, ht]
     refine ⟨i + 1, ⟨hin, Or.inr (by rw [hnx]; exact hkm), by rw [heq, show n - (i + 1) = r by omega]⟩, by omega, Wk.fzO 640 ?_⟩
     simp -implicitDefEqProofs only [go_sem]
     refine zab ?_
     simp -implicitDefEqProofs only [go_sem]
     rw [zan (by omega), hnx]
     exact ⟨rfl, rfl⟩
  ·have hin' : ((i : Int) < (n : Int)) = False := eq_false (by omega)
   rw [show n - i = 0 by omega, zhg] at heq
   rw [heq]
   simp -implicitDefEqProofs only [go_sem, hin']
theorem zlb {α β : Type} (f : α -> β) (xs : List α) (most : Nat) : ∀ (r i : Nat), zhg (xs.map f) most r i = ((zhg xs most r i).1.map (List.map f), (zhg xs most r i).2)
 | 0, i => by rw [zhg, zhg, zhz]
 | r + 1, i => by
  rw [zhg, zhg, zhz, List.length_map]
  split
  ·exact zlb f xs most r (i + 1)
  ·rw [zhz]
theorem zxw {α : Type} (xs : List α) (most : Nat) : ∀ (r i : Nat), ∀ l ∈ (zhg xs most r i).1, ∀ t ∈ l, t ∈ xs
 | 0, i => fun l hl => (zla xs i l hl).2
 | r + 1, i => by
  rw [zhg]
  split
  ·exact zxw xs most r (i + 1)
  ·exact fun l hl => (zla xs i l hl).2
theorem zsv {w : World} {A : Nat -> Prop} : ∀ {zl : List (List T × Tm)}, (∀ z ∈ zl, zit w A z.1 z.2) -> zbn w A (zl.map (·.1)) (zl.map (·.2))
 | [], _ => rfl
 | z :: zl, h => ⟨z.2, _, rfl, h z (by simp), zsv fun q hq => h q (by simp [hq])⟩
theorem zbn.zip {w : World} {A : Nat -> Prop} : ∀ {rs : List (List T)} {ts : List Tm}, zbn w A rs ts -> ∀ z ∈ rs.zip ts, zit w A z.1 z.2
 | [], _, _, z, hz => by simp at hz
 | _ :: _, _, h, z, hz => by
  obtain ⟨t, ts, rfl, h1, h2⟩ := h
  rcases List.mem_cons.1 hz with rfl | hz
  ·exact h1
  ·exact zbn.zip h2 z hz
theorem znc {w : World} {A : Nat -> Prop} {b : Nat} : ∀ (L : List (List (List T × Tm))) (o : Nat), (∀ zl ∈ L, ∀ z ∈ zl, zit w A z.1 z.2) -> zaj w A b o 1 (L.map fun zl => [.sl 2 (zl.map (·.1))]) -> zaj w A b o 1 (L.map fun zl => [tmS (zl.map (·.2))])
 | [], o, _, _ => by unfold zaj; trivial
 | zl :: L, o, hz, h => by
  rw [List.map_cons, zaj] at h ⊢
  obtain ⟨_, ⟨⟨v, h1, h2⟩, _⟩, h3⟩ := h
  exact ⟨rfl, ⟨⟨v, h1, zah.deepL (fun _ q => q) (fun _ q => q) h2 (zsv (hz zl (by simp)))⟩, trivial⟩, znc L (o + 1) (fun q hq => hz q (by simp [hq])) h3⟩
abbrev tmLL (xs : List (List Tm)) : T := .sl 1 (xs.map fun s => [tmS s])
theorem zwd (ts : List Tm) (n most : Nat) (hts : ts.length <= 1048576) (hn : n <= 1048576) (hm : most <= 1048576) :
  RC Tryz.prog 52 [.one (tmS ts), iD n, iD most] [.one (tmLL (zhg ts most n 0).1), bD (zhg ts most n 0).2] := by
 refine ⟨Tryz.call52, fun w vs A hv => ?_⟩
 obtain ⟨v, us, rfl, h1, h2⟩ := hv
 obtain ⟨ft, f1, f2⟩ := zah.flatL (show zah w _ (tmS ts) v from h1)
 have hlen := f2.len
 refine ((l16F_c ft f2.shape n most (by omega) hn hm).2 w (v :: us) A ⟨v, us, rfl, f1, h2⟩).mono ?_
 rintro e w' ⟨rs, rfl, hr, hb⟩
 refine ⟨rs, rfl, ?_, hb⟩
 obtain ⟨u1, _, rfl, r1, r2⟩ := hr
 have e1 : (ft.zip ts).map (·.1) = ft := List.map_fst_zip (by omega)
 have e2 : (ft.zip ts).map (·.2) = ts := List.map_snd_zip (by omega)
 have g1 := zlb (·.1) (ft.zip ts) most n 0
 have g2 := zlb (·.2) (ft.zip ts) most n 0
 rw [e1] at g1
 rw [e2] at g2
 have hel := zxw (ft.zip ts) most n 0
 rw [g1] at r1 r2
 rw [g2]
 generalize zhg (ft.zip ts) most n 0 = Z at r1 r2 hel ⊢
 refine ⟨u1, _, rfl, ?_, r2⟩
 have hF : ∀ zl ∈ Z.1, ∀ z ∈ zl, zit w' (fun b => b < w'.heap.size /\ (A b \/ w.heap.size <= b)) z.1 z.2 := fun zl hzl z hz => (f2.zip z (hel zl hzl z hz)).keep (fun b hb' => hb.block b hb'.1) fun b hb' => ⟨Nat.lt_of_lt_of_le hb'.1 hb.size, Or.inl hb'.2⟩
 have r1 : zah w' _ (rwS (Z.1.map (List.map (·.1)))) u1 := r1
 show zah w' _ (tmLL (Z.1.map (List.map (·.2)))) u1
 unfold zah at r1 ⊢
 obtain ⟨ao, cap, rfl, q1, q2, q3⟩ := r1
 simp only [List.length_map, List.map_map, Function.comp_def] at q1 q3 ⊢
 refine ⟨ao, cap, rfl, q1, q2, ?_⟩
 rcases q3 with q3 | ⟨b, o, rfl, q4, q5⟩
 ·have : Z.1 = [] := List.map_eq_nil_iff.1 q3
  rw [this]
  exact Or.inl rfl
 ·exact Or.inr ⟨b, o, rfl, q4, znc Z.1 o hF q5⟩
end Go.Proofs.YtnkagnjiljjpcaaGreat
namespace Go.Proofs.YtnkagnjiljjpcaaGreat
set_option linter.unusedSimpArgs false
set_option linter.unusedVariables false
set_option linter.unusedSectionVars false
set_option maxRecDepth 4000
open Go.RowKit
theorem qb2 (ts : List Tm) : ∀ n, zfb ts n = zjw ts n
 | 0 => rfl
 | n + 1 => by rw [zfb, zjw, qb2 ts n]
theorem qbl {α : Type} (xs : List α) (most : Nat) : ∀ (r i : Nat), (∀ j, i < j -> j <= i + r -> xs.length ^ j <= most) -> zhg xs most r i = (zjw xs (i + r), true)
 | 0, i, _ => rfl
 | r + 1, i, h => by
  rw [zhg, zmw, if_pos (h (i + 1) (by omega) (by omega)), qbl xs most r (i + 1) fun j h1 h2 => h j (by omega) (by omega)]
  congr 2
  omega
theorem zxu {α : Type} (xs : List α) (most : Nat) : ∀ (r i j : Nat), i < j -> j <= i + r -> ¬ xs.length ^ j <= most -> (zhg xs most r i).2 = false
 | 0, i, j, h1, h2, _ => by omega
 | r + 1, i, j, h1, h2, h => by
  rw [zhg, zmw]
  split
  ·rename_i hc
   by_cases hj : j = i + 1
   ·subst hj; exact absurd hc h
   ·exact zxu xs most r (i + 1) j (by omega) (by omega) h
  ·rfl
theorem qi3 (ts : List Tm) (n : Nat) : (ts.length ^ n <= 60 -> zhg ts 60 n 0 = (zfb ts n, true)) /\ (¬ ts.length ^ n <= 60 -> (zhg ts 60 n 0).2 = false) := by
 constructor
 ·intro h
  rw [qbl ts 60 n 0 fun j h1 h2 => ?_, qb2, Nat.zero_add]
  by_cases h0 : ts.length = 0
  ·rw [h0, Nat.zero_pow (by omega)]; omega
  ·have := Nat.pow_le_pow_right (Nat.pos_of_ne_zero h0) (show j <= n by omega)
   omega
 ·intro h
  have hn : 0 < n := Nat.pos_of_ne_zero fun e => by rw [e] at h; simp at h
  exact zxu ts 60 n 0 n hn (by omega) h
theorem qcc {c : Cq} (hc : c.ok = true) {ps : List (Str × Tm)} (hv : ∀ p ∈ ps, zay p.1 = true) : clP c.lits ps = clL c ps := by
 unfold clP clL
 refine List.map_congr_left fun l hl => ?_
 rw [zpd ps hv (zkw (zlj hc l hl))]
theorem qfp {c : Cq} {ns : List Str} {L : List (List Tm)} {i : Nat} (h : i < L.length) (x : List Cq) : giR c ns (L.take (i + 1)) x = zww (giR c ns (L.take i) x) (mkC (clL c (ns.zip L[i]))) := by
 unfold giR
 rw [List.take_succ_eq_append_getElem h, List.foldl_append]; rfl
theorem zr6 (c : Cq) (ns : List Str) : ∀ (L : List (List Tm)) (x : List Cq), (giR c ns L x).length <= x.length + L.length
 | [], x => by simp [giR]
 | l :: L, x => by
  have h1 := zr6 c ns L (zww x (mkC (clL c (ns.zip l))))
  have h2 : (zww x (mkC (clL c (ns.zip l)))).length <= x.length + 1 := by unfold zww; split <;> simp
  show (giR c ns L _).length <= _
  simp only [List.length_cons]
  omega
theorem qcd {c : Cq} {ns : List Str} : ∀ {L : List (List Tm)}, (∀ l ∈ L, (mkC (clL c (ns.zip l))).wt <= 1048576) -> ∀ (x : List Cq), (∀ a ∈ x, a.wt <= 1048576) -> ∀ a ∈ giR c ns L x, a.wt <= 1048576
 | [], _, x, hx => hx
 | l :: L, h, x, hx => by
  refine qcd (L := L) (fun q hq => h q (by simp [hq])) (zww x (mkC (clL c (ns.zip l)))) fun a ha => ?_
  unfold zww at ha
  split at ha
  ·exact hx a ha
  ·rcases List.mem_append.1 ha with ha | ha
   ·exact hx a ha
   ·rw [List.mem_singleton.1 ha]; exact h l (by simp)
set_option maxHeartbeats 8000000 in
theorem zj6 (c : Cq) (ts : List Tm) (hcw : c.wt <= 1048576) (htw : zgm ts <= 1048576) (hP : giP c ts = true) : RC Tryz.prog 68 [cqD c, .one (tmS ts)] [.one (cqS (giV c ts)), bD (giB c ts)] := by
 have hP' := hP
 unfold giP at hP'
 rw [Bool.and_eq_true, Bool.and_eq_true, decide_eq_true_eq] at hP'
 obtain ⟨⟨hok, h60⟩, hgr⟩ := hP'
 have HN := zu6 c hcw
 change FC _ _ _ [.one (zd3 (vaC c))] at HN
 have hnl := zz9 c
 have HL := zwd ts (vaC c).length 60 (by omega) (by omega) (by omega)
 have hb : giB c ts = (decide (ts.length ^ (vaC c).length <= 60) && zp5 c (vaC c) (zfb ts (vaC c).length)) := by unfold giB; rw [hP, Bool.true_and]
 have hv : giV c ts = if giB c ts = true then giR c (vaC c) (zfb ts (vaC c).length) [] else [] := rfl
 have hR := qi3 ts (vaC c).length
 have hll : ∀ q ∈ c.lits, q.wt <= 1048576 := fun q hq => Nat.le_trans (ziq hq) hcw
 have hlen : c.lits.length <= 1048576 := by have := c.wt_eq; unfold zd8 at this; omega
 have hgrd : ∀ l, l ∈ zfb ts (vaC c).length -> Grd ((vaC c).zip l) := fun l hl => zq4 (qb7 c) (by
  rw [List.all_eq_true]
  exact fun t ht => List.all_eq_true.1 hgr t (((zcv ts _ l).1 hl).2 t ht))
 have HA : ∀ l, l ∈ zfb ts (vaC c).length -> RC Tryz.prog 119 [.agg [sbS ((vaC c).zip l)], .one (liS c.lits)] [cqD (ifC (mkC (clL c ((vaC c).zip l))) (zjs (clL c ((vaC c).zip l)))), bD (zjs (clL c ((vaC c).zip l)))] := fun l hl => by
  have := zxt c.lits ((vaC c).zip l) (by rw [List.length_zip]; omega) (fun p hp => by have := zsm ((hgrd l hl).g p hp).1; omega) hll hlen (by rw [qcc hok (hgrd l hl).v]; exact zn0 hok (hgrd l hl))
  rw [qcc hok (hgrd l hl).v] at this
  exact this
 have hnn : (vaC c).length <= 1048576 := by omega
 have haml := fun l => (zcv ts (vaC c).length l).1
 have hall_len := zht ts (vaC c).length
 simp only [cqD, zaw] at HN HA ⊢
 generalize hns : vaC c = ns at *
 by_cases h6 : ts.length ^ ns.length <= 60
 ·rw [hR.1 h6] at HL
  rw [decide_eq_true h6, Bool.true_and] at hb
  rw [hb] at hv ⊢
  rw [hv]
  generalize hLd : zfb ts ns.length = L at *
  refine zg9 Tryz.call68 Tryz.func68 rfl (by kernel_rfl) (za4 (by kernel_rfl)) ?_
  simp -implicitDefEqProofs only [go_sem, Tryz.results68]
  refine callF (HN) (by simp -implicitDefEqProofs only [go_sem]) ?_
  simp -implicitDefEqProofs only [go_sem]
  refine callR (HL) (by simp -implicitDefEqProofs only [go_sem]) ?_
  simp -implicitDefEqProofs only [go_sem]
  refine zcd (by simp -implicitDefEqProofs only [go_sem]) ?_
  simp -implicitDefEqProofs only [go_sem]
  have hLn : L.length <= 60 := by omega
  refine zag (fun i : Nat => hd [(2, .one (.bx 2 0)), (6, .one (.ow 576 0)), (7, vT (tmLL L)), (9, .one (.ow 928 0)), (10, vI i)] [(2, [.t (liS c.lits)])] [(576, ⟨true, 1, ns.map fun s => [.str s], 0, true⟩), (928, ⟨true, 1, (giR c ns (L.take i) []).map cqC, 0, true⟩)]) (fun i => i <= L.length /\ zp5 c ns (L.take i) = true) (fun i => L.length - i) 0 (zab ?_) ⟨Nat.zero_le _, rfl⟩ ?_
  ·simp -implicitDefEqProofs only [go_sem]
   rfl
  ·intro i ⟨hi, hoki⟩
   by_cases hlt : i < L.length
   ·have hmem : L[i] ∈ L := List.getElem_mem hlt
    have hA := HA L[i] hmem
    have hLi := (haml L[i] hmem).1
    have hsucc := qfp (c := c) (ns := ns) hlt []
    have hoks : zp5 c ns (L.take (i + 1)) = zjs (clL c (ns.zip L[i])) := by
     unfold zp5 at hoki ⊢
     rw [List.take_succ_eq_append_getElem hlt, List.all_append, hoki]; simp
    have hbad : zjs (clL c (ns.zip L[i])) = false -> zp5 c ns L = false := fun h => by
     unfold zp5
     rw [List.all_eq_false]
     exact ⟨L[i], hmem, by rw [h]; simp⟩
    have hxl := zr6 c ns (L.take i) []
    rw [List.length_take, List.length_nil] at hxl
    have hqw := zoe (clL c (ns.zip L[i]))
    have hqw2 := zn0 hok (hgrd L[i] hmem)
    have hxw : ∀ a ∈ giR c ns (L.take i) [], a.wt <= 1048576 := qcd (fun l hl => Nat.le_trans (zoe _) (zn0 hok (hgrd l (List.mem_of_mem_take hl)))) [] (by simp)
    have hqok : zjs (clL c (ns.zip L[i])) = true -> (mkC (clL c (ns.zip L[i]))).ok = true := fun h => by
     unfold zjs at h
     rw [Bool.and_eq_true] at h
     exact h.2
    generalize giR c ns (L.take i) [] = x at hsucc hxl hxw ⊢
    generalize mkC (clL c (ns.zip L[i])) = q at hA hsucc hqw hqok
    simp -implicitDefEqProofs only [go_sem, hlt]
    refine zag (fun k : Nat => hd [(2, .one (.bx 2 0)), (6, .one (.ow 576 0)), (7, vT (tmLL L)), (9, .one (.ow 928 0)), (10, vI i), (11, .one (.bx 11 0)), (12, vI k)] [(2, [.t (liS c.lits)]), (11, [.ow 3000 0])] [(576, ⟨true, 1, ns.map fun s => [.str s], 0, true⟩), (928, ⟨true, 1, x.map cqC, 0, true⟩), (3000, ⟨false, 3, ((ns.zip L[i]).take k).map bnC, 0, true⟩)]) (fun k => k <= ns.length) (fun k => ns.length - k) 0 (zab ?_) (Nat.zero_le _) ?_
    ·simp -implicitDefEqProofs only [go_sem]
    ·intro k hk
     by_cases hkl : k < ns.length
     ·have hkl2 : k < L[i].length := by omega
      have hzl : k < (ns.zip L[i]).length := by rw [List.length_zip]; omega
      have hmin : min k (ns.zip L[i]).length <= 4294967295 := by omega
      have hrow : ((ns.zip L[i]).take (k + 1)).map bnC = ((ns.zip L[i]).take k).map bnC ++ [[.str ns[k], .str L[i][k].name, .sl 2 (L[i][k].args.map tmC)]] := by
       rw [List.take_succ_eq_append_getElem hzl, List.map_append, List.map_singleton, List.getElem_zip, zuj]
      have hget : (L.map fun s => [tmS s]).getD i [] = [tmS L[i]] := by rw [List.getD_eq_getElem?_getD, List.getElem?_map, List.getElem?_eq_getElem hlt]; rfl
      simp -implicitDefEqProofs only [go_sem, hkl]
      refine drawn (by kernel_rfl) ?_
      simp -implicitDefEqProofs only [go_sem, hkl, hkl2, hlt, hget, zai, zaa L[i][k]]
      refine zfo (by simp -implicitDefEqProofs only [go_sem, hkl, hkl2, hlt, hget, zai, zaa L[i][k]]) ?_
      simp -implicitDefEqProofs only [go_sem, hkl, hkl2, hlt, hget, zai, zaa L[i][k]]
      refine zhq false (by simp -implicitDefEqProofs only [go_sem, ne_eq, List.length_map, List.length_take, hmin]) ?_
      simp -implicitDefEqProofs only [go_sem, ne_eq, List.length_map, List.length_take, hmin]
      refine ⟨by kernel_rfl, k + 1, hkl, by omega, zab ?_⟩
      simp -implicitDefEqProofs only [go_sem]
      rw [zan (by omega), hrow]
      exact ⟨rfl, rfl⟩
     ·have ht : (ns.zip L[i]).take k = ns.zip L[i] := List.take_of_length_le (by rw [List.length_zip]; omega)
      unfold sbS at hA
      cases hmk : zjs (clL c (ns.zip L[i]))
      ·rw [hmk] at hA
       have hb2 := hbad hmk
       rw [hb2, if_neg (by simp)]
       simp only [ifC, Bool.false_eq_true, if_false] at hA
       simp -implicitDefEqProofs only [go_sem, hkl, ht]
       refine frzS 3000 rfl rfl ?_
       simp -implicitDefEqProofs only [go_sem]
       refine callR (hA) (by simp -implicitDefEqProofs only [go_sem]) ?_
       simp -implicitDefEqProofs only [go_sem]
       refine zim (by simp -implicitDefEqProofs only [go_sem]) ?_
       simp -implicitDefEqProofs only [go_sem]
       rfl
      ·rw [hmk] at hA hoks
       simp only [ifC, if_true] at hA
       simp -implicitDefEqProofs only [go_sem, hkl, ht]
       refine frzS 3000 rfl rfl ?_
       simp -implicitDefEqProofs only [go_sem]
       refine callR (hA) (by simp -implicitDefEqProofs only [go_sem]) ?_
       simp -implicitDefEqProofs only [go_sem]
       have hqo : q.ok = true := hqok hmk
       have HG := zlo q (Nat.le_trans hqw hqw2)
       have HO := qik q (Nat.le_trans hqw hqw2)
       rw [hqo] at HG
       simp only [cqD, zaw] at HG HO
       refine callF (HG) (by simp -implicitDefEqProofs only [go_sem]) ?_
       simp -implicitDefEqProofs only [go_sem]
       refine zag (fun k : Nat => hd [(2, .one (.bx 2 0)), (6, .one (.ow 576 0)), (7, vT (tmLL L)), (9, .one (.ow 928 0)), (10, vI i), (13, .one (.bx 13 0)), (15, vB ((x.take k).any fun a => same a q)), (16, vI k)] [(2, [.t (liS c.lits)]), (13, [.t (liS q.lits)])] [(576, ⟨true, 1, ns.map fun s => [.str s], 0, true⟩), (928, ⟨true, 1, x.map cqC, 0, true⟩)]) (fun k => k <= x.length) (fun k => x.length - k) 0 (zab ?_) (Nat.zero_le _) ?_
       ·simp -implicitDefEqProofs only [go_sem]
        rfl
       ·intro k hk
        by_cases hkx : k < x.length
        ·have hany : ((x.take (k + 1)).any fun a => same a q) = (((x.take k).any fun a => same a q) || same x[k] q) := by
          rw [List.take_succ_eq_append_getElem hkx, List.any_append]; simp
         have HS := qdj x[k] q (hxw x[k] (List.getElem_mem hkx))
         simp only [cqD, zaw] at HS
         simp -implicitDefEqProofs only [go_sem, hkx]
         refine drawn (by kernel_rfl) ?_
         cases hkn : (x.take k).any fun a => same a q
         ·rw [hkn, Bool.false_or] at hany
          simp -implicitDefEqProofs only [go_sem, hkx, zai, zaw x[k], hkn, Bool.not_false]
          refine zjd (HS) (by simp -implicitDefEqProofs only [go_sem]) ?_
          simp -implicitDefEqProofs only [go_sem]
          refine ⟨by kernel_rfl, k + 1, hkx, by omega, zab ?_⟩
          simp -implicitDefEqProofs only [go_sem]
          rw [zan (by omega), hany]
          exact ⟨rfl, rfl⟩
         ·rw [hkn, Bool.true_or] at hany
          simp -implicitDefEqProofs only [go_sem, hkx, zai, zaw x[k], hkn, Bool.not_true]
          refine ⟨by kernel_rfl, k + 1, hkx, by omega, zab ?_⟩
          simp -implicitDefEqProofs only [go_sem]
          rw [zan (by omega), hany]
          exact ⟨rfl, rfl⟩
        ·have htx : x.take k = x := List.take_of_length_le (by omega)
         have hput : zww x q = if (x.any fun a => same a q) = true then x else x ++ [q] := rfl
         cases hkn : x.any fun a => same a q
         ·rw [hkn, if_neg (by simp)] at hput
          have hx2 : x.length <= 4294967295 := by omega
          simp -implicitDefEqProofs only [go_sem, hkx, htx, hkn, Bool.not_false]
          refine callF (HO) (by simp -implicitDefEqProofs only [go_sem]) ?_
          simp -implicitDefEqProofs only [go_sem]
          refine zcd (by simp -implicitDefEqProofs only [go_sem]) ?_
          simp -implicitDefEqProofs only [go_sem]
          refine apD true (by simp -implicitDefEqProofs only [go_sem, ne_eq, List.length_map, hx2]) ?_
          simp -implicitDefEqProofs only [go_sem, ne_eq, List.length_map, hx2]
          refine ⟨i + 1, ⟨hlt, hoks⟩, by omega, zab ?_⟩
          simp -implicitDefEqProofs only [go_sem]
          rw [zan (by omega), hsucc, hput, List.map_append, List.map_singleton]
          exact ⟨rfl, rfl⟩
         ·rw [hkn, if_pos rfl] at hput
          simp -implicitDefEqProofs only [go_sem, hkx, htx, hkn, Bool.not_true]
          refine ⟨i + 1, ⟨hlt, hoks⟩, by omega, zab ?_⟩
          simp -implicitDefEqProofs only [go_sem]
          rw [zan (by omega), hsucc, hput]
          exact ⟨rfl, rfl⟩
   ·have ht : L.take i = L := List.take_of_length_le (by omega)
    rw [ht] at hoki
    rw [ht, hoki, if_pos rfl]
    simp -implicitDefEqProofs only [go_sem, hlt]
 ·have hf := hR.2 h6
  rw [hf] at HL
  rw [decide_eq_false h6, Bool.false_and] at hb
  rw [hb, if_neg (by simp)] at hv
  rw [hv, hb]
  generalize (zhg ts 60 ns.length 0).1 = Z at HL
  refine zg9 Tryz.call68 Tryz.func68 rfl (by kernel_rfl) (za4 (by kernel_rfl)) ?_
  simp -implicitDefEqProofs only [go_sem, Tryz.results68]
  refine callF (HN) (by simp -implicitDefEqProofs only [go_sem]) ?_
  simp -implicitDefEqProofs only [go_sem]
  refine callR (HL) (by simp -implicitDefEqProofs only [go_sem]) ?_
  simp -implicitDefEqProofs only [go_sem]
  refine zim (by simp -implicitDefEqProofs only [go_sem]) ?_
  simp -implicitDefEqProofs only [go_sem]
  rfl
end Go.Proofs.YtnkagnjiljjpcaaGreat
namespace Go.Proofs.YtnkagnjiljjpcaaGreat
set_option linter.unusedSimpArgs false
set_option linter.unusedVariables false
set_option linter.unusedSectionVars false
set_option maxRecDepth 4000
open Go.RowKit
theorem zqa (ts : List Tm) (hw : zgm ts <= 1048576) (hl : ¬ ts.length <= 60) : FC Tryz.prog 67 [.one (tmS ts)] [bD false] := by
 have h60 : decide ((ts.length : Int) <= 60) = false := by simp; omega
 refine zaq Tryz.call67 Tryz.func67 rfl (by kernel_rfl) (za4 (by kernel_rfl)) ?_
 simp -implicitDefEqProofs only [go_sem, Tryz.results67]
 refine zag (fun k : Nat => hd [(0, vT (tmS ts)), (3, vI k)] [] []) (fun k => k <= 61) (fun k => 61 - k) 0 (zab ?_) (Nat.zero_le _) ?_
 ·simp -implicitDefEqProofs only [go_sem]
 ·intro k hk
  by_cases hk6 : k <= 60
  ·have hlt : k < ts.length := by omega
   have hk60 : ((k : Int) <= 60) = True := by simp; omega
   have htw := zb1 Tm.wt ts ts[k] (List.getElem_mem hlt)
   have hW : zgm ts = ts.length + (ts.map Tm.wt).sum := rfl
   have HG := zly ts[k] (by omega)
   have HR := zi3 ts[k] (by omega)
   have hv : grT ts[k] = (ts[k].good && decide (voS ts[k] = [])) := rfl
   simp only [tmD, zaa ts[k]] at HG HR
   cases h1 : ts[k].good
   ·rw [h1] at HG
    rw [h1, Bool.false_and] at hv
    simp -implicitDefEqProofs only [go_sem, hlt, hk60, zai, zaa ts[k]]
    refine callF (HG) (by simp -implicitDefEqProofs only [go_sem]) ?_
    simp -implicitDefEqProofs only [go_sem]
   ·rw [h1] at HG
    rw [h1, Bool.true_and] at hv
    simp -implicitDefEqProofs only [go_sem, hlt, hk60, zai, zaa ts[k]]
    refine callF (HG) (by simp -implicitDefEqProofs only [go_sem]) ?_
    simp -implicitDefEqProofs only [go_sem]
    simp -implicitDefEqProofs only [go_sem, hlt, zai, zaa ts[k]]
    refine callF (HR) (by simp -implicitDefEqProofs only [go_sem]) ?_
    simp -implicitDefEqProofs only [go_sem]
    refine ⟨fun h => ?_, fun h => ?_⟩
    ·trivial
    ·refine ⟨k + 1, by omega, by omega, zab ?_⟩
     simp -implicitDefEqProofs only [go_sem]
     rw [zan (by omega)]
  ·have hk60 : ((k : Int) <= 60) = False := by simp; omega
   by_cases hlt : k < ts.length
   ·simp -implicitDefEqProofs only [go_sem, hlt, hk60, h60]
   ·simp -implicitDefEqProofs only [go_sem, hlt, hk60, h60]
theorem qdg (c : Cq) (ts : List Tm) (hcw : c.wt <= 1048576) (htw : zgm ts <= 1048576) : RC Tryz.prog 25 [cqD c, .one (tmS ts)] [.one (cqS (giV c ts)), bD (giB c ts)] := by
 have HG := zlo c hcw
 have HT : FC Tryz.prog 67 [.one (tmS ts)] [bD (decide (ts.length <= 60) && ts.all grT)] := by
  by_cases h : ts.length <= 60
  ·rw [decide_eq_true h, Bool.true_and]; exact zu9 ts htw h
  ·rw [decide_eq_false h, Bool.false_and]; exact zqa ts htw h
 have hp : giP c ts = (c.ok && (decide (ts.length <= 60) && ts.all grT)) := by unfold giP; rw [Bool.and_assoc]
 have hno : giP c ts = false -> giB c ts = false /\ giV c ts = [] := fun h => by
  have hb : giB c ts = false := by unfold giB; rw [h]; rfl
  exact ⟨hb, by unfold giV; rw [hb]; rfl⟩
 have HI := zj6 c ts hcw htw
 simp only [cqD, zaw] at HG HI ⊢
 cases hok : c.ok
 ·rw [hok, Bool.false_and] at hp
  obtain ⟨hb, hv⟩ := hno hp
  rw [hok] at HG
  rw [hb, hv]
  refine zg9 Tryz.call25 Tryz.func25 rfl (by kernel_rfl) (za4 (by kernel_rfl)) ?_
  simp -implicitDefEqProofs only [go_sem, Tryz.results25]
  refine callF (HG) (by simp -implicitDefEqProofs only [go_sem]) ?_
  simp -implicitDefEqProofs only [go_sem]
  refine zim (by simp -implicitDefEqProofs only [go_sem]) ?_
  simp -implicitDefEqProofs only [go_sem]
  rfl
 ·rw [hok, Bool.true_and] at hp
  rw [hok] at HG
  rw [<- hp] at HT
  cases hP : giP c ts
  ·obtain ⟨hb, hv⟩ := hno hP
   rw [hP] at HT
   rw [hb, hv]
   refine zg9 Tryz.call25 Tryz.func25 rfl (by kernel_rfl) (za4 (by kernel_rfl)) ?_
   simp -implicitDefEqProofs only [go_sem, Tryz.results25]
   refine callF (HG) (by simp -implicitDefEqProofs only [go_sem]) ?_
   simp -implicitDefEqProofs only [go_sem]
   refine callF (HT) (by simp -implicitDefEqProofs only [go_sem]) ?_
   simp -implicitDefEqProofs only [go_sem]
   refine zim (by simp -implicitDefEqProofs only [go_sem]) ?_
   simp -implicitDefEqProofs only [go_sem]
   rfl
  ·rw [hP] at HT
   have HI := HI hP
   refine zg9 Tryz.call25 Tryz.func25 rfl (by kernel_rfl) (za4 (by kernel_rfl)) ?_
   simp -implicitDefEqProofs only [go_sem, Tryz.results25]
   refine callF (HG) (by simp -implicitDefEqProofs only [go_sem]) ?_
   simp -implicitDefEqProofs only [go_sem]
   refine callF (HT) (by simp -implicitDefEqProofs only [go_sem]) ?_
   simp -implicitDefEqProofs only [go_sem]
   refine callR (HI) (by simp -implicitDefEqProofs only [go_sem]) ?_
   simp -implicitDefEqProofs only [go_sem]
end Go.Proofs.YtnkagnjiljjpcaaGreat
namespace Go.Proofs.YtnkagnjiljjpcaaGreat
set_option linter.unusedSimpArgs false
set_option linter.unusedVariables false
set_option linter.unusedSectionVars false
set_option maxRecDepth 4000
open Go.RowKit
def zfc : Li -> Nat -> Li × Nat
 | ⟨b0, .mk n0 s0⟩, k => (⟨((((k : Nat) : Int).tmod 3) == 0), .mk (mtx (k + 1)) (za6 s0 ((k + 1) + 1)).1⟩, (za6 s0 ((k + 1) + 1)).2)
def zbl : List Li -> Nat -> List Li × Nat
 | [], k => ([], k)
 | a :: xs, k => ((zfc a k).1 :: (zbl xs (zfc a k).2).1, (zbl xs (zfc a k).2).2)
def zg3 : Li -> Nat
 | ⟨b0, .mk n0 s0⟩ => 1 + 1 + 1 + zcp s0
def zd5 : List Li -> Nat
 | [] => 0
 | a :: xs => zg3 a + zd5 xs
theorem zyr : ∀ (a : Li) (k : Nat), k <= (zfc a k).2 /\ (zfc a k).2 <= k + zg3 a
 | ⟨b0, .mk n0 s0⟩, k => by have h_s0 := zc9 s0 ((k + 1) + 1); simp only [zfc, zg3]; omega
theorem zf0 : ∀ (xs : List Li) (k : Nat), k <= (zbl xs k).2 /\ (zbl xs k).2 <= k + zd5 xs
 | [], k => ⟨Nat.le_refl _, Nat.le_refl _⟩
 | a :: xs, k => by have h1 := zyr a k; have h2 := zf0 xs (zfc a k).2; simp only [zbl, zd5]; omega
theorem zh8 : ∀ xs : List Li, xs.length <= zd5 xs
 | [] => Nat.le_refl _
 | a :: xs => by
  have := zh8 xs
  have : 1 <= zg3 a := by obtain ⟨b0, ⟨n0, s0⟩⟩ := a; simp only [zg3]; omega
  simp only [List.length_cons, zd5]; omega
theorem zir (xs : List Li) :
  ∀ k : Nat, 0 < k -> k + zd5 xs <= 4611686018427387904 -> IC Tryz.prog 41 [] (.one (liS xs)) [iD k] (.one (liS (zbl xs k).1)) [iD (zbl xs k).2] := by
 intro k h0 hk
 refine qa2 Tryz.call41 Tryz.func41 rfl (by kernel_rfl) (by simp only [zdg, rd, List.map_cons, List.map_nil, List.nil_append, List.length_cons, List.length_nil, Tryz.ntmps41]; omega) (by simp only [Tryz.ntmps41]; omega) (fun vs => ?_)
 simp -implicitDefEqProofs only [go_sem, Tryz.results41, qgb, znx, zdg, PI]
 refine zag (fun (x : List Li × List Li × Nat) => hd [(0, .one (.ow 0 0)), (1000000, .one (.ow 0 0)), (1, vI x.2.2), (5, vI x.1.length)] [] [(0, ⟨true, 3, x.1.map liC ++ ze1 vs x.1.length (x.2.1.map liC), 0, true⟩)])
  (fun x => (zbl xs k).1 = x.1 ++ (zbl x.2.1 x.2.2).1 /\ (zbl xs k).2 = (zbl x.2.1 x.2.2).2 /\ 0 < x.2.2 /\ x.2.2 + zd5 x.2.1 <= 4611686018427387904 /\ x.1.length + x.2.1.length = xs.length /\ ∀ a ∈ x.2.1, a ∈ xs) (fun x => x.2.1.length) ([], xs, k) (zab ?_) ?_ ?_
 ·simp -implicitDefEqProofs only [go_sem]
 ·exact ⟨rfl, rfl, h0, hk, by simp, fun _ h => h⟩
 ·intro ⟨dn, rest, kk⟩ ⟨h1, h2, h3, h4, h6, h5⟩
  simp only at h1 h2 h3 h4 h5 h6
  cases rest with
  | nil =>
   simp only [zbl, List.append_nil] at h1 h2
   simp -implicitDefEqProofs only [go_sem, h1, h2]
  | cons a rest =>
   obtain ⟨b0, ⟨n0, s0⟩⟩ := a
   simp only [zbl, zfc, zd5, zg3] at h1 h2 h4
   have hc_s0 := zc9 s0 ((kk + 1) + 1)
   have w0 : IntKind.i64.wrap (((kk : Nat) : Int) + 1) = ((kk + 1 : Nat) : Int) := zan (by omega)
   have m1 : (((kk : Nat) : Int)).tmod 3 = ((kk % 3 : Nat) : Int) := by rw [Int.tmod_eq_emod_of_nonneg (by omega)]; omega
   have w1 : IntKind.i64.wrap ((((kk + 1) : Nat) : Int) + 1) = (((kk + 1) + 1 : Nat) : Int) := zan (by omega)
   have hln := zh8 xs
   rw [List.length_cons] at h6
   have wl : IntKind.i64.wrap ((dn.length : Int) + 1) = ((dn.length + 1 : Nat) : Int) := zan (by omega)
   simp -implicitDefEqProofs only [go_sem, zak, Tm.name, Tm.args]
   refine ⟨by omega, ?_⟩
   refine zid (by simp -implicitDefEqProofs only [go_sem, implies_true, w0, w1]) ?_
   simp -implicitDefEqProofs only [go_sem, implies_true, w0, w1]
   refine callF (zer (kk + 1) (by omega) (by omega)) (by simp -implicitDefEqProofs only [go_sem, w0, w1]) ?_
   simp -implicitDefEqProofs only [go_sem, w0, w1]
   refine zid (by simp -implicitDefEqProofs only [go_sem, implies_true, w0, w1]) ?_
   simp -implicitDefEqProofs only [go_sem, implies_true, w0, w1]
   refine callN (l := [(0, .one (.ow 0 0)), (1000000, .one (.ow 0 0)), (5, vI dn.length), (35, .one (.cv (vs dn.length 2))), (36, vI (((kk + 1) + 1) : Nat))]) (bl := []) (el := [(0, ⟨true, 3, dn.map liC ++ [.bool ((((kk : Nat) : Int).tmod 3) == 0), .str (mtx (kk + 1)), .pin (vs dn.length 2) (tmS s0)] :: ze1 vs (dn.length + 1) (rest.map liC), 0, true⟩)]) 0 dn.length 2 (zjp s0 ((kk + 1) + 1) (by omega) (by omega)) (by simp -implicitDefEqProofs only [go_sem, w0, w1, tmS]) rfl rfl rfl (by simp -implicitDefEqProofs only [go_sem, tmS, Tm.name, Tm.args]) rfl ?_
   simp -implicitDefEqProofs only [go_sem, w0, w1, Tm.name, Tm.args]
   refine ⟨(dn ++ [⟨((((kk : Nat) : Int).tmod 3) == 0), .mk (mtx (kk + 1)) (za6 s0 ((kk + 1) + 1)).1⟩], rest, (za6 s0 ((kk + 1) + 1)).2), ⟨by simpa using h1, h2, by show 0 < (za6 s0 ((kk + 1) + 1)).2; omega, by show (za6 s0 ((kk + 1) + 1)).2 + zd5 rest <= _; omega, by simp; omega, fun b hb => h5 b (by simp [hb])⟩, by simp, zab ?_⟩
   simp -implicitDefEqProofs only [go_sem, wl, zak, Tm.name, Tm.args, List.map_append, List.append_assoc]
theorem ze8 (xs : List Li) (k : Nat) (h0 : 0 < k) (hk : k + zd5 xs <= 4611686018427387904) : IC Tryz.prog 41 [] (.one (liS xs)) [iD k] (.one (liS (zbl xs k).1)) [iD (zbl xs k).2] := zir xs k h0 hk
theorem zic (xs : List Li) :
  ∀ k : Nat, 0 < k -> k + zd5 xs <= 4611686018427387904 -> FC Tryz.prog 81 [.one (liS (zbl xs k).1), iD k] [iD (zbl xs k).2] := by
 intro k h0 hk
 refine zaq Tryz.call81 Tryz.func81 rfl (by kernel_rfl) (za4 (by kernel_rfl)) ?_
 simp -implicitDefEqProofs only [go_sem, Tryz.results81]
 refine zag (fun (x : List Li × List Li × Nat) => hd [(0, vT (.sl 3 (x.1.map liC ++ (zbl x.2.1 x.2.2).1.map liC))), (1, vI x.2.2), (5, vI x.1.length)] [] [])
  (fun x => (zbl xs k).1 = x.1 ++ (zbl x.2.1 x.2.2).1 /\ (zbl xs k).2 = (zbl x.2.1 x.2.2).2 /\ 0 < x.2.2 /\ x.2.2 + zd5 x.2.1 <= 4611686018427387904 /\ x.1.length + x.2.1.length = xs.length /\ ∀ a ∈ x.2.1, a ∈ xs) (fun x => x.2.1.length) ([], xs, k) (zab ?_) ?_ ?_
 ·simp -implicitDefEqProofs only [go_sem]
 ·exact ⟨rfl, rfl, h0, hk, by simp, fun _ h => h⟩
 ·intro ⟨dn, rest, kk⟩ ⟨h1, h2, h3, h4, h6, h5⟩
  simp only at h1 h2 h3 h4 h5 h6
  cases rest with
  | nil =>
   simp only [zbl, List.append_nil] at h1 h2
   simp -implicitDefEqProofs only [go_sem, h2, zbl]
  | cons a rest =>
   obtain ⟨b0, ⟨n0, s0⟩⟩ := a
   simp only [zbl, zfc, zd5, zg3] at h1 h2 h4
   have hc_s0 := zc9 s0 ((kk + 1) + 1)
   have w0 : IntKind.i64.wrap (((kk : Nat) : Int) + 1) = ((kk + 1 : Nat) : Int) := zan (by omega)
   have m1 : (((kk : Nat) : Int)).tmod 3 = ((kk % 3 : Nat) : Int) := by rw [Int.tmod_eq_emod_of_nonneg (by omega)]; omega
   have w1 : IntKind.i64.wrap ((((kk + 1) : Nat) : Int) + 1) = (((kk + 1) + 1 : Nat) : Int) := zan (by omega)
   have hln := zh8 xs
   rw [List.length_cons] at h6
   have wl : IntKind.i64.wrap ((dn.length : Int) + 1) = ((dn.length + 1 : Nat) : Int) := zan (by omega)
   simp -implicitDefEqProofs only [go_sem, zbl, zfc, zak, Tm.name, Tm.args]
   refine ⟨by omega, ?_⟩
   refine ⟨fun h => absurd h (by simp), fun _ => ?_⟩
   simp -implicitDefEqProofs only [go_sem, w0, w1]
   refine drawn (by kernel_rfl) ?_
   simp -implicitDefEqProofs only [go_sem]
   refine zax (zer (kk + 1) (by omega) (by omega)) (by simp -implicitDefEqProofs only [go_sem, beq_self_eq_true, bne_self_eq_false, w0, w1]) ?_
   simp -implicitDefEqProofs only [go_sem, beq_self_eq_true, bne_self_eq_false, w0, w1]
   refine ⟨by kernel_rfl, ?_⟩
   refine callF (zru s0 ((kk + 1) + 1) (by omega) (by omega)) (by simp -implicitDefEqProofs only [go_sem, w0, w1, Tm.name, Tm.args]) ?_
   simp -implicitDefEqProofs only [go_sem, w0, w1, Tm.name, Tm.args]
   refine ⟨(dn ++ [⟨((((kk : Nat) : Int).tmod 3) == 0), .mk (mtx (kk + 1)) (za6 s0 ((kk + 1) + 1)).1⟩], rest, (za6 s0 ((kk + 1) + 1)).2), ⟨by simpa using h1, h2, by show 0 < (za6 s0 ((kk + 1) + 1)).2; omega, by show (za6 s0 ((kk + 1) + 1)).2 + zd5 rest <= _; omega, by simp; omega, fun b hb => h5 b (by simp [hb])⟩, by simp, zab ?_⟩
   simp -implicitDefEqProofs only [go_sem, wl, zak, Tm.name, Tm.args, List.map_append, List.append_assoc]
theorem zj9 (xs : List Li) (k : Nat) (h0 : 0 < k) (hk : k + zd5 xs <= 4611686018427387904) : FC Tryz.prog 81 [.one (liS (zbl xs k).1), iD k] [iD (zbl xs k).2] := zic xs k h0 hk
def zb5 : Cq -> Nat -> Cq × Nat
 | ⟨l0⟩, k => (⟨(zbl l0 k).1⟩, (zbl l0 k).2)
def zb3 : List Cq -> Nat -> List Cq × Nat
 | [], k => ([], k)
 | a :: xs, k => ((zb5 a k).1 :: (zb3 xs (zb5 a k).2).1, (zb3 xs (zb5 a k).2).2)
def zd1 : Cq -> Nat
 | ⟨l0⟩ => 1 + zd5 l0
def zei : List Cq -> Nat
 | [] => 0
 | a :: xs => zd1 a + zei xs
theorem znk : ∀ (a : Cq) (k : Nat), k <= (zb5 a k).2 /\ (zb5 a k).2 <= k + zd1 a
 | ⟨l0⟩, k => by have h_l0 := zf0 l0 k; simp only [zb5, zd1]; omega
theorem zr8 : ∀ (xs : List Cq) (k : Nat), k <= (zb3 xs k).2 /\ (zb3 xs k).2 <= k + zei xs
 | [], k => ⟨Nat.le_refl _, Nat.le_refl _⟩
 | a :: xs, k => by have h1 := znk a k; have h2 := zr8 xs (zb5 a k).2; simp only [zb3, zei]; omega
theorem zi0 : ∀ xs : List Cq, xs.length <= zei xs
 | [] => Nat.le_refl _
 | a :: xs => by
  have := zi0 xs
  have : 1 <= zd1 a := by obtain ⟨l0⟩ := a; simp only [zd1]; omega
  simp only [List.length_cons, zei]; omega
theorem zj0 (xs : List Cq) :
  ∀ k : Nat, 0 < k -> k + zei xs <= 4611686018427387904 -> IC Tryz.prog 13 [] (.one (cqS xs)) [iD k] (.one (cqS (zb3 xs k).1)) [iD (zb3 xs k).2] := by
 intro k h0 hk
 refine qa2 Tryz.call13 Tryz.func13 rfl (by kernel_rfl) (by simp only [zdg, rd, List.map_cons, List.map_nil, List.nil_append, List.length_cons, List.length_nil, Tryz.ntmps13]; omega) (by simp only [Tryz.ntmps13]; omega) (fun vs => ?_)
 simp -implicitDefEqProofs only [go_sem, Tryz.results13, qgb, znx, zdg, PI]
 refine zag (fun (x : List Cq × List Cq × Nat) => hd [(0, .one (.ow 0 0)), (1000000, .one (.ow 0 0)), (1, vI x.2.2), (5, vI x.1.length)] [] [(0, ⟨true, 1, x.1.map cqC ++ ze1 vs x.1.length (x.2.1.map cqC), 0, true⟩)])
  (fun x => (zb3 xs k).1 = x.1 ++ (zb3 x.2.1 x.2.2).1 /\ (zb3 xs k).2 = (zb3 x.2.1 x.2.2).2 /\ 0 < x.2.2 /\ x.2.2 + zei x.2.1 <= 4611686018427387904 /\ x.1.length + x.2.1.length = xs.length /\ ∀ a ∈ x.2.1, a ∈ xs) (fun x => x.2.1.length) ([], xs, k) (zab ?_) ?_ ?_
 ·simp -implicitDefEqProofs only [go_sem]
 ·exact ⟨rfl, rfl, h0, hk, by simp, fun _ h => h⟩
 ·intro ⟨dn, rest, kk⟩ ⟨h1, h2, h3, h4, h6, h5⟩
  simp only at h1 h2 h3 h4 h5 h6
  cases rest with
  | nil =>
   simp only [zb3, List.append_nil] at h1 h2
   simp -implicitDefEqProofs only [go_sem, h1, h2]
  | cons a rest =>
   obtain ⟨l0⟩ := a
   simp only [zb3, zb5, zei, zd1] at h1 h2 h4
   have hc_l0 := zf0 l0 kk
   have hln := zi0 xs
   rw [List.length_cons] at h6
   have wl : IntKind.i64.wrap ((dn.length : Int) + 1) = ((dn.length + 1 : Nat) : Int) := zan (by omega)
   simp -implicitDefEqProofs only [go_sem, zaw]
   refine callN (l := [(0, .one (.ow 0 0)), (1000000, .one (.ow 0 0)), (5, vI dn.length), (16, .one (.cv (vs dn.length 0))), (17, vI (kk : Nat))]) (bl := []) (el := [(0, ⟨true, 1, dn.map cqC ++ [.pin (vs dn.length 0) (liS l0)] :: ze1 vs (dn.length + 1) (rest.map cqC), 0, true⟩)]) 0 dn.length 0 (ze8 l0 kk (by omega) (by omega)) (by simp -implicitDefEqProofs only [go_sem, liS]) rfl rfl rfl (by simp -implicitDefEqProofs only [go_sem, liS]) rfl ?_
   simp -implicitDefEqProofs only [go_sem, wl]
   refine ⟨(dn ++ [⟨(zbl l0 kk).1⟩], rest, (zbl l0 kk).2), ⟨by simpa using h1, h2, by show 0 < (zbl l0 kk).2; omega, by show (zbl l0 kk).2 + zei rest <= _; omega, by simp; omega, fun b hb => h5 b (by simp [hb])⟩, by simp, zab ?_⟩
   simp -implicitDefEqProofs only [go_sem, wl, zaw, List.map_append, List.append_assoc]
theorem zm1 (xs : List Cq) (k : Nat) (h0 : 0 < k) (hk : k + zei xs <= 4611686018427387904) : IC Tryz.prog 13 [] (.one (cqS xs)) [iD k] (.one (cqS (zb3 xs k).1)) [iD (zb3 xs k).2] := zj0 xs k h0 hk
theorem zj3 (xs : List Cq) :
  ∀ k : Nat, 0 < k -> k + zei xs <= 4611686018427387904 -> FC Tryz.prog 31 [.one (cqS (zb3 xs k).1), iD k] [iD (zb3 xs k).2] := by
 intro k h0 hk
 refine zaq Tryz.call31 Tryz.func31 rfl (by kernel_rfl) (za4 (by kernel_rfl)) ?_
 simp -implicitDefEqProofs only [go_sem, Tryz.results31]
 refine zag (fun (x : List Cq × List Cq × Nat) => hd [(0, vT (.sl 1 (x.1.map cqC ++ (zb3 x.2.1 x.2.2).1.map cqC))), (1, vI x.2.2), (5, vI x.1.length)] [] [])
  (fun x => (zb3 xs k).1 = x.1 ++ (zb3 x.2.1 x.2.2).1 /\ (zb3 xs k).2 = (zb3 x.2.1 x.2.2).2 /\ 0 < x.2.2 /\ x.2.2 + zei x.2.1 <= 4611686018427387904 /\ x.1.length + x.2.1.length = xs.length /\ ∀ a ∈ x.2.1, a ∈ xs) (fun x => x.2.1.length) ([], xs, k) (zab ?_) ?_ ?_
 ·simp -implicitDefEqProofs only [go_sem]
 ·exact ⟨rfl, rfl, h0, hk, by simp, fun _ h => h⟩
 ·intro ⟨dn, rest, kk⟩ ⟨h1, h2, h3, h4, h6, h5⟩
  simp only at h1 h2 h3 h4 h5 h6
  cases rest with
  | nil =>
   simp only [zb3, List.append_nil] at h1 h2
   simp -implicitDefEqProofs only [go_sem, h2, zb3]
  | cons a rest =>
   obtain ⟨l0⟩ := a
   simp only [zb3, zb5, zei, zd1] at h1 h2 h4
   have hc_l0 := zf0 l0 kk
   have hln := zi0 xs
   rw [List.length_cons] at h6
   have wl : IntKind.i64.wrap ((dn.length : Int) + 1) = ((dn.length + 1 : Nat) : Int) := zan (by omega)
   simp -implicitDefEqProofs only [go_sem, zb3, zb5, zaw]
   refine callF (zj9 l0 kk (by omega) (by omega)) (by simp -implicitDefEqProofs only [go_sem, wl]) ?_
   simp -implicitDefEqProofs only [go_sem, wl]
   refine ⟨(dn ++ [⟨(zbl l0 kk).1⟩], rest, (zbl l0 kk).2), ⟨by simpa using h1, h2, by show 0 < (zbl l0 kk).2; omega, by show (zbl l0 kk).2 + zei rest <= _; omega, by simp; omega, fun b hb => h5 b (by simp [hb])⟩, by simp, zab ?_⟩
   simp -implicitDefEqProofs only [go_sem, wl, zaw, List.map_append, List.append_assoc]
theorem zmh (xs : List Cq) (k : Nat) (h0 : 0 < k) (hk : k + zei xs <= 4611686018427387904) : FC Tryz.prog 31 [.one (cqS (zb3 xs k).1), iD k] [iD (zb3 xs k).2] := zj3 xs k h0 hk
end Go.Proofs.YtnkagnjiljjpcaaGreat
namespace Go.Proofs.YtnkagnjiljjpcaaGreat
set_option linter.unusedSimpArgs false
set_option linter.unusedVariables false
set_option linter.unusedSectionVars false
set_option maxRecDepth 4000
open Go.RowKit
theorem zlu : ∀ xs : List Li, zd5 xs <= 3 * zd8 xs
 | [] => Nat.zero_le _
 | a :: xs => by
  obtain ⟨b, n, s⟩ := a
  have h1 := zlu xs
  have h2 := zh0 s
  have h3 : (Li.mk b (.mk n s)).wt = (Tm.mk n s).wt := rfl
  have h4 := Tm.wt_eq (.mk n s)
  simp only [Tm.name, Tm.args] at h4
  unfold zd8 at h1 ⊢
  unfold zgm at h2
  rw [zd5, zg3, List.length_cons, List.map_cons, List.sum_cons]
  omega
theorem ztc : ∀ xs : List Cq, zei xs <= 3 * cqsW xs
 | [] => Nat.zero_le _
 | a :: xs => by
  obtain ⟨l⟩ := a
  have h1 := ztc xs
  have h2 := zlu l
  have h3 : (Cq.mk l).wt = zd8 l := rfl
  unfold cqsW at h1 ⊢
  rw [zei, zd1, List.length_cons, List.map_cons, List.sum_cons]
  omega
theorem qhq {α : Type} (f : α -> Nat) (B : Nat) : ∀ xs : List α, (∀ x ∈ xs, f x <= B) -> (xs.map f).sum <= xs.length * B
 | [], _ => by simp
 | a :: xs, h => by
  have h1 := qhq f B xs fun x hx => h x (by simp [hx])
  have h2 := h a (by simp)
  rw [List.map_cons, List.sum_cons, List.length_cons, Nat.add_mul]
  omega
end Go.Proofs.YtnkagnjiljjpcaaGreat
namespace Go.Proofs.YtnkagnjiljjpcaaGreat
set_option linter.unusedSimpArgs false
set_option linter.unusedVariables false
set_option linter.unusedSectionVars false
set_option maxRecDepth 4000
open Go.RowKit
theorem zov (a : Cq) (k : Nat) (h0 : 0 < k) (hk : k + zd1 a <= 4611686018427387904) : IC Tryz.prog 30 [] (.agg (cqC a)) [iD k] (.agg (cqC (zb5 a k).1)) [iD (zb5 a k).2] := by
 obtain ⟨l0⟩ := a
 simp only [zd1] at hk
 have hc0 := zf0 l0 k
 simp only [zaw, zb5]
 refine IC_of Tryz.call30 Tryz.func30 rfl (by kernel_rfl) (by simp only [zdg, rd, List.map_cons, List.map_nil, List.nil_append, List.length_cons, List.length_nil, Tryz.ntmps30]; omega) (by simp only [Tryz.ntmps30]; omega) ⟨⟨by simp, by simp [T.isPin]⟩, zcl _⟩ trivial ?_
 simp -implicitDefEqProofs only [go_sem, Tryz.results30, znx, zdg, PI]
 refine qg0 (l := [(1000000, .agg [.ow 0 0]), (2, .one (.bx 2 0)), (6, .one (.ow 0 0)), (7, vI (k : Nat))]) (bl := [(2, [.ow 0 0])]) (el := [(0, ⟨true, 3, (l0).map liC, 0, true⟩)]) (ze8 l0 k (by omega) (by omega)) (by simp -implicitDefEqProofs only [go_sem, zaw]) rfl rfl rfl (by simp -implicitDefEqProofs only [go_sem, zaw]) rfl ?_
 simp -implicitDefEqProofs only [go_sem, zaw]
theorem giV_wt (c : Cq) (ts : List Tm) : cqsW (giV c ts) <= 60 + 60 * 1048576 := by
 unfold giV
 split
 ·rename_i hb
  unfold giB giP at hb
  simp only [Bool.and_eq_true, decide_eq_true_eq] at hb
  obtain ⟨⟨⟨⟨hok, h60⟩, hgr⟩, h6⟩, _⟩ := hb
  have hgrd : ∀ l, l ∈ zfb ts (vaC c).length -> Grd ((vaC c).zip l) := fun l hl => zq4 (qb7 c) (by
   rw [List.all_eq_true]
   exact fun t ht => List.all_eq_true.1 hgr t (((zcv ts _ l).1 hl).2 t ht))
  have hw := qcd (c := c) (ns := vaC c) (L := zfb ts (vaC c).length) (fun l hl => Nat.le_trans (zoe _) (zn0 hok (hgrd l hl))) [] (by simp)
  have hl := zr6 c (vaC c) (zfb ts (vaC c).length) []
  rw [List.length_nil, zht] at hl
  have h1 := qhq Cq.wt 1048576 _ hw
  have h2 := Nat.mul_le_mul_right 1048576 (show (giR c (vaC c) (zfb ts (vaC c).length) []).length <= 60 by omega)
  unfold cqsW
  omega
 ·exact Nat.zero_le _
set_option maxHeartbeats 8000000 in
theorem qkh (c : Cq) (ts : List Tm) : FC Tryz.prog 6 [cqD c, .one (tmS ts)] [bD true] := by
 have HZ := zv3 c 1048576 (by omega) (by omega)
 simp only [cqD, zaw] at HZ ⊢
 refine zda Tryz.call6 Tryz.func6 rfl (by kernel_rfl) (za4 (by kernel_rfl)) ?_
 simp -implicitDefEqProofs only [go_sem, Tryz.results6]
 refine callF (HZ) (by simp -implicitDefEqProofs only [go_sem]) ?_
 simp -implicitDefEqProofs only [go_sem]
 refine ⟨fun h => trivial, fun h => ?_⟩
 obtain ⟨hw1, hw2⟩ := zfk (show ¬ szR c.wt 1048576 < 0 by simpa using h)
 have HZ2 := qa1 ts (szR c.wt 1048576) (by omega) (by omega)
 refine callF (HZ2) (by simp -implicitDefEqProofs only [go_sem]) ?_
 simp -implicitDefEqProofs only [go_sem]
 refine ⟨fun h => trivial, fun h => ?_⟩
 obtain ⟨hw3, hw4⟩ := zfk (show ¬ szR (zgm ts) (szR c.wt 1048576) < 0 by simpa using h)
 have hcw : c.wt <= 1048576 := by omega
 have htw : zgm ts <= 1048576 := by omega
 have HS := qdg c ts hcw htw
 have HI := qeg c ts hcw htw
 have HT := zwi c hcw
 have HT2 := zy6 ts htw
 have HE := zkp c c
 have HE2 := qay ts ts
 have hRw := giV_wt c ts
 generalize giV c ts = R at HS HI hRw
 generalize giB c ts = G at HS HI
 have HF := zqz R R
 have n2 : ∀ b : Bool, (b != b) = false := by decide
 simp only [cqD, zaw] at HS HI HT HE
 refine callF (HT) (by simp -implicitDefEqProofs only [go_sem]) ?_
 simp -implicitDefEqProofs only [go_sem]
 refine callF (HT2) (by simp -implicitDefEqProofs only [go_sem]) ?_
 simp -implicitDefEqProofs only [go_sem]
 refine frzO 928 rfl rfl ?_
 simp -implicitDefEqProofs only [go_sem]
 refine frzO 992 rfl rfl ?_
 simp -implicitDefEqProofs only [go_sem]
 refine callRn (HS) (by simp -implicitDefEqProofs only [go_sem]) ?_
 simp -implicitDefEqProofs only [go_sem]
 refine callF (HT) (by simp -implicitDefEqProofs only [go_sem]) ?_
 simp -implicitDefEqProofs only [go_sem]
 refine callF (HT2) (by simp -implicitDefEqProofs only [go_sem]) ?_
 simp -implicitDefEqProofs only [go_sem]
 refine callF (HI) (by simp -implicitDefEqProofs only [go_sem]) ?_
 simp -implicitDefEqProofs only [go_sem]
 refine callF (HF) (by simp -implicitDefEqProofs only [go_sem, zbb, beq_self_eq_true, bne_self_eq_false, Bool.not_true, n2]) ?_
 simp -implicitDefEqProofs only [go_sem, zbb, beq_self_eq_true, bne_self_eq_false, Bool.not_true, n2]
 refine drawn (by kernel_rfl) ?_
 simp -implicitDefEqProofs only [go_sem]
 refine zax (HT) (by simp -implicitDefEqProofs only [go_sem]) ?_
 simp -implicitDefEqProofs only [go_sem]
 refine zax (HE) (by simp -implicitDefEqProofs only [go_sem]) ?_
 simp -implicitDefEqProofs only [go_sem]
 refine ⟨by kernel_rfl, fun h => ?_, fun _ => ?_⟩
 ·simp [zbb] at h
 refine callF (HT2) (by simp -implicitDefEqProofs only [go_sem]) ?_
 simp -implicitDefEqProofs only [go_sem]
 refine callF (HE2) (by simp -implicitDefEqProofs only [go_sem, zbb]) ?_
 simp -implicitDefEqProofs only [go_sem, zbb]
 have hc1 : zd1 c <= 1 + 3 * c.wt := by
  obtain ⟨l⟩ := c
  have h2 := zlu l
  have h3 : (Cq.mk l).wt = zd8 l := rfl
  simp only [zd1]
  omega
 have hc2 := zh0 ts
 have hcR := ztc R
 have HM := zov c 1 (by omega) (by omega)
 have hm := znk c 1
 have HM2 := zjp ts (zb5 c 1).2 (by omega) (by omega)
 have hm2 := zc9 ts (zb5 c 1).2
 have HM3 := zm1 R 1 (by omega) (by omega)
 have HL := zmh R 1 (by omega) (by omega)
 have hmR := (zr8 R 1).1
 rw [zaw, zaw] at HM
 have hk2 : ((((za6 ts (zb5 c 1).2).2 : Nat) : Int) < 0) = False := eq_false (by omega)
 have hk3 : ((((zb3 R 1).2 : Nat) : Int) < 0) = False := eq_false (by omega)
 generalize (za6 ts (zb5 c 1).2).2 = k2 at HM2 hk2
 generalize (za6 ts (zb5 c 1).2).1 = f2 at HM2
 generalize (zb5 c 1).2 = k1 at HM HM2
 generalize (zb5 c 1).1 = f1 at HM
 generalize (zb3 R 1).2 = k3 at HM3 HL hk3
 generalize (zb3 R 1).1 = r1 at HM3 HL
 refine zmr [1, 2, 4, 6, 7, 8, 9, 10, 11, 64, 65] (HM) (by simp -implicitDefEqProofs only [go_sem]) (by simp -implicitDefEqProofs only [go_sem]) (by simp -implicitDefEqProofs only [go_sem]) (by simp -implicitDefEqProofs only [go_sem]) (by simp -implicitDefEqProofs only [go_sem]) rfl ?_
 simp -implicitDefEqProofs only [go_sem]
 refine zmr [1, 2, 4, 6, 7, 9, 10, 11, 67, 68] (HM2) (by simp -implicitDefEqProofs only [go_sem, hk2]) (by simp -implicitDefEqProofs only [go_sem, hk2]) (by simp -implicitDefEqProofs only [go_sem, hk2]) (by simp -implicitDefEqProofs only [go_sem, hk2]) (by simp -implicitDefEqProofs only [go_sem, hk2]) rfl ?_
 simp -implicitDefEqProofs only [go_sem, hk2]
 refine callF (HF) (by simp -implicitDefEqProofs only [go_sem, zbb, beq_self_eq_true, bne_self_eq_false, Bool.not_true, n2]) ?_
 simp -implicitDefEqProofs only [go_sem, zbb, beq_self_eq_true, bne_self_eq_false, Bool.not_true, n2]
 refine zmr [1, 2, 4, 6, 7, 10, 11, 83, 84] (HM3) (by simp -implicitDefEqProofs only [go_sem]) (by simp -implicitDefEqProofs only [go_sem]) (by simp -implicitDefEqProofs only [go_sem]) (by simp -implicitDefEqProofs only [go_sem]) (by simp -implicitDefEqProofs only [go_sem]) rfl ?_
 simp -implicitDefEqProofs only [go_sem]
 refine callF (HL) (by simp -implicitDefEqProofs only [go_sem, hk3, bne_self_eq_false]) ?_
 simp -implicitDefEqProofs only [go_sem, hk3, bne_self_eq_false]
 refine callF (HT) (by simp -implicitDefEqProofs only [go_sem]) ?_
 simp -implicitDefEqProofs only [go_sem]
 refine callF (HT2) (by simp -implicitDefEqProofs only [go_sem]) ?_
 simp -implicitDefEqProofs only [go_sem]
 refine callF (HI) (by simp -implicitDefEqProofs only [go_sem]) ?_
 simp -implicitDefEqProofs only [go_sem]
 refine callF (HF) (by simp -implicitDefEqProofs only [go_sem, zbb, beq_self_eq_true, bne_self_eq_false, Bool.not_true, n2]) ?_
 simp -implicitDefEqProofs only [go_sem, zbb, beq_self_eq_true, bne_self_eq_false, Bool.not_true, n2]
 refine callF (HL) (by simp -implicitDefEqProofs only [go_sem, hk3, bne_self_eq_false]) ?_
 simp -implicitDefEqProofs only [go_sem, hk3, bne_self_eq_false]
end Go.Proofs.YtnkagnjiljjpcaaGreat
