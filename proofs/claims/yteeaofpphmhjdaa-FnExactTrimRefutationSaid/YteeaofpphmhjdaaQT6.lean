/-
  The walk over plain data, and contracts of functions of the program and of its laws.
  Conditions: those that each theorem names.
-/
import Derived.Test.YteeaofpphmhjdaaQT5
import Derived.Test.YteeaofpphmhjdaaQT4
namespace Go.Proofs.Yteeaofpphmhjdaa
set_option linter.unusedSimpArgs false
set_option linter.unusedVariables false
set_option linter.unusedSectionVars false
set_option maxRecDepth 4000
open Go.RowKit
section
variable {P : Program}
theorem ct0_A {n0 : Nat -> Prop} {N : Nat} {σ : St} {g : Gh} {a : Act} {w : World} (hR : Rel n0 N σ g a w) {c : C} {t : T} (h : CT0 σ c t) {v : Value} (hv : CR σ g w c v) : zag w (fun b => b < w.heap.size /\ g.A0 b) t v := by
 have hF : ∀ b, Fix σ g w b -> b < w.heap.size /\ g.A0 b := fun b hb => ⟨hb.2.2.1, hb.2.2.2⟩
 have hFr : ∀ b, zcr σ g w b -> b < w.heap.size /\ g.A0 b := fun b hb => hF b hb.1
 cases c with
 | t x =>
  have h : x = t := h
  subst h
  exact zag.keep (fun _ _ => rfl) hF x v hv
 | rn x =>
  have h : x = t := h
  subst h
  exact zag.keep (fun _ _ => rfl) hFr x v hv
 | nl s =>
  cases t with
  | sl sz rows =>
   have h : rows = [] := h
   subst h
   have hv : v = .slice none 0 0 := hv
   subst hv
   unfold zag
   exact ⟨none, 0, rfl, Nat.le_refl _, by simp, Or.inl rfl⟩
  | _ => exact h.elim
 | ow e n =>
  cases t with
  | sl sz rows =>
   obtain ⟨d, o, he⟩ := h
   obtain ⟨rfl, -⟩ := hv
   cases o
   ·exact zag.keep (fun _ _ => rfl) hF _ _ (hR.offs e _ he rfl).1
   ·have hOn : σ.On e := ⟨_, he, rfl⟩
    have hlt : ∀ b ∈ g.φ e, b < w.heap.size := (hR.evs e _ he rfl).lt
    obtain ⟨ao, cap, e1, e2, e3, e4⟩ := hR.evs e _ he rfl
    unfold zag
    refine ⟨ao, cap, e1, e2, e3, ?_⟩
    rcases e4 with ⟨_, _, e4, _⟩ | ⟨b, cells, ty, fps, k1, k2, k3, k4, k5⟩
    ·exact Or.inl e4
    ·have hA : ∀ b' ∈ g.φ e, b' < w.heap.size /\ g.A0 b' := fun b' hb' => ⟨hlt b' hb', (hR.ebase e hOn b' hb').1⟩
     refine Or.inr ⟨b, 0, k1, hA b (by rw [k2]; simp), ?_⟩
     split at k5
     ·exact zad.rep b cells ty k3 0 sz rows fps k5 fun b' hb' => hA b' (by rw [k2]; simp [hb'])
     ·exact zah.keep (fun _ _ => rfl) hF b rfl 0 sz rows k5.2
  | _ => exact h.elim
 | el cs o =>
  cases t with
  | ptr cs' =>
   obtain ⟨rfl, rfl⟩ := h
   obtain ⟨b, q, h1, h2, h3⟩ := hv
   unfold zag
   exact ⟨b, q, h1, hF b h2, zar.keep (fun _ _ => rfl) hF b rfl q cs h3⟩
  | _ => exact h.elim
 | er cs o =>
  cases t with
  | ptr cs' =>
   obtain ⟨rfl, rfl⟩ := h
   obtain ⟨b, q, h1, h2, h3⟩ := hv
   unfold zag
   exact ⟨b, q, h1, hFr b h2, zar.keep (fun _ _ => rfl) hFr b rfl q cs h3⟩
  | _ => exact h.elim
 | _ => cases t <;> exact h.elim
theorem zwk {n0 : Nat -> Prop} {N : Nat} {σ : St} {g : Gh} {a : Act} {w : World} (hR : Rel n0 N σ g a w) : ∀ {cs : List C} {ts : List T}, zop σ cs ts -> ∀ {vs : List Value}, CRs σ g w cs vs -> zaa w (fun b => b < w.heap.size /\ g.A0 b) ts vs
 | [], ts, h, vs, hv => by rw [show ts = [] from h]; unfold zaa; exact hv
 | c :: cs, ts, h, vs, hv => by
  obtain ⟨t, ts', rfl, h1, h2⟩ := h
  obtain ⟨v, vs', rfl, k1, k2⟩ := hv
  unfold zaa
  exact ⟨v, vs', rfl, ct0_A hR h1 k1, zwk hR h2 k2⟩
def RVe (σ : St) : List V -> List D -> Prop
 | [], [] => True
 | .one c :: vs, .one t :: ds => CT0 σ c t /\ RVe σ vs ds
 | .agg cs :: vs, .agg ts :: ds => zop σ cs ts /\ RVe σ vs ds
 | _, _ => False
theorem RVe.rep {n0 : Nat -> Prop} {N : Nat} {σ : St} {g : Gh} {a : Act} {w : World} (hR : Rel n0 N σ g a w) : ∀ {vs : List V} {ds : List D}, RVe σ vs ds -> ∀ {us : List Value}, VRl σ g w vs us -> za4 w (fun b => b < w.heap.size /\ g.A0 b) ds us
 | [], [], _, us, hv => hv
 | .one c :: vs, .one t :: ds, h, us, hv => by
  obtain ⟨u, us', rfl, k1, k2⟩ := hv
  exact ⟨u, us', rfl, ct0_A hR h.1 k1, RVe.rep hR h.2 k2⟩
 | .agg cs :: vs, .agg ts :: ds, h, us, hv => by
  obtain ⟨u, us', rfl, ⟨q, rfl, k1⟩, k2⟩ := hv
  exact ⟨_, us', rfl, ⟨q, rfl, zwk hR h.1 k1⟩, RVe.rep hR h.2 k2⟩
 | [], _ :: _, h, _, _ => h.elim
 | .one _ :: _, [], h, _, _ => h.elim
 | .one _ :: _, .agg _ :: _, h, _, _ => h.elim
 | .agg _ :: _, [], h, _, _ => h.elim
 | .agg _ :: _, .one _ :: _, h, _, _ => h.elim
 | .tup _ :: _, [], h, _, _ => h.elim
 | .tup _ :: _, _ :: _, h, _, _ => h.elim
def PRe (P : Program) (rs : List ResultVar) (res : List D) (e : Exit) (σ : St) : Prop := match e with
 | .normal => zal (zbe P σ rs) fun vs => RVe σ vs res
 | .ret => zal (zbe P σ rs) fun vs => RVe σ vs res
 | _ => False
theorem zi2 {f : FuncId} {fn : Func} {c : Code} {args res : List D} (hc : za0 P f) (hf : P.funcs[f]? = some fn) (hb : fn.body = some c) (hd : za3 fn.ntmps c = true) (hN : (rd args).length <= fn.ntmps)
  (h : ex P c [] (PRe P fn.results.toList res) (zdm (rd args))) : RC P f args res := by
 refine ⟨hc, fun w vs A hv => ?_⟩
 refine calls_of_wp hf hb ?_
 have hg : ∀ (ds : List D) (vs : List Value), za4 w (fun b => b < w.heap.size /\ A b) ds vs -> zbg w (fun b => b < w.heap.size /\ A b /\ b ∉ ([] : List Nat)) (rd ds) vs [] [] := by
  intro ds
  induction ds with
  | nil => intro vs h; exact ⟨h, rfl, rfl⟩
  | cons d ds ih =>
   rintro vs ⟨v, vs', rfl, h1, h2⟩
   refine ⟨v, vs', rfl, ?_, ih _ h2⟩
   cases d with
   | one t => exact zag.keep (fun _ _ => rfl) (fun b hb => ⟨hb.1, hb.2, by simp⟩) t _ h1
   | agg ts => obtain ⟨a, h0, h1⟩ := h1; exact ⟨a, h0, zaa.keep (fun _ _ => rfl) (fun b hb => ⟨hb.1, hb.2, by simp⟩) ts a h1⟩
 obtain ⟨g, hg, hR⟩ := Rel.start (A := A) (A0 := fun b => A b \/ w.heap.size <= b) (R0 := RP.of fun _ => True) (N := fn.ntmps) (hg _ _ hv) List.nodup_nil (zb1 args) hN (fun _ hb => Or.inl hb) (fun b hb => by simp at hb) (fun b hb => ⟨Or.inr (by
  refine Nat.le_of_not_lt fun hlt => hb ⟨hlt, by simp⟩), trivial⟩)
 refine wp_mono (za2 (w0 := w) c (zdm (rd args)) _ hd h g _ w hR (fun k hk => hk.1) (Bk.refl _ _) hg) fun e a' w' hq => ?_
 obtain ⟨σ', g', h1, h2, h3, h4, h5⟩ := hq
 have key : zal (zbe P σ' fn.results.toList) (fun vs => RVe σ' vs res) -> ∃ v, (results fn a'.tmps).run P w' = .ok v w' /\ ∃ us, Ending.returned v = .returned (zbl us) /\ za4 w' (fun b => b < w'.heap.size /\ (A b \/ w.heap.size <= b)) res us /\ Below w.heap.size w w' := fun hk => by
  unfold zal at hk
  split at hk
  ·rename_i vs hvs
   obtain ⟨us, r1, r2⟩ := zbc h2 fn hvs
   refine ⟨_, r1, us, rfl, (RVe.rep h2 hk r2).keep (fun _ _ => rfl) fun b hb => ⟨hb.1, ?_⟩, h4.os, h4.tape, h4.output, h4.size, fun k hk => h4.block k ⟨hk, by simp⟩⟩
   have := hb.2
   simp only [Prod.mk.injEq] at h5
   rw [h5.1] at this
   exact this
  ·exact hk.elim
 cases e with
 | normal => exact ⟨h2.defers, key h1⟩
 | ret => exact ⟨h2.defers, key h1⟩
 | exit _ => exact h1.elim
 | goto _ => exact h1.elim
 | panic _ => exact h1.elim
 | outgrown => exact h1.elim
attribute [go_sem] PRe RVe
end
end Go.Proofs.Yteeaofpphmhjdaa
namespace Go.Proofs.Yteeaofpphmhjdaa
set_option linter.unusedSimpArgs false
set_option linter.unusedVariables false
set_option linter.unusedSectionVars false
set_option maxRecDepth 4000
open Go.RowKit
theorem zt5 (xs ys : List Int) : FC Try.prog 116 [.one (zba xs), .one (zba ys)] [bD (same xs ys)] := by
 refine zd2 (fun hw => ?_) Try.call116
 have hl : xs.length <= 9223372036854775807 := by have := hw.1.1; simpa using this
 by_cases hne : xs.length = ys.length
 ·have hni : ((xs.length : Int) != (ys.length : Int)) = false := by rw [hne]; simp
  refine zay Try.call116 Try.func116 rfl (by kernel_rfl) (zbj (by kernel_rfl)) ?_
  simp -implicitDefEqProofs only [go_sem, Try.results116, hni]
  refine zaj (fun k : Nat => hd [(0, vT (zba xs)), (1, vT (zba ys)), (5, vI k)] [] []) (fun k => k <= xs.length /\ same xs ys = same (xs.drop k) (ys.drop k)) (fun k => xs.length - k) 0 (zac ?_) ?_ ?_
  ·simp -implicitDefEqProofs only [go_sem]
  ·simp
  ·intro k ⟨hk, hr⟩
   by_cases hlt : k < xs.length
   ·have hlt2 : k < ys.length := by omega
    have hwk : IntKind.i64.wrap ((k : Int) + 1) = ((k + 1 : Nat) : Int) := zav (by omega)
    rw [List.drop_eq_getElem_cons hlt, List.drop_eq_getElem_cons hlt2, zcl] at hr
    simp -implicitDefEqProofs only [go_sem, hlt]
    refine drawn (by kernel_rfl) ?_
    simp -implicitDefEqProofs only [go_sem, zaf, hlt, hlt2]
    refine ⟨by kernel_rfl, ?_⟩
    rw [hwk]
    refine ⟨fun h => ?_, fun h => ⟨k + 1, ⟨hlt, ?_⟩, by omega, zac (by simp -implicitDefEqProofs only [go_sem])⟩⟩
    ·rw [hr, zb2.2 (by simpa using h), Bool.false_and]
    ·rw [hr, zb0.2 (by simpa using h), Bool.true_and]
   ·simp -implicitDefEqProofs only [go_sem, hlt]
    rw [hr, List.drop_of_length_le (by omega), List.drop_of_length_le (by omega), za1]
 ·have hni : ((xs.length : Int) != (ys.length : Int)) = true := by simp; omega
  refine zay Try.call116 Try.func116 rfl (by kernel_rfl) (zbj (by kernel_rfl)) ?_
  simp -implicitDefEqProofs only [go_sem, Try.results116, hni]
  rw [zb2.2 (fun e => hne (by rw [e]))]
theorem zuh (xs ys : List Int) : FC Try.prog 83 [.one (zba xs), .one (zba ys)] [bD (same xs ys)] := by
 refine zd2 (fun hw => ?_) Try.call83
 have hl : xs.length <= 9223372036854775807 := by have := hw.1.1; simpa using this
 by_cases hne : xs.length = ys.length
 ·have hni : ((xs.length : Int) != (ys.length : Int)) = false := by rw [hne]; simp
  refine zay Try.call83 Try.func83 rfl (by kernel_rfl) (zbj (by kernel_rfl)) ?_
  simp -implicitDefEqProofs only [go_sem, Try.results83, hni]
  refine zaj (fun k : Nat => hd [(0, vT (zba xs)), (1, vT (zba ys)), (12, vI xs.length), (13, vI k)] [] []) (fun k => k <= xs.length /\ same xs ys = same (xs.drop k) (ys.drop k)) (fun k => xs.length - k) 0 (zac ?_) ?_ ?_
  ·simp -implicitDefEqProofs only [go_sem]
  ·simp
  ·intro k ⟨hk, hr⟩
   by_cases hlt : k < xs.length
   ·have hlt2 : k < ys.length := by omega
    have hwk : IntKind.i64.wrap ((k : Int) + 1) = ((k + 1 : Nat) : Int) := zav (by omega)
    rw [List.drop_eq_getElem_cons hlt, List.drop_eq_getElem_cons hlt2, zcl] at hr
    simp -implicitDefEqProofs only [go_sem, hlt]
    refine drawn (by kernel_rfl) ?_
    simp -implicitDefEqProofs only [go_sem, zaf, hlt, hlt2]
    refine ⟨by kernel_rfl, ?_⟩
    rw [hwk]
    refine ⟨fun h => ?_, fun h => ⟨k + 1, ⟨hlt, ?_⟩, by omega, zac (by simp -implicitDefEqProofs only [go_sem])⟩⟩
    ·rw [hr, zb2.2 (by simpa using h), Bool.false_and]
    ·rw [hr, zb0.2 (by simpa using h), Bool.true_and]
   ·simp -implicitDefEqProofs only [go_sem, hlt]
    rw [hr, List.drop_of_length_le (by omega), List.drop_of_length_le (by omega), za1]
 ·have hni : ((xs.length : Int) != (ys.length : Int)) = true := by simp; omega
  refine zay Try.call83 Try.func83 rfl (by kernel_rfl) (zbj (by kernel_rfl)) ?_
  simp -implicitDefEqProofs only [go_sem, Try.results83, hni]
  rw [zb2.2 (fun e => hne (by rw [e]))]
def clI (S : List (List Int)) (st : List Ps) (i : Int) : List Int × Bool := if (inB i 0 (S.length - 1) || inB i S.length (S.length + st.length - 1)) = true then (clA S st i, true) else ([], false)
theorem zwo {S : List (List Int)} {st : List Ps} {i : Int} : (clI S st i).2 = (decide (0 <= i) && decide (i < (S.length : Int) + st.length)) := by
 unfold clI inB
 by_cases h : 0 <= i /\ i < (S.length : Int) + st.length
 ·rw [if_pos, show decide (0 <= i) = true by simpa using h.1, show decide (i < (S.length : Int) + st.length) = true by simpa using h.2]; · rfl
  simp only [Bool.or_eq_true, Bool.and_eq_true, decide_eq_true_eq]
  omega
 ·rw [if_neg]
  ·symm
   rw [Bool.and_eq_false_iff, decide_eq_false_iff_not, decide_eq_false_iff_not]
   omega
  ·simp only [Bool.or_eq_true, Bool.and_eq_true, decide_eq_true_eq]
   omega
theorem zgo (S : List (List Int)) (st : List Ps) (i : Int) (hS : S.length <= 1048576) (hst : st.length <= 1048576) : RC Try.prog 81 [.one (za6 S), .one (psS st), iD i] [.one (zba (clI S st i).1), bD (clI S st i).2] := by
 have H1 := zdx i 0 ((S.length : Int) - 1)
 have H2 := zdx i S.length ((S.length : Int) + st.length - 1)
 have w1 : IntKind.i64.wrap ((S.length : Int) - 1) = (S.length : Int) - 1 := zaq (by omega) (by omega)
 have w2 : IntKind.i64.wrap (IntKind.i64.wrap ((S.length : Int) + (st.length : Int)) - 1) = (S.length : Int) + st.length - 1 := by rw [zaq (n := (S.length : Int) + (st.length : Int)) (by omega) (by omega), zaq (by omega) (by omega)]
 unfold clI
 cases h1 : inB i 0 ((S.length : Int) - 1)
 ·rw [h1] at H1
  cases h2 : inB i S.length ((S.length : Int) + st.length - 1)
  ·rw [h2] at H2
   rw [Bool.or_self, if_neg (by simp)]
   refine zi2 Try.call81 Try.func81 rfl (by kernel_rfl) (zbj (by kernel_rfl)) ?_
   simp -implicitDefEqProofs only [go_sem, Try.results81]
   rw [w1]
   refine callF (H1) (by simp -implicitDefEqProofs only [go_sem]) ?_
   simp -implicitDefEqProofs only [go_sem]
   rw [w2]
   refine callF (H2) (by simp -implicitDefEqProofs only [go_sem]) ?_
   simp -implicitDefEqProofs only [go_sem]
   skip
  ·rw [h2] at H2
   rw [Bool.or_true, if_pos rfl]
   unfold inB at h1 h2
   simp at h1 h2
   obtain ⟨q, hq⟩ : ∃ q : Nat, i = (S.length : Int) + q := ⟨(i - S.length).toNat, by omega⟩
   have hql : q < st.length := by omega
   have w3 : IntKind.i64.wrap (i - (S.length : Int)) = (q : Int) := by rw [zaq (by omega) (by omega)]; omega
   have e : clA S st i = st[q].c := by
    unfold clA
    rw [if_neg (by omega), show i.toNat - S.length = q by omega, List.getD_eq_getElem?_getD, List.getElem?_eq_getElem hql]; rfl
   rw [e]
   refine zi2 Try.call81 Try.func81 rfl (by kernel_rfl) (zbj (by kernel_rfl)) ?_
   simp -implicitDefEqProofs only [go_sem, Try.results81]
   rw [w1]
   refine callF (H1) (by simp -implicitDefEqProofs only [go_sem]) ?_
   simp -implicitDefEqProofs only [go_sem]
   rw [w2]
   refine callF (H2) (by simp -implicitDefEqProofs only [go_sem]) ?_
   simp -implicitDefEqProofs only [go_sem]
   rw [w3]
   simp -implicitDefEqProofs only [go_sem, hql, zaf, zaz]
   skip
 ·rw [h1] at H1
  rw [Bool.true_or, if_pos rfl]
  unfold inB at h1
  simp at h1
  obtain ⟨q, hq⟩ : ∃ q : Nat, i = (q : Int) := ⟨i.toNat, by omega⟩
  subst hq
  have hql : q < S.length := by omega
  have e : clA S st q = S[q] := by
   unfold clA
   rw [if_pos (by omega), Int.toNat_natCast, List.getD_eq_getElem?_getD, List.getElem?_eq_getElem hql]; rfl
  rw [e]
  refine zi2 Try.call81 Try.func81 rfl (by kernel_rfl) (zbj (by kernel_rfl)) ?_
  simp -implicitDefEqProofs only [go_sem, Try.results81]
  rw [w1]
  refine callF (H1) (by simp -implicitDefEqProofs only [go_sem, hql, zaf]) ?_
  simp -implicitDefEqProofs only [go_sem, hql, zaf]
  skip
end Go.Proofs.Yteeaofpphmhjdaa
namespace Go.Proofs.Yteeaofpphmhjdaa
set_option linter.unusedSimpArgs false
set_option linter.unusedVariables false
set_option linter.unusedSectionVars false
set_option maxRecDepth 4000
open Go.RowKit
def zta (S : List (List Int)) (st : List Ps) : Bool := zi8 S && inB st.length 1 200
theorem zv5 {S : List (List Int)} {st : List Ps} (hS : ∀ c ∈ S, pcl c = true) {k : Nat} (hk : k < st.length) (hp : ∀ j < k, zbb S st j = true) :
  zbb S st k = ((clI S (st.take k) st[k].l).2 && (clI S (st.take k) st[k].r).2 && ((rsO (clI S (st.take k) st[k].l).1 (clI S (st.take k) st[k].r).1 st[k].p).2 && same (rsO (clI S (st.take k) st[k].l).1 (clI S (st.take k) st[k].r).1 st[k].p).1 st[k].c)) := by
 have hg : st.getD k ps0 = st[k] := by rw [List.getD_eq_getElem?_getD, List.getElem?_eq_getElem hk]; rfl
 have hl : (st.take k).length = k := by rw [List.length_take]; omega
 have hcl : ∀ i : Int, (clI S (st.take k) i).2 = true -> 0 <= i /\ i < S.length + k /\ (clI S (st.take k) i).1 = clA S st i := fun i h => by
  have h2 := h
  rw [zwo, Bool.and_eq_true, decide_eq_true_eq, decide_eq_true_eq, hl] at h2
  refine ⟨h2.1, h2.2, ?_⟩
  have e : clA S (st.take k) i = clA S st i := by
   conv => rhs; rw [<- List.take_append_drop k st]
   rw [zng (by rw [hl]; exact h2.2)]
  rw [<- e]
  unfold clI at h ⊢
  split
  ·rfl
  next hn => rw [if_neg hn] at h; cases h
 have hno : ∀ i : Int, (clI S (st.take k) i).2 = false -> ¬ (0 <= i /\ i < S.length + k) := fun i h => by
  rw [zwo, Bool.and_eq_false_iff, decide_eq_false_iff_not, decide_eq_false_iff_not, hl] at h
  omega
 cases h1 : (clI S (st.take k) st[k].l).2
 ·rw [Bool.false_and, Bool.false_and, <- Bool.not_eq_true, zcj, hg]
  exact fun h => hno _ h1 ⟨h.1.1, h.1.2⟩
 ·cases h2 : (clI S (st.take k) st[k].r).2
  ·rw [Bool.and_false, Bool.false_and, <- Bool.not_eq_true, zcj, hg]
   exact fun h => hno _ h2 ⟨h.2.1.1, h.2.1.2⟩
  ·obtain ⟨a1, a2, a3⟩ := hcl _ h1
   obtain ⟨b1, b2, b3⟩ := hcl _ h2
   rw [Bool.true_and, Bool.true_and, a3, b3]
   have pa := zer hS hp a1 a2
   have pb := zer hS hp b1 b2
   rw [Bool.eq_iff_iff, zcj, hg, Bool.and_eq_true, zb0]
   unfold rsO
   rw [pa, pb, Bool.true_and, Bool.true_and]
   cases h3 : inB st[k].p 1 12
   ·unfold inB at h3
    rw [Bool.and_eq_false_iff, decide_eq_false_iff_not, decide_eq_false_iff_not] at h3
    rw [if_neg (by simp)]
    constructor
    ·rintro ⟨_, _, h, _⟩; exact absurd h (by omega)
    ·rintro ⟨h, _⟩; cases h
   ·unfold inB at h3
    rw [Bool.and_eq_true, decide_eq_true_eq, decide_eq_true_eq] at h3
    rw [if_pos rfl]
    exact ⟨fun h => h.2.2.2, fun h => ⟨⟨a1, a2⟩, ⟨b1, b2⟩, h3, h⟩⟩
theorem zrd {S : List (List Int)} {st : List Ps} (hS : ∀ c ∈ S, c.length <= 1048576) (hst : ∀ s ∈ st, s.c.length <= 1048576) (i : Int) : (clI S st i).1.length <= 1048576 := by
 unfold clI
 split
 ·unfold clA
  split
  ·rw [List.getD_eq_getElem?_getD]
   cases h : S[i.toNat]? with
   | none => simp
   | some c => exact hS c (List.mem_of_getElem? h)
  ·rw [List.getD_eq_getElem?_getD]
   cases h : st[i.toNat - S.length]? with
   | none => simp [ps0]
   | some c => exact hst c (List.mem_of_getElem? h)
 ·simp
set_option maxHeartbeats 2000000 in
theorem zek (S : List (List Int)) (st : List Ps) (hSl : S.length <= 1048576) (hst : st.length <= 1048576) (hSc : ∀ c ∈ S, c.length <= 1048576) (hsc : ∀ s ∈ st, s.c.length <= 1048576) : FC Try.prog 27 [.one (za6 S), .one (psS st)] [iD (if zta S st = true then chk S st else 0), bD (zta S st)] := by
 have H1 := zfb S
 have H2 := zdx st.length 1 200
 unfold zta
 cases h1 : zi8 S
 ·rw [h1] at H1
  rw [Bool.false_and, if_neg (by simp)]
  refine zay Try.call27 Try.func27 rfl (by kernel_rfl) (zbj (by kernel_rfl)) ?_
  simp -implicitDefEqProofs only [go_sem, Try.results27]
  refine callF (H1) (by simp -implicitDefEqProofs only [go_sem]) ?_
  simp -implicitDefEqProofs only [go_sem]
 ·rw [h1] at H1
  cases h2 : inB st.length 1 200
  ·rw [h2] at H2
   rw [Bool.and_false, if_neg (by simp)]
   refine zay Try.call27 Try.func27 rfl (by kernel_rfl) (zbj (by kernel_rfl)) ?_
   simp -implicitDefEqProofs only [go_sem, Try.results27]
   refine callF (H1) (by simp -implicitDefEqProofs only [go_sem]) ?_
   simp -implicitDefEqProofs only [go_sem]
   refine callF (H2) (by simp -implicitDefEqProofs only [go_sem]) ?_
   simp -implicitDefEqProofs only [go_sem]
  ·rw [h2] at H2
   rw [Bool.and_self, if_pos rfl]
   unfold inB at h2
   simp at h2
   have hSp : ∀ c ∈ S, pcl c = true := fun c hc => zhw h1 hc
   refine zay Try.call27 Try.func27 rfl (by kernel_rfl) (zbj (by kernel_rfl)) ?_
   simp -implicitDefEqProofs only [go_sem, Try.results27]
   refine callF (H1) (by simp -implicitDefEqProofs only [go_sem]) ?_
   simp -implicitDefEqProofs only [go_sem]
   refine callF (H2) (by simp -implicitDefEqProofs only [go_sem]) ?_
   simp -implicitDefEqProofs only [go_sem]
   refine zaj (fun k : Nat => hd [(0, vT (za6 S)), (1, vT (psS st)), (23, vT (psS st)), (24, vI st.length), (25, vI k)] [] []) (fun k => k <= st.length /\ ∀ j < k, zbb S st j = true) (fun k => st.length - k) 0 (zac ?_) ?_ ?_
   ·simp -implicitDefEqProofs only [go_sem]
   ·exact ⟨Nat.zero_le _, fun j hj => absurd hj (by omega)⟩
   ·intro k ⟨hk, hp⟩
    by_cases hlt : k < st.length
    ·have hI := zv5 hSp hlt hp
     have HA := zgo S (st.take k) st[k].l hSl (by rw [List.length_take]; omega)
     have HB := zgo S (st.take k) st[k].r hSl (by rw [List.length_take]; omega)
     have hla := zrd hSc (st := st.take k) (fun s hs => hsc s (List.mem_of_mem_take hs)) st[k].l
     have hlb := zrd hSc (st := st.take k) (fun s hs => hsc s (List.mem_of_mem_take hs)) st[k].r
     generalize clI S (st.take k) st[k].l = A at hI HA hla
     generalize clI S (st.take k) st[k].r = B at hI HB hlb
     obtain ⟨a, a2⟩ := A
     obtain ⟨b, b2⟩ := B
     simp only at hI HA HB hla hlb
     have HR := zj2 a b st[k].p (by omega)
     have HE := zuh (rsO a b st[k].p).1 st[k].c
     generalize rsO a b st[k].p = R at hI HR HE
     obtain ⟨r, r2⟩ := R
     simp only at hI HR HE
     have hwk : IntKind.i64.wrap ((k : Int) + 1) = ((k + 1 : Nat) : Int) := zav (by omega)
     have hkl : k <= st.length := by omega
     have fin : zbb S st k = false -> chk S st = k := fun h => zig hlt hp h
     have nxt : zbb S st k = true -> ∀ j < k + 1, zbb S st j = true := fun h j hj => by
      by_cases hjk : j < k
      ·exact hp j hjk
      ·rw [show j = k by omega]; exact h
     cases a2
     ·rw [fin (by rw [hI]; simp)]
      simp -implicitDefEqProofs only [go_sem, hlt, zaf, zaz]
      refine drawn (by kernel_rfl) ?_
      simp -implicitDefEqProofs only [go_sem, hkl, <- List.map_take]
      refine zc0 HA (by simp -implicitDefEqProofs only [go_sem]) ?_
      simp -implicitDefEqProofs only [go_sem]
      refine ⟨by kernel_rfl, ?_⟩
      refine drawn (by kernel_rfl) ?_
      simp -implicitDefEqProofs only [go_sem, hkl, <- List.map_take]
      refine zc0 HB (by simp -implicitDefEqProofs only [go_sem]) ?_
      simp -implicitDefEqProofs only [go_sem]
      kernel_rfl
     ·cases b2
      ·rw [fin (by rw [hI]; simp)]
       simp -implicitDefEqProofs only [go_sem, hlt, zaf, zaz]
       refine drawn (by kernel_rfl) ?_
       simp -implicitDefEqProofs only [go_sem, hkl, <- List.map_take]
       refine zc0 HA (by simp -implicitDefEqProofs only [go_sem]) ?_
       simp -implicitDefEqProofs only [go_sem]
       refine ⟨by kernel_rfl, ?_⟩
       refine drawn (by kernel_rfl) ?_
       simp -implicitDefEqProofs only [go_sem, hkl, <- List.map_take]
       refine zc0 HB (by simp -implicitDefEqProofs only [go_sem]) ?_
       simp -implicitDefEqProofs only [go_sem]
       kernel_rfl
      ·rw [Bool.true_and, Bool.true_and] at hI
       cases r2
       ·rw [fin (by rw [hI]; simp)]
        simp -implicitDefEqProofs only [go_sem, hlt, zaf, zaz]
        refine drawn (by kernel_rfl) ?_
        simp -implicitDefEqProofs only [go_sem, hkl, <- List.map_take]
        refine zc0 HA (by simp -implicitDefEqProofs only [go_sem]) ?_
        simp -implicitDefEqProofs only [go_sem]
        refine ⟨by kernel_rfl, ?_⟩
        refine drawn (by kernel_rfl) ?_
        simp -implicitDefEqProofs only [go_sem, hkl, <- List.map_take]
        refine zc0 HB (by simp -implicitDefEqProofs only [go_sem]) ?_
        simp -implicitDefEqProofs only [go_sem]
        refine ⟨by kernel_rfl, ?_⟩
        refine callF (HR) (by simp -implicitDefEqProofs only [go_sem]) ?_
        simp -implicitDefEqProofs only [go_sem]
       ·rw [Bool.true_and] at hI
        simp -implicitDefEqProofs only [go_sem, hlt, zaf, zaz]
        refine drawn (by kernel_rfl) ?_
        simp -implicitDefEqProofs only [go_sem, hkl, <- List.map_take]
        refine zc0 HA (by simp -implicitDefEqProofs only [go_sem]) ?_
        simp -implicitDefEqProofs only [go_sem]
        refine ⟨by kernel_rfl, ?_⟩
        refine drawn (by kernel_rfl) ?_
        simp -implicitDefEqProofs only [go_sem, hkl, <- List.map_take]
        refine zc0 HB (by simp -implicitDefEqProofs only [go_sem]) ?_
        simp -implicitDefEqProofs only [go_sem]
        refine ⟨by kernel_rfl, ?_⟩
        refine callF (HR) (by simp -implicitDefEqProofs only [go_sem]) ?_
        simp -implicitDefEqProofs only [go_sem]
        refine callF (HE) (by simp -implicitDefEqProofs only [go_sem]) ?_
        simp -implicitDefEqProofs only [go_sem]
        rw [hwk]
        refine ⟨fun h => ?_, fun h => ⟨k + 1, ⟨hlt, nxt (by rw [hI]; simpa using h)⟩, by omega, zac (by simp -implicitDefEqProofs only [go_sem])⟩⟩
        rw [fin (by rw [hI]; simpa using h)]
    ·have hkn : k = st.length := by omega
     subst hkn
     rw [zg4 hp]
     have hpos : st.length - 1 < st.length := by omega
     have hw1 : IntKind.i64.wrap ((st.length : Int) - 1) = ((st.length - 1 : Nat) : Int) := by rw [zaq (by omega) (by omega)]; omega
     have hg : st.getD (st.length - 1) ps0 = st[st.length - 1] := by rw [List.getD_eq_getElem?_getD, List.getElem?_eq_getElem hpos]; rfl
     rw [hg]
     simp -implicitDefEqProofs only [go_sem, hlt]
     rw [hw1]
     simp -implicitDefEqProofs only [go_sem, hpos, zaf, zaz]
     refine ⟨fun h => ?_, fun h => ?_⟩
     ·rw [if_pos (by simp at h; omega)]
     ·rw [if_neg (by simp at h; rw [h]; simp)]
end Go.Proofs.Yteeaofpphmhjdaa
namespace Go.Proofs.Yteeaofpphmhjdaa
set_option linter.unusedSimpArgs false
set_option linter.unusedVariables false
set_option linter.unusedSectionVars false
set_option maxRecDepth 4000
open Go.RowKit
theorem zls (S : List (List Int)) (st : List Ps) (i : Int) (hS : S.length <= 1048576) (hst : st.length <= 1048576) (h0 : 0 <= i) (hi : i < (S.length : Int) + st.length) : RC Try.prog 111 [.one (.ptr [za6 S, psS st]), iD i] [.one (zba (clA S st i))] := by
 by_cases hlt : i < S.length
 ·obtain ⟨q, hq⟩ : ∃ q : Nat, i = (q : Int) := ⟨i.toNat, by omega⟩
  subst hq
  have hql : q < S.length := by omega
  have e : clA S st q = S[q] := by
   unfold clA
   rw [if_pos (by omega), Int.toNat_natCast, List.getD_eq_getElem?_getD, List.getElem?_eq_getElem hql]; rfl
  rw [e]
  refine zi2 Try.call111 Try.func111 rfl (by kernel_rfl) (zbj (by kernel_rfl)) ?_
  simp -implicitDefEqProofs only [go_sem, Try.results111, hql, zaf]
 ·obtain ⟨q, hq⟩ : ∃ q : Nat, i = (S.length : Int) + q := ⟨(i - S.length).toNat, by omega⟩
  have hql : q < st.length := by omega
  have w3 : IntKind.i64.wrap (i - (S.length : Int)) = (q : Int) := by rw [zaq (by omega) (by omega)]; omega
  have e : clA S st i = st[q].c := by
   unfold clA
   rw [if_neg (by omega), show i.toNat - S.length = q by omega, List.getD_eq_getElem?_getD, List.getElem?_eq_getElem hql]; rfl
  have hli : (i < (S.length : Int)) = False := by simpa using hlt
  rw [e]
  refine zi2 Try.call111 Try.func111 rfl (by kernel_rfl) (zbj (by kernel_rfl)) ?_
  simp -implicitDefEqProofs only [go_sem, Try.results111, hli]
  refine drawn (by kernel_rfl) ?_
  simp -implicitDefEqProofs only [go_sem]
  rw [w3]
  simp -implicitDefEqProofs only [go_sem, hql, zaf, zaz]
  kernel_rfl
theorem zu5 {S : List (List Int)} {st : List Ps} {k : Nat} (hk : k < st.length) :
  zbb S st k = (inB st[k].l 0 (S.length + k - 1) && inB st[k].r 0 (S.length + k - 1) && inB st[k].p 1 12 && ((zfl (clA S st st[k].l) (clA S st st[k].r) st[k].p).2 && same (zfl (clA S st st[k].l) (clA S st st[k].r) st[k].p).1 st[k].c)) := by
 have hg : st.getD k ps0 = st[k] := by rw [List.getD_eq_getElem?_getD, List.getElem?_eq_getElem hk]; rfl
 unfold zbb
 rw [hg]
 have e : ((zfl (clA S st st[k].l) (clA S st st[k].r) st[k].p).1 == st[k].c) = same (zfl (clA S st st[k].l) (clA S st st[k].r) st[k].p).1 st[k].c := by
  rw [Bool.eq_iff_iff, beq_iff_eq, zb0]
 dsimp only
 rw [e]
 rfl
theorem znr (S : List (List Int)) (st : List Ps) : FC Try.prog 88 [.one (za6 S), .one (psS st)] [bD (zta S st)] := by
 have H1 := ztg S
 have H2 := ziw st.length 1 200
 unfold zta
 cases h1 : zi8 S
 ·rw [h1] at H1
  rw [Bool.false_and]
  refine zay Try.call88 Try.func88 rfl (by kernel_rfl) (zbj (by kernel_rfl)) ?_
  simp -implicitDefEqProofs only [go_sem, Try.results88]
  refine callF (H1) (by simp -implicitDefEqProofs only [go_sem]) ?_
  simp -implicitDefEqProofs only [go_sem]
 ·rw [h1] at H1
  rw [Bool.true_and]
  refine zay Try.call88 Try.func88 rfl (by kernel_rfl) (zbj (by kernel_rfl)) ?_
  simp -implicitDefEqProofs only [go_sem, Try.results88]
  refine callF (H1) (by simp -implicitDefEqProofs only [go_sem]) ?_
  simp -implicitDefEqProofs only [go_sem]
  refine callF (H2) (by simp -implicitDefEqProofs only [go_sem]) ?_
  simp -implicitDefEqProofs only [go_sem]
set_option maxHeartbeats 2000000 in
theorem znu (S : List (List Int)) (st : List Ps) (hS : zi8 S = true) (hst : 1 <= st.length /\ st.length <= 1048576) : FC Try.prog 89 [.one (za6 S), .one (psS st)] [iD (chk S st)] := by
 have hSl := zg5 hS
 have hSp : ∀ c ∈ S, pcl c = true := fun c hc => zhw hS hc
 refine zay Try.call89 Try.func89 rfl (by kernel_rfl) (zbj (by kernel_rfl)) ?_
 simp -implicitDefEqProofs only [go_sem, Try.results89]
 refine zaj (fun k : Nat => hd [(0, vT (za6 S)), (1, vT (psS st)), (5, .one (.el [za6 S, psS st] 0)), (6, vI k)] [] []) (fun k => k <= st.length /\ ∀ j < k, zbb S st j = true) (fun k => st.length - k) 0 (Wk.trans (fb_wk (j := 14) rfl rfl) (zac ?_)) ?_ ?_
 ·simp -implicitDefEqProofs only [go_sem]
 ·exact ⟨Nat.zero_le _, fun j hj => absurd hj (by omega)⟩
 ·intro k ⟨hk, hp⟩
  by_cases hlt : k < st.length
  ·have hI := zu5 (S := S) hlt
   have fin : zbb S st k = false -> chk S st = k := fun h => zig hlt hp h
   have nxt : zbb S st k = true -> ∀ j < k + 1, zbb S st j = true := fun h j hj => by
    by_cases hjk : j < k
    ·exact hp j hjk
    ·rw [show j = k by omega]; exact h
   have hwk : IntKind.i64.wrap ((k : Int) + 1) = ((k + 1 : Nat) : Int) := zav (by omega)
   have w1 : IntKind.i64.wrap ((S.length : Int) + (k : Int)) = (S.length : Int) + k := zaq (by omega) (by omega)
   have w2 : IntKind.i64.wrap ((S.length : Int) + (k : Int) - 1) = (S.length : Int) + k - 1 := zaq (by omega) (by omega)
   have H1 := ziw st[k].l 0 ((S.length : Int) + k - 1)
   have H2 := ziw st[k].r 0 ((S.length : Int) + k - 1)
   have H3 := ziw st[k].p 1 12
   cases h1 : inB st[k].l 0 ((S.length : Int) + k - 1)
   ·rw [fin (by rw [hI, h1]; simp)]
    rw [h1] at H1
    simp -implicitDefEqProofs only [go_sem, hlt, zaf, zaz]
    rw [w1, w2]
    refine callF (H1) (by simp -implicitDefEqProofs only [go_sem]) ?_
    simp -implicitDefEqProofs only [go_sem]
   ·rw [h1] at H1
    cases h2 : inB st[k].r 0 ((S.length : Int) + k - 1)
    ·rw [fin (by rw [hI, h1, h2]; simp)]
     rw [h2] at H2
     simp -implicitDefEqProofs only [go_sem, hlt, zaf, zaz]
     rw [w1, w2]
     refine callF (H1) (by simp -implicitDefEqProofs only [go_sem]) ?_
     simp -implicitDefEqProofs only [go_sem]
     rw [w2]
     refine callF (H2) (by simp -implicitDefEqProofs only [go_sem]) ?_
     simp -implicitDefEqProofs only [go_sem]
    ·rw [h2] at H2
     cases h3 : inB st[k].p 1 12
     ·rw [fin (by rw [hI, h1, h2, h3]; simp)]
      rw [h3] at H3
      simp -implicitDefEqProofs only [go_sem, hlt, zaf, zaz]
      rw [w1, w2]
      refine callF (H1) (by simp -implicitDefEqProofs only [go_sem]) ?_
      simp -implicitDefEqProofs only [go_sem]
      rw [w2]
      refine callF (H2) (by simp -implicitDefEqProofs only [go_sem]) ?_
      simp -implicitDefEqProofs only [go_sem]
      refine callF (H3) (by simp -implicitDefEqProofs only [go_sem]) ?_
      simp -implicitDefEqProofs only [go_sem]
     ·rw [h3] at H3
      rw [h1, h2, h3, Bool.true_and, Bool.true_and, Bool.true_and] at hI
      unfold inB at h1 h2 h3
      simp only [Bool.and_eq_true, decide_eq_true_eq] at h1 h2 h3
      have HA := zls S st st[k].l (by omega) hst.2 h1.1 (by omega)
      have HB := zls S st st[k].r (by omega) hst.2 h2.1 (by omega)
      have pa := zer hSp hp h1.1 (by omega)
      have pb := zer hSp hp h2.1 (by omega)
      have la := zef pa
      have lb := zef pb
      have HR := zim (clA S st st[k].l) (clA S st st[k].r) st[k].p (zil pa) (zil pb) (by omega) (by omega)
      generalize clA S st st[k].l = a at hI HA HR
      generalize clA S st st[k].r = b at hI HB HR
      have HE := zt5 (zfl a b st[k].p).1 st[k].c
      generalize zfl a b st[k].p = R at hI HR HE
      obtain ⟨r, r2⟩ := R
      simp only at hI HR HE
      cases r2
      ·rw [fin (by rw [hI]; simp)]
       simp -implicitDefEqProofs only [go_sem, hlt, zaf, zaz]
       rw [w1, w2]
       refine callF (H1) (by simp -implicitDefEqProofs only [go_sem]) ?_
       simp -implicitDefEqProofs only [go_sem]
       rw [w2]
       refine callF (H2) (by simp -implicitDefEqProofs only [go_sem]) ?_
       simp -implicitDefEqProofs only [go_sem]
       refine callF (H3) (by simp -implicitDefEqProofs only [go_sem]) ?_
       simp -implicitDefEqProofs only [go_sem]
       refine drawn (by kernel_rfl) ?_
       simp -implicitDefEqProofs only [go_sem]
       refine zc0 HA (by simp -implicitDefEqProofs only [go_sem]) ?_
       simp -implicitDefEqProofs only [go_sem]
       refine zc0 HB (by simp -implicitDefEqProofs only [go_sem]) ?_
       simp -implicitDefEqProofs only [go_sem]
       refine zc2 (HR) (by simp -implicitDefEqProofs only [go_sem]) ?_
       simp -implicitDefEqProofs only [go_sem]
       kernel_rfl
      ·rw [Bool.true_and] at hI
       simp -implicitDefEqProofs only [go_sem, hlt, zaf, zaz]
       rw [w1, w2]
       refine callF (H1) (by simp -implicitDefEqProofs only [go_sem]) ?_
       simp -implicitDefEqProofs only [go_sem]
       rw [w2]
       refine callF (H2) (by simp -implicitDefEqProofs only [go_sem]) ?_
       simp -implicitDefEqProofs only [go_sem]
       refine callF (H3) (by simp -implicitDefEqProofs only [go_sem]) ?_
       simp -implicitDefEqProofs only [go_sem]
       refine drawn (by kernel_rfl) ?_
       simp -implicitDefEqProofs only [go_sem]
       refine zc0 HA (by simp -implicitDefEqProofs only [go_sem]) ?_
       simp -implicitDefEqProofs only [go_sem]
       refine zc0 HB (by simp -implicitDefEqProofs only [go_sem]) ?_
       simp -implicitDefEqProofs only [go_sem]
       refine zc2 (HR) (by simp -implicitDefEqProofs only [go_sem]) ?_
       simp -implicitDefEqProofs only [go_sem]
       refine ⟨by kernel_rfl, ?_⟩
       refine callF (HE) (by simp -implicitDefEqProofs only [go_sem]) ?_
       simp -implicitDefEqProofs only [go_sem]
       rw [hwk]
       refine ⟨fun h => ?_, fun h => ⟨k + 1, ⟨hlt, nxt (by rw [hI]; simpa using h)⟩, by omega, zac (by simp -implicitDefEqProofs only [go_sem])⟩⟩
       rw [fin (by rw [hI]; simpa using h)]
  ·have hkn : k = st.length := by omega
   subst hkn
   rw [zg4 hp]
   have hpos : st.length - 1 < st.length := by omega
   have hw1 : IntKind.i64.wrap ((st.length : Int) - 1) = ((st.length - 1 : Nat) : Int) := by rw [zaq (by omega) (by omega)]; omega
   have hg : st.getD (st.length - 1) ps0 = st[st.length - 1] := by rw [List.getD_eq_getElem?_getD, List.getElem?_eq_getElem hpos]; rfl
   rw [hg]
   simp -implicitDefEqProofs only [go_sem, hlt]
   rw [hw1]
   simp -implicitDefEqProofs only [go_sem, hpos, zaf, zaz]
   refine ⟨fun h => ?_, fun h => ?_⟩
   ·rw [if_pos (by simp at h; omega)]
   ·rw [if_neg (by simp at h; rw [h]; simp)]
end Go.Proofs.Yteeaofpphmhjdaa
namespace Go.Proofs.Yteeaofpphmhjdaa
set_option linter.unusedSimpArgs false
set_option linter.unusedVariables false
set_option linter.unusedSectionVars false
set_option maxRecDepth 4000
open Go.RowKit
abbrev bolS (xs : List Bool) : T := .sl 1 (xs.map fun b => [T.bool b])
theorem zgw (xs : List Bool) (i : Nat) (v : Bool) (hi : i < xs.length) : zb8 (xs.map fun s => [T.bool s]) i 0 [.bool v] = (xs.set i v).map fun s => [T.bool s] := by
 unfold zb8
 rw [List.getD_eq_getElem?_getD, List.getElem?_eq_getElem (by simpa using hi), List.map_set]
 simp [setR]
def ndK (n : Nat) (st : List Ps) : Nat -> List Bool
 | 0 => nd0 n st.length
 | k + 1 => zh6 n (st.getD (st.length - 1 - k) ps0) (st.length - 1 - k) (ndK n st k)
theorem zq3 (n : Nat) (st : List Ps) : ∀ k, k <= st.length -> ndB n st (st.length - k) (ndK n st k) = nd n st
 | 0, _ => rfl
 | k + 1, h => by
  have := zq3 n st k (by omega)
  rw [show st.length - k = (st.length - (k + 1)) + 1 by omega, ndB] at this
  rw [ndK, show st.length - 1 - k = st.length - (k + 1) by omega]
  exact this
theorem zrw (n : Nat) (st : List Ps) : ∀ k, (ndK n st k).length = n + st.length
 | 0 => by unfold ndK nd0; simp
 | k + 1 => by rw [ndK, zhy, zrw n st k]
def ndH (S : List (List Int)) (st : List Ps) (k : Nat) : St :=
 hd [(2, .one (.bx 2 0)), (5, .one (.bx 5 0)), (20, .one (.fn 131 [20]))]
  [(2, [.rn (za6 S)]), (5, [.ow 416 0]), (20, [.rn (psS st)])] [(416, ⟨true, 1, (ndK S.length st k).map fun b => [.bool b], 0, true⟩)]
set_option maxHeartbeats 2000000 in
theorem zuw (S : List (List Int)) (st : List Ps) (hS : S.length <= 100000) (hst : st.length <= 100000) (hpos : 0 < st.length) (hb : ∀ i < st.length, 0 <= (st.getD i ps0).l /\ (st.getD i ps0).l < S.length + i /\ 0 <= (st.getD i ps0).r /\ (st.getD i ps0).r < S.length + i) : FC Try.prog 85 [.one (za6 S), .one (psS st)] [.one (bolS (nd S.length st))] := by
 have e1 : IntKind.i64.wrap ((S.length : Int) + st.length) = ((S.length + st.length : Nat) : Int) := by rw [zaq (by omega) (by omega)]; omega
 have e2 : IntKind.i64.wrap (((S.length + st.length : Nat) : Int) - 1) = ((S.length + st.length - 1 : Nat) : Int) := by rw [zaq (by omega) (by omega)]; omega
 have hlt : S.length + st.length - 1 < (List.replicate (S.length + st.length) false).length := by simp; omega
 have hs0 := zgw (List.replicate (S.length + st.length) false) (S.length + st.length - 1) true hlt
 refine zya Try.call85 Try.func85 rfl rfl (by kernel_rfl) (zbj (by kernel_rfl)) ?_
 simp -implicitDefEqProofs only [go_sem, Try.results85]
 rw [e1]
 refine zn9 (by simp -implicitDefEqProofs only [go_sem]; omega) ?_
 simp -implicitDefEqProofs only [go_sem]
 rw [List.length_replicate, e2]
 refine ⟨by omega, ?_⟩
 refine zcm (by simp -implicitDefEqProofs only [go_sem]; simp) ?_
 simp -implicitDefEqProofs only [go_sem]
 rw [<- List.map_replicate (f := fun s => [T.bool s]) (a := false), hs0]
 refine callB (sz := 4) (rows := st.map psC) zry (by simp -implicitDefEqProofs only [go_sem]) ?_
 simp -implicitDefEqProofs only [go_sem]
 refine loopR zvz Try.call131 20 (ndH S st) (st.map psC) (by kernel_rfl) rfl (fun k => ⟨rfl, rfl⟩) (fun k => by repeat (first | exact trivial | refine ⟨rfl, ?_⟩)) (zac ?_) ?_ ?_
 ·simp -implicitDefEqProofs only [go_sem]
  rfl
 ·intro k hk
  rw [List.length_map] at hk ⊢
  have hi : st.length - 1 - k < st.length := by omega
  have hrow : (st.map psC).getD (st.length - 1 - k) [] = psC (st.getD (st.length - 1 - k) ps0) := by
   simp [List.getD, hi]
  rw [hrow]
  have hK : ndK S.length st (k + 1) = zh6 S.length (st.getD (st.length - 1 - k) ps0) (st.length - 1 - k) (ndK S.length st k) := rfl
  have hbi := hb _ hi
  have hol := zrw S.length st k
  unfold ndH
  rw [hK]
  generalize st.getD (st.length - 1 - k) ps0 = s at hbi ⊢
  generalize st.length - 1 - k = j at hi hbi ⊢
  obtain ⟨sl, sr, sp, sc⟩ := s
  simp only at hbi
  obtain ⟨l, rfl⟩ : ∃ l : Nat, sl = l := ⟨sl.toNat, by omega⟩
  obtain ⟨r, rfl⟩ : ∃ r : Nat, sr = r := ⟨sr.toNat, by omega⟩
  generalize ndK S.length st k = out at hol ⊢
  have hwj : IntKind.i64.wrap ((S.length : Int) + (j : Int)) = ((S.length + j : Nat) : Int) := by rw [zaq (by omega) (by omega)]; omega
  have hjl : S.length + j < out.length := by omega
  have hll : l < out.length := by omega
  have hrl : r < out.length := by omega
  have hrl2 : r < (out.set l true).length := by rw [List.length_set]; omega
  have hsl := zgw out l true hll
  have hsr := zgw (out.set l true) r true hrl2
  have hgo : out.getD (S.length + j) false = out[S.length + j] := by rw [List.getD_eq_getElem?_getD, List.getElem?_eq_getElem hjl]; rfl
  simp -implicitDefEqProofs only [go_sem, zaz, rowN, T.toN]
  refine zdr.block (zdr.seq (zdr.ofEx (by kernel_rfl) (by intro d hd; simp [zbp] at hd ⊢; omega) ?_))
  simp -implicitDefEqProofs only [go_sem]
  rw [hwj]
  simp -implicitDefEqProofs only [go_sem, hjl, zaf]
  refine zdr.cond (b := out[S.length + j]) (by simp -implicitDefEqProofs only [go_sem]) (fun ht => ?_) (fun hf => ?_)
  ·have hN : zh6 S.length ⟨l, r, sp, sc⟩ j out = (out.set l true).set r true := by
    unfold zh6
    rw [hgo, if_pos ht]
    rfl
   rw [hN]
   refine zdr.drawn (by kernel_rfl) (by kernel_rfl) (by kernel_rfl) (by intro d hd; simp [zbp] at hd ⊢; omega) ?_
   simp -implicitDefEqProofs only [go_sem, hll]
   refine zri (by simp -implicitDefEqProofs only [go_sem]; simp) ?_
   simp -implicitDefEqProofs only [go_sem]
   rw [hsl]
   simp -implicitDefEqProofs only [go_sem, List.length_set, hrl]
   refine zri (by simp -implicitDefEqProofs only [go_sem]; simp) ?_
   simp -implicitDefEqProofs only [go_sem]
   rw [hsr]
   refine ⟨by kernel_rfl, zac ?_⟩
   simp -implicitDefEqProofs only [go_sem]
   skip
  ·have hN : zh6 S.length ⟨l, r, sp, sc⟩ j out = out := by
    unfold zh6
    rw [hgo, if_neg (by rw [hf]; simp)]
   rw [hN]
   refine zdr.skip ?_
   simp -implicitDefEqProofs only [go_sem]
   refine zac ?_
   simp -implicitDefEqProofs only [go_sem]
 ·rw [List.length_map]
  unfold ndH
  have hall := zq3 S.length st st.length (Nat.le_refl _)
  rw [Nat.sub_self, ndB] at hall
  rw [hall]
  simp -implicitDefEqProofs only [go_sem, Try.results85]
  skip
end Go.Proofs.Yteeaofpphmhjdaa
namespace Go.Proofs.Yteeaofpphmhjdaa
set_option linter.unusedSimpArgs false
set_option linter.unusedVariables false
set_option linter.unusedSectionVars false
set_option maxRecDepth 4000
open Go.RowKit
def zfa (S : List (List Int)) (st : List Ps) : Bool := zta S st && (chk S st == -1)
theorem chk_nn (S : List (List Int)) (st : List Ps) : chk S st = -1 \/ 0 <= chk S st := by
 unfold chk
 split
 ·exact Or.inr (by omega)
 ·split
  ·exact Or.inr (by omega)
  ·exact Or.inl rfl
structure SzR (S : List (List Int)) (U : List Ps) : Prop where
 s : S.length <= 1048576
 st : U.length <= 1048576
 sc : ∀ c ∈ S, c.length <= 1048576
 tc : ∀ x ∈ U, x.c.length <= 1048576
theorem zd7 {S : List (List Int)} {st : List Ps} (h : SzR S st) : FC Try.prog 84 [.one (za6 S), .one (psS st)] [bD (zfa S st)] := by
 have HC := zek S st h.s h.st h.sc h.tc
 unfold zfa
 cases hk : zta S st
 ·rw [hk] at HC
  refine zay Try.call84 Try.func84 rfl (by kernel_rfl) (zbj (by kernel_rfl)) ?_
  simp -implicitDefEqProofs only [go_sem, Try.results84]
  refine callF (HC) (by simp -implicitDefEqProofs only [go_sem]) ?_
  simp -implicitDefEqProofs only [go_sem]
 ·rw [hk, if_pos rfl] at HC
  generalize chk S st = c at HC ⊢
  refine zay Try.call84 Try.func84 rfl (by kernel_rfl) (zbj (by kernel_rfl)) ?_
  simp -implicitDefEqProofs only [go_sem, Try.results84]
  refine callF (HC) (by simp -implicitDefEqProofs only [go_sem]) ?_
  simp -implicitDefEqProofs only [go_sem]
theorem zgj {S : List (List Int)} {st : List Ps} (h : zfa S st = true) : zi8 S = true /\ (1 <= st.length /\ st.length <= 200) /\ chk S st = -1 /\ ∀ i < st.length, 0 <= (st.getD i ps0).l /\ (st.getD i ps0).l < S.length + i /\ 0 <= (st.getD i ps0).r /\ (st.getD i ps0).r < S.length + i := by
 unfold zfa zta at h
 rw [Bool.and_eq_true, Bool.and_eq_true] at h
 obtain ⟨⟨h1, h2⟩, h3⟩ := h
 unfold inB at h2
 simp at h2 h3
 exact ⟨h1, by omega, h3, zmn (zg6 h3).1⟩
set_option maxHeartbeats 1000000 in
theorem zkq (S : List (List Int)) (st : List Ps) (hS : S.length <= 100000) (hst : st.length <= 100000) (hpos : 0 < st.length) (hb : ∀ i < st.length, 0 <= (st.getD i ps0).l /\ (st.getD i ps0).l < S.length + i /\ 0 <= (st.getD i ps0).r /\ (st.getD i ps0).r < S.length + i) : FC Try.prog 90 [.one (za6 S), .one (psS st)] [.one (bolS (nd S.length st))] := by
 have e1 : IntKind.i64.wrap ((S.length : Int) + st.length) = ((S.length + st.length : Nat) : Int) := by rw [zaq (by omega) (by omega)]; omega
 have e2 : IntKind.i64.wrap (((S.length + st.length : Nat) : Int) - 1) = ((S.length + st.length - 1 : Nat) : Int) := by rw [zaq (by omega) (by omega)]; omega
 have e3 : IntKind.i64.wrap ((st.length : Int) - 1) = (st.length : Int) - 1 := zaq (by omega) (by omega)
 have hlt : S.length + st.length - 1 < (List.replicate (S.length + st.length) false).length := by simp; omega
 have hs0 := zgw (List.replicate (S.length + st.length) false) (S.length + st.length - 1) true hlt
 have hn0 : (List.replicate (S.length + st.length) false).set (S.length + st.length - 1) true = nd0 S.length st.length := rfl
 have hl0 : (nd0 S.length st.length).length = S.length + st.length := by unfold nd0; simp
 refine zay Try.call90 Try.func90 rfl (by kernel_rfl) (zbj (by kernel_rfl)) ?_
 simp -implicitDefEqProofs only [go_sem, Try.results90]
 rw [e1]
 refine zn9 (by simp -implicitDefEqProofs only [go_sem]; omega) ?_
 simp -implicitDefEqProofs only [go_sem]
 rw [List.length_replicate, e2]
 refine ⟨by omega, ?_⟩
 refine zcm (by simp -implicitDefEqProofs only [go_sem]; simp) ?_
 simp -implicitDefEqProofs only [go_sem]
 rw [<- List.map_replicate (f := fun s => [T.bool s]) (a := false), hs0, hn0, e3]
 refine zaj (fun x : Nat × List Bool => hd [(0, vT (za6 S)), (1, vT (psS st)), (5, vI S.length), (6, .one (.ow 448 0)), (7, vI ((x.1 : Int) - 1))] [] [(448, ⟨true, 1, x.2.map fun b => [.bool b], 0, true⟩)]) (fun x => x.1 <= st.length /\ x.2.length = S.length + st.length /\ ndB S.length st x.1 x.2 = nd S.length st) (fun x => x.1) (st.length, nd0 S.length st.length) (zac ?_) ⟨Nat.le_refl _, hl0, rfl⟩ ?_
 ·simp -implicitDefEqProofs only [go_sem]
  skip
 ·rintro ⟨j, out⟩ ⟨hj, hol, hnd⟩
  simp only at hj hol hnd
  cases j with
  | zero =>
   have hlt0 : (0 <= ((0 : Nat) : Int) - 1) = False := by simp
   rw [ndB] at hnd
   rw [<- hnd]
   simp -implicitDefEqProofs only [go_sem, hlt0]
   skip
  | succ j =>
   have ej : ((j + 1 : Nat) : Int) - 1 = (j : Int) := by omega
   have hwj : IntKind.i64.wrap ((S.length : Int) + (j : Int)) = ((S.length + j : Nat) : Int) := by rw [zaq (by omega) (by omega)]; omega
   have hwn : IntKind.i64.wrap ((j : Int) - 1) = (j : Int) - 1 := zaq (by omega) (by omega)
   have hjl : S.length + j < out.length := by omega
   have hjs : j < st.length := by omega
   have hbi := hb j hjs
   have hgs : st.getD j ps0 = st[j] := by rw [List.getD_eq_getElem?_getD, List.getElem?_eq_getElem hjs]; rfl
   have hgo : out.getD (S.length + j) false = out[S.length + j] := by rw [List.getD_eq_getElem?_getD, List.getElem?_eq_getElem hjl]; rfl
   rw [ndB] at hnd
   rw [hgs] at hbi hnd
   rw [ej]
   have hpc := zaz st[j]
   generalize hsj : st[j] = s at hbi hnd hpc
   obtain ⟨sl, sr, sp, sc⟩ := s
   simp only at hbi
   obtain ⟨l, rfl⟩ : ∃ l : Nat, sl = l := ⟨sl.toNat, by omega⟩
   obtain ⟨r, rfl⟩ : ∃ r : Nat, sr = r := ⟨sr.toNat, by omega⟩
   have hll : l < out.length := by omega
   have hrl : r < out.length := by omega
   have hrl2 : r < (out.set l true).length := by rw [List.length_set]; omega
   have hsl := zgw out l true hll
   have hsr := zgw (out.set l true) r true hrl2
   cases hm : out[S.length + j]
   ·have hN : zh6 S.length ⟨l, r, sp, sc⟩ j out = out := by
     unfold zh6
     rw [hgo, if_neg (by rw [hm]; simp)]
    rw [hN] at hnd
    have h0j : (0 <= (j : Int)) = True := by simp
    simp -implicitDefEqProofs only [go_sem, h0j]
    rw [hwj]
    simp -implicitDefEqProofs only [go_sem, hjl, zaf, hm]
    rw [hwn]
    refine ⟨(j, out), ⟨by simp only; omega, hol, hnd⟩, by simp, zac ?_⟩
    simp -implicitDefEqProofs only [go_sem]
   ·have hN : zh6 S.length ⟨l, r, sp, sc⟩ j out = (out.set l true).set r true := by
     unfold zh6
     rw [hgo, if_pos hm]
     rfl
    rw [hN] at hnd
    have h0j : (0 <= (j : Int)) = True := by simp
    simp -implicitDefEqProofs only [go_sem, h0j]
    rw [hwj]
    simp -implicitDefEqProofs only [go_sem, hjl, zaf, hm, hjs, hsj, zaz, hll]
    refine zcm (by simp -implicitDefEqProofs only [go_sem]; simp) ?_
    simp -implicitDefEqProofs only [go_sem]
    rw [hsl]
    simp -implicitDefEqProofs only [go_sem, List.length_set, zaf, hjs, hsj, zaz, hrl]
    refine zcm (by simp -implicitDefEqProofs only [go_sem]; simp) ?_
    simp -implicitDefEqProofs only [go_sem]
    rw [hsr, hwn]
    refine ⟨(j, (out.set l true).set r true), ⟨by simp only; omega, by simp [hol], hnd⟩, by simp, zac ?_⟩
    simp -implicitDefEqProofs only [go_sem]
    skip
end Go.Proofs.Yteeaofpphmhjdaa
namespace Go.Proofs.Yteeaofpphmhjdaa
set_option linter.unusedSimpArgs false
set_option linter.unusedVariables false
set_option linter.unusedSectionVars false
set_option maxRecDepth 4000
open Go.RowKit
def zex : (List Int) -> Nat -> (List Int) × Nat
 | s0, k => ((zcd s0 k).1, (zcd s0 k).2)
def zcu : List (List Int) -> Nat -> List (List Int) × Nat
 | [], k => ([], k)
 | a :: xs, k => ((zex a k).1 :: (zcu xs (zex a k).2).1, (zcu xs (zex a k).2).2)
def zf8 : (List Int) -> Nat
 | s0 => 1 + zh5 s0
def zel : List (List Int) -> Nat
 | [] => 0
 | a :: xs => zf8 a + zel xs
theorem zqb : ∀ (a : (List Int)) (k : Nat), k <= (zex a k).2 /\ (zex a k).2 <= k + zf8 a
 | s0, k => by have h_s0 := zep s0 k; simp only [zex, zf8]; omega
theorem zl0 : ∀ (xs : List (List Int)) (k : Nat), k <= (zcu xs k).2 /\ (zcu xs k).2 <= k + zel xs
 | [], k => ⟨Nat.le_refl _, Nat.le_refl _⟩
 | a :: xs, k => by have h1 := zqb a k; have h2 := zl0 xs (zex a k).2; simp only [zcu, zel]; omega
theorem zio : ∀ xs : List (List Int), xs.length <= zel xs
 | [] => Nat.le_refl _
 | a :: xs => by
  have := zio xs
  have : 1 <= zf8 a := by simp only [zf8]; omega
  simp only [List.length_cons, zel]; omega
theorem zix (xs : List (List Int)) :
  ∀ k : Nat, 0 < k -> k + zel xs <= 4611686018427387904 -> IC Try.prog 38 [] (.one (za6 xs)) [iD k] (.one (za6 (zcu xs k).1)) [iD (zcu xs k).2] := by
 intro k h0 hk
 refine zsi Try.call38 Try.func38 rfl (by kernel_rfl) (by simp only [zdj, rd, List.map_cons, List.map_nil, List.nil_append, List.length_cons, List.length_nil, Try.ntmps38]; omega) (by simp only [Try.ntmps38]; omega) (fun vs => ?_)
 simp -implicitDefEqProofs only [go_sem, Try.results38, zwc, znm, zdj, PI]
 refine zaj (fun (x : List (List Int) × List (List Int) × Nat) => hd [(0, .one (.ow 0 0)), (1000000, .one (.ow 0 0)), (1, vI x.2.2), (5, vI x.1.length)] [] [(0, ⟨true, 1, x.1.map (fun s => [zba s]) ++ zdn vs x.1.length (x.2.1.map (fun s => [zba s])), 0, true⟩)])
  (fun x => (zcu xs k).1 = x.1 ++ (zcu x.2.1 x.2.2).1 /\ (zcu xs k).2 = (zcu x.2.1 x.2.2).2 /\ 0 < x.2.2 /\ x.2.2 + zel x.2.1 <= 4611686018427387904 /\ x.1.length + x.2.1.length = xs.length /\ ∀ a ∈ x.2.1, a ∈ xs) (fun x => x.2.1.length) ([], xs, k) (zac ?_) ?_ ?_
 ·simp -implicitDefEqProofs only [go_sem]
 ·exact ⟨rfl, rfl, h0, hk, by simp, fun _ h => h⟩
 ·intro ⟨dn, rest, kk⟩ ⟨h1, h2, h3, h4, h6, h5⟩
  simp only at h1 h2 h3 h4 h5 h6
  cases rest with
  | nil =>
   simp only [zcu, List.append_nil] at h1 h2
   simp -implicitDefEqProofs only [go_sem, h1, h2]
  | cons s0 rest =>
   simp only [zcu, zex, zel, zf8] at h1 h2 h4
   have hc_s0 := zep s0 kk
   have hln := zio xs
   rw [List.length_cons] at h6
   have wl : IntKind.i64.wrap ((dn.length : Int) + 1) = ((dn.length + 1 : Nat) : Int) := zav (by omega)
   simp -implicitDefEqProofs only [go_sem, List.map_cons]
   refine callN (l := [(0, .one (.ow 0 0)), (1000000, .one (.ow 0 0)), (5, vI dn.length), (15, .one (.cv (vs dn.length 0))), (16, vI (kk : Nat))]) (bl := []) (el := [(0, ⟨true, 1, dn.map (fun s => [zba s]) ++ [.pin (vs dn.length 0) (zba s0)] :: zdn vs (dn.length + 1) (rest.map (fun s => [zba s])), 0, true⟩)]) 0 dn.length 0 (zgr s0 kk (by omega) (by omega)) (by simp -implicitDefEqProofs only [go_sem, zba]) rfl rfl rfl (by simp -implicitDefEqProofs only [go_sem, zba]) rfl ?_
   simp -implicitDefEqProofs only [go_sem, wl]
   refine ⟨(dn ++ [(zcd s0 kk).1], rest, (zcd s0 kk).2), ⟨by simpa using h1, h2, by show 0 < (zcd s0 kk).2; omega, by show (zcd s0 kk).2 + zel rest <= _; omega, by simp; omega, fun b hb => h5 b (by simp [hb])⟩, by simp, zac ?_⟩
   simp -implicitDefEqProofs only [go_sem, wl, List.map_cons, List.map_append, List.append_assoc]
theorem zkt (xs : List (List Int)) (k : Nat) (h0 : 0 < k) (hk : k + zel xs <= 4611686018427387904) : IC Try.prog 38 [] (.one (za6 xs)) [iD k] (.one (za6 (zcu xs k).1)) [iD (zcu xs k).2] := zix xs k h0 hk
def zdk : Ps -> Nat -> Ps × Nat
 | ⟨l0, r0, p0, c0⟩, k => (⟨((k : Nat) : Int), (((k + 1) : Nat) : Int), ((((k + 1) + 1) : Nat) : Int), (zcd c0 (((k + 1) + 1) + 1)).1⟩, (zcd c0 (((k + 1) + 1) + 1)).2)
def zbo : List Ps -> Nat -> List Ps × Nat
 | [], k => ([], k)
 | a :: xs, k => ((zdk a k).1 :: (zbo xs (zdk a k).2).1, (zbo xs (zdk a k).2).2)
def ze4 : Ps -> Nat
 | ⟨l0, r0, p0, c0⟩ => 1 + 1 + 1 + 1 + zh5 c0
def zc4 : List Ps -> Nat
 | [] => 0
 | a :: xs => ze4 a + zc4 xs
theorem zsw : ∀ (a : Ps) (k : Nat), k <= (zdk a k).2 /\ (zdk a k).2 <= k + ze4 a
 | ⟨l0, r0, p0, c0⟩, k => by have h_c0 := zep c0 (((k + 1) + 1) + 1); simp only [zdk, ze4]; omega
theorem zhj : ∀ (xs : List Ps) (k : Nat), k <= (zbo xs k).2 /\ (zbo xs k).2 <= k + zc4 xs
 | [], k => ⟨Nat.le_refl _, Nat.le_refl _⟩
 | a :: xs, k => by have h1 := zsw a k; have h2 := zhj xs (zdk a k).2; simp only [zbo, zc4]; omega
theorem zgc : ∀ xs : List Ps, xs.length <= zc4 xs
 | [] => Nat.le_refl _
 | a :: xs => by
  have := zgc xs
  have : 1 <= ze4 a := by obtain ⟨l0, r0, p0, c0⟩ := a; simp only [ze4]; omega
  simp only [List.length_cons, zc4]; omega
theorem ze7 (xs : List Ps) :
  ∀ k : Nat, 0 < k -> k + zc4 xs <= 4611686018427387904 -> IC Try.prog 39 [] (.one (psS xs)) [iD k] (.one (psS (zbo xs k).1)) [iD (zbo xs k).2] := by
 intro k h0 hk
 refine zsi Try.call39 Try.func39 rfl (by kernel_rfl) (by simp only [zdj, rd, List.map_cons, List.map_nil, List.nil_append, List.length_cons, List.length_nil, Try.ntmps39]; omega) (by simp only [Try.ntmps39]; omega) (fun vs => ?_)
 simp -implicitDefEqProofs only [go_sem, Try.results39, zwc, znm, zdj, PI]
 refine zaj (fun (x : List Ps × List Ps × Nat) => hd [(0, .one (.ow 0 0)), (1000000, .one (.ow 0 0)), (1, vI x.2.2), (5, vI x.1.length)] [] [(0, ⟨true, 4, x.1.map psC ++ zdn vs x.1.length (x.2.1.map psC), 0, true⟩)])
  (fun x => (zbo xs k).1 = x.1 ++ (zbo x.2.1 x.2.2).1 /\ (zbo xs k).2 = (zbo x.2.1 x.2.2).2 /\ 0 < x.2.2 /\ x.2.2 + zc4 x.2.1 <= 4611686018427387904 /\ x.1.length + x.2.1.length = xs.length /\ ∀ a ∈ x.2.1, a ∈ xs) (fun x => x.2.1.length) ([], xs, k) (zac ?_) ?_ ?_
 ·simp -implicitDefEqProofs only [go_sem]
 ·exact ⟨rfl, rfl, h0, hk, by simp, fun _ h => h⟩
 ·intro ⟨dn, rest, kk⟩ ⟨h1, h2, h3, h4, h6, h5⟩
  simp only at h1 h2 h3 h4 h5 h6
  cases rest with
  | nil =>
   simp only [zbo, List.append_nil] at h1 h2
   simp -implicitDefEqProofs only [go_sem, h1, h2]
  | cons a rest =>
   obtain ⟨l0, r0, p0, c0⟩ := a
   simp only [zbo, zdk, zc4, ze4] at h1 h2 h4
   have hc_c0 := zep c0 (((kk + 1) + 1) + 1)
   have w0 : IntKind.i64.wrap (((kk : Nat) : Int) + 1) = ((kk + 1 : Nat) : Int) := zav (by omega)
   have w1 : IntKind.i64.wrap ((((kk + 1) : Nat) : Int) + 1) = (((kk + 1) + 1 : Nat) : Int) := zav (by omega)
   have w2 : IntKind.i64.wrap (((((kk + 1) + 1) : Nat) : Int) + 1) = ((((kk + 1) + 1) + 1 : Nat) : Int) := zav (by omega)
   have hln := zgc xs
   rw [List.length_cons] at h6
   have wl : IntKind.i64.wrap ((dn.length : Int) + 1) = ((dn.length + 1 : Nat) : Int) := zav (by omega)
   simp -implicitDefEqProofs only [go_sem, psC]
   refine zcm (by simp -implicitDefEqProofs only [go_sem, implies_true, w0, w1, w2]) ?_
   simp -implicitDefEqProofs only [go_sem, implies_true, w0, w1, w2]
   refine zcm (by simp -implicitDefEqProofs only [go_sem, implies_true, w0, w1, w2]) ?_
   simp -implicitDefEqProofs only [go_sem, implies_true, w0, w1, w2]
   refine zcm (by simp -implicitDefEqProofs only [go_sem, implies_true, w0, w1, w2]) ?_
   simp -implicitDefEqProofs only [go_sem, implies_true, w0, w1, w2]
   refine callN (l := [(0, .one (.ow 0 0)), (1000000, .one (.ow 0 0)), (5, vI dn.length), (37, .one (.cv (vs dn.length 3))), (38, vI ((((kk + 1) + 1) + 1) : Nat))]) (bl := []) (el := [(0, ⟨true, 4, dn.map psC ++ [.int .i64 ((kk : Nat) : Int), .int .i64 (((kk + 1) : Nat) : Int), .int .i64 ((((kk + 1) + 1) : Nat) : Int), .pin (vs dn.length 3) (zba c0)] :: zdn vs (dn.length + 1) (rest.map psC), 0, true⟩)]) 0 dn.length 3 (zgr c0 (((kk + 1) + 1) + 1) (by omega) (by omega)) (by simp -implicitDefEqProofs only [go_sem, w0, w1, w2, zba]) rfl rfl rfl (by simp -implicitDefEqProofs only [go_sem, zba]) rfl ?_
   simp -implicitDefEqProofs only [go_sem, w0, w1, w2]
   refine ⟨(dn ++ [⟨((kk : Nat) : Int), (((kk + 1) : Nat) : Int), ((((kk + 1) + 1) : Nat) : Int), (zcd c0 (((kk + 1) + 1) + 1)).1⟩], rest, (zcd c0 (((kk + 1) + 1) + 1)).2), ⟨by simpa using h1, h2, by show 0 < (zcd c0 (((kk + 1) + 1) + 1)).2; omega, by show (zcd c0 (((kk + 1) + 1) + 1)).2 + zc4 rest <= _; omega, by simp; omega, fun b hb => h5 b (by simp [hb])⟩, by simp, zac ?_⟩
   simp -implicitDefEqProofs only [go_sem, wl, psC, List.map_append, List.append_assoc]
theorem zc6 (xs : List Ps) (k : Nat) (h0 : 0 < k) (hk : k + zc4 xs <= 4611686018427387904) : IC Try.prog 39 [] (.one (psS xs)) [iD k] (.one (psS (zbo xs k).1)) [iD (zbo xs k).2] := ze7 xs k h0 hk
theorem zfc (xs : List Ps) :
  ∀ k : Nat, 0 < k -> k + zc4 xs <= 4611686018427387904 -> FC Try.prog 43 [.one (psS (zbo xs k).1), iD k] [iD (zbo xs k).2] := by
 intro k h0 hk
 refine zay Try.call43 Try.func43 rfl (by kernel_rfl) (zbj (by kernel_rfl)) ?_
 simp -implicitDefEqProofs only [go_sem, Try.results43]
 refine zaj (fun (x : List Ps × List Ps × Nat) => hd [(0, vT (.sl 4 (x.1.map psC ++ (zbo x.2.1 x.2.2).1.map psC))), (1, vI x.2.2), (5, vI x.1.length)] [] [])
  (fun x => (zbo xs k).1 = x.1 ++ (zbo x.2.1 x.2.2).1 /\ (zbo xs k).2 = (zbo x.2.1 x.2.2).2 /\ 0 < x.2.2 /\ x.2.2 + zc4 x.2.1 <= 4611686018427387904 /\ x.1.length + x.2.1.length = xs.length /\ ∀ a ∈ x.2.1, a ∈ xs) (fun x => x.2.1.length) ([], xs, k) (zac ?_) ?_ ?_
 ·simp -implicitDefEqProofs only [go_sem]
 ·exact ⟨rfl, rfl, h0, hk, by simp, fun _ h => h⟩
 ·intro ⟨dn, rest, kk⟩ ⟨h1, h2, h3, h4, h6, h5⟩
  simp only at h1 h2 h3 h4 h5 h6
  cases rest with
  | nil =>
   simp only [zbo, List.append_nil] at h1 h2
   simp -implicitDefEqProofs only [go_sem, h2, zbo]
  | cons a rest =>
   obtain ⟨l0, r0, p0, c0⟩ := a
   simp only [zbo, zdk, zc4, ze4] at h1 h2 h4
   have hc_c0 := zep c0 (((kk + 1) + 1) + 1)
   have w0 : IntKind.i64.wrap (((kk : Nat) : Int) + 1) = ((kk + 1 : Nat) : Int) := zav (by omega)
   have w1 : IntKind.i64.wrap ((((kk + 1) : Nat) : Int) + 1) = (((kk + 1) + 1 : Nat) : Int) := zav (by omega)
   have w2 : IntKind.i64.wrap (((((kk + 1) + 1) : Nat) : Int) + 1) = ((((kk + 1) + 1) + 1 : Nat) : Int) := zav (by omega)
   have hln := zgc xs
   rw [List.length_cons] at h6
   have wl : IntKind.i64.wrap ((dn.length : Int) + 1) = ((dn.length + 1 : Nat) : Int) := zav (by omega)
   simp -implicitDefEqProofs only [go_sem, zbo, zdk, psC]
   simp -implicitDefEqProofs only [go_sem, bne_self_eq_false, w0, w1, w2]
   refine callF (zn6 c0 (((kk + 1) + 1) + 1) (by omega) (by omega)) (by simp -implicitDefEqProofs only [go_sem, w0, w1, w2]) ?_
   simp -implicitDefEqProofs only [go_sem, w0, w1, w2]
   refine ⟨(dn ++ [⟨((kk : Nat) : Int), (((kk + 1) : Nat) : Int), ((((kk + 1) + 1) : Nat) : Int), (zcd c0 (((kk + 1) + 1) + 1)).1⟩], rest, (zcd c0 (((kk + 1) + 1) + 1)).2), ⟨by simpa using h1, h2, by show 0 < (zcd c0 (((kk + 1) + 1) + 1)).2; omega, by show (zcd c0 (((kk + 1) + 1) + 1)).2 + zc4 rest <= _; omega, by simp; omega, fun b hb => h5 b (by simp [hb])⟩, by simp, zac ?_⟩
   simp -implicitDefEqProofs only [go_sem, wl, psC, List.map_append, List.append_assoc]
theorem zfx (xs : List Ps) (k : Nat) (h0 : 0 < k) (hk : k + zc4 xs <= 4611686018427387904) : FC Try.prog 43 [.one (psS (zbo xs k).1), iD k] [iD (zbo xs k).2] := zfc xs k h0 hk
end Go.Proofs.Yteeaofpphmhjdaa
namespace Go.Proofs.Yteeaofpphmhjdaa
set_option linter.unusedSimpArgs false
set_option linter.unusedVariables false
set_option linter.unusedSectionVars false
set_option maxRecDepth 4000
open Go.RowKit
theorem zlb {α : Type} {f : α -> Nat} : ∀ {xs : List α} {x : α}, x ∈ xs -> f x <= (xs.map f).sum
 | y :: xs, x, h => by
  rw [List.map_cons, List.sum_cons]
  rcases List.mem_cons.1 h with rfl | h
  ·omega
  ·have := zlb (f := f) h; omega
theorem szR_of {S : List (List Int)} {st : List Ps} (h1 : zb3 S <= 1048576) (h2 : zaw st <= 1048576) : SzR S st := by
 unfold zb3 at h1
 unfold zaw at h2
 refine ⟨by omega, by omega, fun c hc => ?_, fun s hs => ?_⟩
 ·have := zlb (f := List.length) hc; omega
 ·have := zlb (f := Ps.wt) hs
  unfold Ps.wt at this h2
  omega
theorem zr8 : ∀ xs : List (List Int), zel xs <= 4 * zb3 xs
 | [] => by simp [zel]
 | a :: xs => by
  have h2 := zr8 xs
  have h1 := zld a
  unfold zb3 at h2 ⊢
  rw [zel, List.length_cons, List.map_cons, List.sum_cons, zf8]; omega
theorem zk4 : ∀ xs : List Ps, zc4 xs <= 8 * zaw xs
 | [] => by simp [zc4]
 | a :: xs => by
  have h2 := zk4 xs
  have h1 := zld a.c
  unfold zaw at h2 ⊢
  rw [zc4, List.length_cons, List.map_cons, List.sum_cons, ze4, Ps.wt]; omega
end Go.Proofs.Yteeaofpphmhjdaa
namespace Go.Proofs.Yteeaofpphmhjdaa
set_option linter.unusedSimpArgs false
set_option linter.unusedVariables false
set_option linter.unusedSectionVars false
set_option maxRecDepth 4000
open Go.RowKit
def rnF (n : Nat) (nd : List Bool) (k j : Nat) : Int := if j < n then (j : Int) else if j - n < k /\ nd.getD j false = true then (n : Int) + (rk n nd (j - n) : Nat) else 0
def rnL (n m : Nat) (nd : List Bool) (k : Nat) : List Int := (List.range (n + m)).map (rnF n nd k)
def rn0 (n m i : Nat) : List Int := (List.range (n + m)).map fun j => if j < i then (j : Int) else 0
theorem zfo (n m : Nat) (nd : List Bool) (k : Nat) : (rnL n m nd k).length = n + m := by unfold rnL; simp
theorem zf4 (n m i : Nat) : (rn0 n m i).length = n + m := by unfold rn0; simp
theorem zh3 {n m i j : Nat} (h : j < (rn0 n m i).length) : (rn0 n m i)[j] = if j < i then (j : Int) else 0 := by
 have e : (rn0 n m i)[j]? = some (if j < i then (j : Int) else 0) := by
  rw [zf4] at h
  unfold rn0
  rw [List.getElem?_map, List.getElem?_range h]; rfl
 exact Option.some.inj ((List.getElem?_eq_getElem h).symm.trans e)
theorem zlv {n m : Nat} {nd : List Bool} {k j : Nat} (h : j < (rnL n m nd k).length) : (rnL n m nd k)[j] = rnF n nd k j := by
 have e : (rnL n m nd k)[j]? = some (rnF n nd k j) := by
  rw [zfo] at h
  unfold rnL
  rw [List.getElem?_map, List.getElem?_range h]; rfl
 exact Option.some.inj ((List.getElem?_eq_getElem h).symm.trans e)
theorem zt7 (n m : Nat) : rn0 n m 0 = List.replicate (n + m) 0 := by
 apply List.ext_getElem
 ·rw [zf4, List.length_replicate]
 ·intro j h1 h2
  rw [zh3, List.getElem_replicate, if_neg (by omega)]
theorem zvf {n m i : Nat} (h : i < n + m) : (rn0 n m i).set i (i : Int) = rn0 n m (i + 1) := by
 apply List.ext_getElem
 ·rw [List.length_set, zf4, zf4]
 ·intro j h1 h2
  rw [List.getElem_set]
  split
  next e => subst e; rw [zh3, if_pos (by omega)]
  next e =>
   rw [zh3, zh3]
   by_cases hj : j < i
   ·rw [if_pos hj, if_pos (by omega)]
   ·rw [if_neg hj, if_neg (by omega)]
theorem zyd (n m : Nat) (nd : List Bool) : rn0 n m n = rnL n m nd 0 := by
 unfold rn0 rnL rnF
 apply List.map_congr_left
 intro j _
 by_cases hj : j < n
 ·rw [if_pos hj, if_pos hj]
 ·rw [if_neg hj, if_neg hj, if_neg (by omega)]
theorem zvy {n m : Nat} {nd : List Bool} {k : Nat} (h : k < m) (hn : nd.getD (n + k) false = true) : (rnL n m nd k).set (n + k) ((n : Int) + (rk n nd k : Nat)) = rnL n m nd (k + 1) := by
 apply List.ext_getElem
 ·rw [List.length_set, zfo, zfo]
 ·intro j h1 h2
  rw [List.getElem_set]
  split
  next e =>
   subst e
   rw [zlv]
   unfold rnF
   rw [if_neg (by omega), if_pos ⟨by omega, hn⟩, show n + k - n = k by omega]
  next e =>
   rw [zlv, zlv]
   unfold rnF
   by_cases hj : j < n
   ·rw [if_pos hj, if_pos hj]
   ·rw [if_neg hj, if_neg hj]
    by_cases hc : j - n < k /\ nd.getD j false = true
    ·rw [if_pos hc, if_pos ⟨by omega, hc.2⟩]
    ·rw [if_neg hc, if_neg (fun h => hc ⟨by omega, h.2⟩)]
theorem ztt {n m : Nat} {nd : List Bool} {k : Nat} (hn : nd.getD (n + k) false = false) : rnL n m nd (k + 1) = rnL n m nd k := by
 unfold rnL
 apply List.map_congr_left
 intro j _
 unfold rnF
 by_cases hj : j < n
 ·rw [if_pos hj, if_pos hj]
 ·rw [if_neg hj, if_neg hj]
  by_cases hc : j - n < k /\ nd.getD j false = true
  ·rw [if_pos hc, if_pos ⟨by omega, hc.2⟩]
  ·rw [if_neg hc, if_neg fun h => ?_]
   by_cases he : j - n = k
   ·have : j = n + k := by omega
    rw [this, hn] at h
    exact absurd h.2 (by simp)
   ·exact hc ⟨by omega, h.2⟩
theorem zpg {n m : Nat} {nd : List Bool} {k j : Nat} (h : j < n + m) (hk : j < n + k) (hn : nd.getD j false = true) (h' : j < (rnL n m nd k).length) : (rnL n m nd k)[j] = zs8 n nd (j : Int) := by
 rw [zlv]
 unfold rnF zs8
 by_cases hj : j < n
 ·rw [if_pos hj, if_pos (by omega)]
 ·rw [if_neg hj, if_pos ⟨by omega, hn⟩, if_neg (by omega), Int.toNat_natCast]
def trR (S : List (List Int)) (st : List Ps) : List Ps × Bool := if zfa S st = true then (trm S st, true) else ([], false)
set_option maxHeartbeats 2000000 in
theorem zu1 (S : List (List Int)) (st : List Ps) (hsc : ∀ s ∈ st, s.c.length <= 1048576) : FC Try.prog 42 [.one (za6 S), .one (psS st)] [.one (psS (trR S st).1), bD (trR S st).2] := by
 have H1 := znr S st
 unfold trR
 cases hk : zta S st
 ·have hr : zfa S st = false := by unfold zfa; rw [hk]; rfl
  rw [hk] at H1
  rw [hr, if_neg (by simp)]
  refine zay Try.call42 Try.func42 rfl (by kernel_rfl) (zbj (by kernel_rfl)) ?_
  simp -implicitDefEqProofs only [go_sem, Try.results42]
  refine zb4 (by simp -implicitDefEqProofs only [go_sem]) ?_
  simp -implicitDefEqProofs only [go_sem]
  refine callF (H1) (by simp -implicitDefEqProofs only [go_sem]) ?_
  simp -implicitDefEqProofs only [go_sem]
  skip
 ·rw [hk] at H1
  have hk' := hk
  unfold zta at hk'
  rw [Bool.and_eq_true] at hk'
  have h2 : 1 <= st.length /\ st.length <= 200 := by have := hk'.2; unfold inB at this; simp at this; omega
  have HK := znu S st hk'.1 (by omega)
  rcases chk_nn S st with hc | hc
  ·have hr : zfa S st = true := by unfold zfa; rw [hk, hc]; rfl
   obtain ⟨h1, _, h3, h4⟩ := zgj hr
   have hSl := zg5 h1
   have HN := zkq S st (by omega) (by omega) (by omega) h4
   have hBl := zwg S.length st
   have hdep := zw6 (zg6 h3).1
   rw [hr, if_pos rfl]
   rw [hc] at HK
   unfold trm
   generalize nd S.length st = B at HN hBl hdep ⊢
   have e1 : IntKind.i64.wrap ((S.length : Int) + st.length) = ((S.length + st.length : Nat) : Int) := by rw [zaq (by omega) (by omega)]; omega
   refine zay Try.call42 Try.func42 rfl (by kernel_rfl) (zbj (by kernel_rfl)) ?_
   simp -implicitDefEqProofs only [go_sem, Try.results42]
   refine zb4 (by simp -implicitDefEqProofs only [go_sem]) ?_
   simp -implicitDefEqProofs only [go_sem]
   refine callF (H1) (by simp -implicitDefEqProofs only [go_sem]) ?_
   simp -implicitDefEqProofs only [go_sem]
   refine callF (HK) (by simp -implicitDefEqProofs only [go_sem]) ?_
   simp -implicitDefEqProofs only [go_sem]
   refine callF (HN) (by simp -implicitDefEqProofs only [go_sem]) ?_
   simp -implicitDefEqProofs only [go_sem]
   rw [e1]
   refine zn9 (by simp -implicitDefEqProofs only [go_sem]; omega) ?_
   simp -implicitDefEqProofs only [go_sem]
   refine zaj (fun i : Nat => hd [(0, vT (za6 S)), (1, vT (psS st)), (6, .one (.ow 416 0)), (7, vI S.length), (8, .one (.ow 928 0)), (9, .one (.ow 1088 0)), (10, vI i)] [] [(416, ⟨true, 4, [], 0, true⟩), (928, ⟨true, 1, B.map fun b => [.bool b], 0, true⟩), (1088, ⟨true, 1, (rn0 S.length st.length i).map fun b => [.int .i64 b], 0, true⟩)]) (fun k => k <= S.length) (fun k => S.length - k) 0 (zac ?_) (Nat.zero_le _) ?_
   ·simp -implicitDefEqProofs only [go_sem]
    rw [zt7, List.map_replicate]
   ·intro i hi
    have hrl := zf4 S.length st.length i
    by_cases hil : i < S.length
    ·have hwi : IntKind.i64.wrap ((i : Int) + 1) = ((i + 1 : Nat) : Int) := zav (by omega)
     have hlt : i < (rn0 S.length st.length i).length := by omega
     have hst := zmk (rn0 S.length st.length i) i (i : Int) hlt
     rw [zvf (by omega)] at hst
     simp -implicitDefEqProofs only [go_sem, hil, hlt]
     refine zcm (by simp -implicitDefEqProofs only [go_sem]; simp) ?_
     simp -implicitDefEqProofs only [go_sem]
     rw [hwi, hst]
     exact ⟨i + 1, hil, by omega, zac (by simp -implicitDefEqProofs only [go_sem])⟩
    ·have hin : i = S.length := by omega
     subst hin
     rw [zyd S.length st.length B]
     simp -implicitDefEqProofs only [go_sem, hil]
     refine zaj (fun k : Nat => hd [(0, vT (za6 S)), (1, vT (psS st)), (6, .one (.ow 416 (trF S.length B st k).length)), (7, vI S.length), (8, .one (.ow 928 0)), (9, .one (.ow 1088 0)), (11, vI k)] [] [(416, ⟨true, 4, (trF S.length B st k).map psC, (trF S.length B st k).length, true⟩), (928, ⟨true, 1, B.map fun b => [.bool b], 0, true⟩), (1088, ⟨true, 1, (rnL S.length st.length B k).map fun b => [.int .i64 b], 0, true⟩)]) (fun k => k <= st.length) (fun k => st.length - k) 0 (zac ?_) (Nat.zero_le _) ?_
     ·simp -implicitDefEqProofs only [go_sem]
      rfl
     ·intro k hk
      by_cases hkl : k < st.length
      ·have hwk : IntKind.i64.wrap ((k : Int) + 1) = ((k + 1 : Nat) : Int) := zav (by omega)
       have hwn : IntKind.i64.wrap ((S.length : Int) + (k : Int)) = ((S.length + k : Nat) : Int) := by rw [zaq (by omega) (by omega)]; omega
       have hBk : S.length + k < B.length := by omega
       have hgb : B.getD (S.length + k) false = B[S.length + k] := by rw [List.getD_eq_getElem?_getD, List.getElem?_eq_getElem hBk]; rfl
       cases hb : B[S.length + k]
       ·rw [hb] at hgb
        have hT : trF S.length B st (k + 1) = trF S.length B st k := by rw [trF, hgb, if_neg (by simp), List.append_nil]
        have hR := ztt (m := st.length) hgb
        simp -implicitDefEqProofs only [go_sem, hkl]
        rw [hwn]
        simp -implicitDefEqProofs only [go_sem, hBk, zaf, hb]
        rw [hwk]
        refine ⟨k + 1, hkl, by omega, zac ?_⟩
        simp -implicitDefEqProofs only [go_sem]
        rw [hT, hR]
        exact ⟨rfl, rfl⟩
       ·rw [hb] at hgb
        have hT : trF S.length B st (k + 1) = trF S.length B st k ++ [trS S.length B (st.getD k ps0)] := by rw [trF, hgb, if_pos rfl]
        have hR := zvy hkl hgb
        have hd := hdep k hkl hgb
        have hb4 := h4 k hkl
        have hgs : st.getD k ps0 = st[k] := by rw [List.getD_eq_getElem?_getD, List.getElem?_eq_getElem hkl]; rfl
        have hsl := hsc st[k] (List.getElem_mem hkl)
        have htl := zhx S.length B st k
        have hrk := zx9 S.length B k
        rw [hgs] at hd hb4 hT
        generalize hsk : st[k] = s at hd hb4 hT hsl
        obtain ⟨sl, sr, sp, sc⟩ := s
        simp only at hd hb4 hsl
        obtain ⟨l, rfl⟩ : ∃ l : Nat, sl = l := ⟨sl.toNat, by omega⟩
        obtain ⟨r, rfl⟩ : ∃ r : Nat, sr = r := ⟨sr.toNat, by omega⟩
        simp only [Int.toNat_natCast] at hd
        have hrl := zfo S.length st.length B (k + 1)
        have hll : l < (rnL S.length st.length B (k + 1)).length := by omega
        have hrr : r < (rnL S.length st.length B (k + 1)).length := by omega
        have hgl := zpg (m := st.length) (k := k + 1) (show l < S.length + st.length by omega) (by omega) hd.1 hll
        have hgr := zpg (m := st.length) (k := k + 1) (show r < S.length + st.length by omega) (by omega) hd.2 hrr
        have hnk : S.length + k < (rnL S.length st.length B k).length := by rw [zfo]; omega
        have hst := zmk (rnL S.length st.length B k) (S.length + k) ((S.length : Int) + (rk S.length B k : Nat)) hnk
        rw [hR] at hst
        have hwt : IntKind.i64.wrap ((S.length : Int) + ((trF S.length B st k).length : Int)) = (S.length : Int) + (rk S.length B k : Nat) := by rw [htl, zaq (by omega) (by omega)]
        have HO := zyi sc (by omega)
        have hol : (trF S.length B st k).length <= 4294967295 := by omega
        simp -implicitDefEqProofs only [go_sem, hkl]
        rw [hwn]
        simp -implicitDefEqProofs only [go_sem, hBk, zaf, hb, hkl, hsk, zaz]
        rw [hwn]
        refine ⟨by omega, ?_⟩
        refine zcm (by simp -implicitDefEqProofs only [go_sem]; simp) ?_
        simp -implicitDefEqProofs only [go_sem]
        rw [hwt, hst]
        refine drawn (by kernel_rfl) ?_
        simp -implicitDefEqProofs only [go_sem, hll, hrr, zaf, hgl, hgr]
        refine zc2 (HO) (by simp -implicitDefEqProofs only [go_sem]) ?_
        simp -implicitDefEqProofs only [go_sem]
        refine zdd (by simp -implicitDefEqProofs only [go_sem]) ?_
        simp -implicitDefEqProofs only [go_sem]
        refine zw3 true (by simp -implicitDefEqProofs only [go_sem, ne_eq, List.length_map, hol]) ?_
        simp -implicitDefEqProofs only [go_sem, ne_eq, List.length_map, hol]
        refine ⟨by kernel_rfl, ?_⟩
        rw [hwk]
        refine ⟨k + 1, hkl, by omega, zac ?_⟩
        simp -implicitDefEqProofs only [go_sem]
        rw [hT, List.length_append, List.map_append]
        rfl
      ·have hkn : k = st.length := by omega
       subst hkn
       simp -implicitDefEqProofs only [go_sem, hkl]
       skip
  ·have hr : zfa S st = false := by unfold zfa; rw [hk, show (chk S st == -1) = false by simp; omega]; rfl
   rw [hr, if_neg (by simp)]
   have hc' : (0 <= chk S st) = True := by simpa using hc
   refine zay Try.call42 Try.func42 rfl (by kernel_rfl) (zbj (by kernel_rfl)) ?_
   simp -implicitDefEqProofs only [go_sem, Try.results42]
   refine zb4 (by simp -implicitDefEqProofs only [go_sem]) ?_
   simp -implicitDefEqProofs only [go_sem]
   refine callF (H1) (by simp -implicitDefEqProofs only [go_sem]) ?_
   simp -implicitDefEqProofs only [go_sem]
   refine callF (HK) (by simp -implicitDefEqProofs only [go_sem, hc']) ?_
   simp -implicitDefEqProofs only [go_sem, hc']
   skip
end Go.Proofs.Yteeaofpphmhjdaa
namespace Go.Proofs.Yteeaofpphmhjdaa
set_option linter.unusedSimpArgs false
set_option linter.unusedVariables false
set_option linter.unusedSectionVars false
set_option maxRecDepth 4000
open Go.RowKit
variable {P : Program} {N : Nat}
mutual
def noM : T -> Bool
 | .sl _ rows => zv6 rows
 | .ptr cells => !cells.isEmpty && zqt cells
 | .mp _ _ => false
 | .fn _ caps => zqt caps
 | .pin _ t => noM t
 | _ => true
def zv6 : List (List T) -> Bool
 | [] => true
 | r :: rest => !r.isEmpty && (zqt r && zv6 rest)
def zqt : List T -> Bool
 | [] => true
 | c :: cs => noM c && zqt cs
end
section
variable {w : World} {A : Nat -> Prop} {b : Nat} {es : Array MapEntry} {clk : Nat}
theorem zm1 (hb : w.heap[b]? = some (.map es clk)) (o : Nat) (v : Value) : w.cell? ⟨b, o, none⟩ ≠ some v := by simp [World.cell?, hb]
mutual
theorem zag.shr (hb : w.heap[b]? = some (.map es clk)) : ∀ (t : T) (v : Value), noM t = true -> zag w A t v -> zag w (fun x => A x /\ x ≠ b) t v
 | .int _ _, _, _, h => by unfold zag at h ⊢; exact h
 | .bool _, _, _, h => by unfold zag at h ⊢; exact h
 | .str _, _, _, h => by unfold zag at h ⊢; exact h
 | .sl sz rows, v, hn, h => by
  unfold noM at hn
  unfold zag at h ⊢
  obtain ⟨ao, cap, h1, h2, h3, h4⟩ := h
  refine ⟨ao, cap, h1, h2, h3, ?_⟩
  rcases h4 with h4 | ⟨b', o, h4, h5, h6⟩
  ·exact Or.inl h4
  ·cases rows with
   | nil => exact Or.inl rfl
   | cons r rest =>
    refine Or.inr ⟨b', o, h4, ⟨h5, fun e => ?_⟩, zah.shr hb b' o sz (r :: rest) hn h6⟩
    subst e
    unfold zv6 at hn
    rw [Bool.and_eq_true] at hn
    cases r with
    | nil => simp at hn
    | cons c cs =>
     unfold zah zar at h6
     obtain ⟨_, ⟨⟨u, hu, _⟩, _⟩, _⟩ := h6
     exact zm1 hb o u hu
 | .ptr cells, v, hn, h => by
  unfold noM at hn
  rw [Bool.and_eq_true] at hn
  unfold zag at h ⊢
  obtain ⟨b', o, h1, h2, h3⟩ := h
  refine ⟨b', o, h1, ⟨h2, fun e => ?_⟩, zar.shr hb b' o cells hn.2 h3⟩
  subst e
  cases cells with
  | nil => simp at hn
  | cons c cs =>
   unfold zar at h3
   obtain ⟨⟨u, hu, _⟩, _⟩ := h3
   exact zm1 hb o u hu
 | .fn f caps, v, hn, h => by
  unfold noM at hn
  unfold zag at h ⊢
  obtain ⟨vs, h1, h2⟩ := h
  exact ⟨vs, h1, zaa.shr hb caps vs hn h2⟩
 | .mp _ _, _, hn, _ => by unfold noM at hn; cases hn
 | .pin u t, v, hn, h => by
  unfold noM at hn
  unfold zag at h ⊢
  exact ⟨h.1, zag.shr hb t v hn h.2⟩
 | .vs _ _ _, _, _, h => by unfold zag at h ⊢; exact h
theorem zah.shr (hb : w.heap[b]? = some (.map es clk)) (b' : Nat) : ∀ (o sz : Nat) (rows : List (List T)), zv6 rows = true -> zah w A b' o sz rows -> zah w (fun x => A x /\ x ≠ b) b' o sz rows
 | _, _, [], _, h => by unfold zah at h ⊢; exact h
 | o, sz, r :: rest, hn, h => by
  unfold zv6 at hn
  rw [Bool.and_eq_true, Bool.and_eq_true] at hn
  unfold zah at h ⊢
  exact ⟨h.1, zar.shr hb b' o r hn.2.1 h.2.1, zah.shr hb b' (o + sz) sz rest hn.2.2 h.2.2⟩
theorem zar.shr (hb : w.heap[b]? = some (.map es clk)) (b' : Nat) : ∀ (o : Nat) (cs : List T), zqt cs = true -> zar w A b' o cs -> zar w (fun x => A x /\ x ≠ b) b' o cs
 | _, [], _, h => by unfold zar at h ⊢; exact h
 | o, c :: cs, hn, h => by
  unfold zqt at hn
  rw [Bool.and_eq_true] at hn
  unfold zar at h ⊢
  obtain ⟨⟨v, h1, h2⟩, h3⟩ := h
  exact ⟨⟨v, h1, zag.shr hb c v hn.1 h2⟩, zar.shr hb b' (o + 1) cs hn.2 h3⟩
theorem zaa.shr (hb : w.heap[b]? = some (.map es clk)) : ∀ (cs : List T) (vs : List Value), zqt cs = true -> zaa w A cs vs -> zaa w (fun x => A x /\ x ≠ b) cs vs
 | [], _, _, h => by unfold zaa at h ⊢; exact h
 | c :: cs, vs, hn, h => by
  unfold zqt at hn
  rw [Bool.and_eq_true] at hn
  unfold zaa at h ⊢
  obtain ⟨v, vs', h1, h2, h3⟩ := h
  exact ⟨v, vs', h1, zag.shr hb c v hn.1 h2, zaa.shr hb cs vs' hn.2 h3⟩
end
end
def zw4 : C -> Bool
 | .t x | .rn x => noM x
 | .el _ _ | .er _ _ => false
 | _ => true
def noMV : V -> Bool
 | .one c => zw4 c
 | .agg cs => cs.all zw4
 | .tup _ => false
section
variable {σ : St} {g : Gh} {w : World} {b : Nat} {es : Array MapEntry} {clk : Nat}
theorem CR.shr (hb : w.heap[b]? = some (.map es clk)) {c : C} {v : Value} (hn : zw4 c = true) (h : CR σ g w c v) : CR σ { g with A0 := fun x => g.A0 x /\ x ≠ b } w c v := by
 cases c with
 | t x => exact zag.keep (fun _ _ => rfl) (fun y hy => ⟨hy.1.1, hy.1.2.1, hy.1.2.2.1, hy.1.2.2.2, hy.2⟩) _ _ (zag.shr hb x v hn h)
 | rn x => exact zag.keep (fun _ _ => rfl) (fun y hy => ⟨⟨hy.1.1.1, hy.1.1.2.1, hy.1.1.2.2.1, hy.1.1.2.2.2, hy.2⟩, hy.1.2⟩) _ _ (zag.shr hb x v hn h)
 | el _ _ => cases hn
 | er _ _ => cases hn
 | nl _ => exact h
 | ow _ _ => exact h
 | bx _ _ => exact h
 | eo _ _ _ _ _ => exact h
 | fn _ _ => exact h
 | cv _ => exact h
 | any => exact h
theorem CRs.shr (hb : w.heap[b]? = some (.map es clk)) : ∀ {cs : List C} {vs : List Value}, cs.all zw4 = true -> CRs σ g w cs vs -> CRs σ { g with A0 := fun x => g.A0 x /\ x ≠ b } w cs vs
 | [], _, _, h => h
 | c :: cs, vs, hn, h => by
  rw [List.all_cons, Bool.and_eq_true] at hn
  obtain ⟨v, vs', h1, h2, h3⟩ := h
  exact ⟨v, vs', h1, CR.shr hb hn.1 h2, CRs.shr hb hn.2 h3⟩
theorem VR.shr (hb : w.heap[b]? = some (.map es clk)) {x : V} {v : Value} (hn : noMV x = true) (h : VR σ g w x v) : VR σ { g with A0 := fun x => g.A0 x /\ x ≠ b } w x v := by
 cases x with
 | one c => exact CR.shr hb hn h
 | agg cs =>
  obtain ⟨a, h1, h2⟩ := h
  exact ⟨a, h1, CRs.shr hb hn h2⟩
 | tup _ => cases hn
end
structure NoM (σ : St) : Prop where
 sl : ∀ i, noMV (σ.sl i) = true
 bx : ∀ b cs, σ.bx b = some cs -> cs.all zw4 = true
 ev : ∀ e x, σ.ev e = some x -> x.deep = true /\ x.on = true
theorem NoM.of {l : List (Nat × V)} {bl : List (Nat × List C)} {el : List (Nat × Ev)} (h1 : (l.all fun p => noMV p.2) = true) (h2 : (bl.all fun p => p.2.all zw4) = true) (h3 : (el.all fun p => p.2.deep && p.2.on) = true) : NoM (hd l bl el) := by
 have ht : ∀ {α : Type} {q : α -> Bool} {l : List (Nat × α)} {i : Nat} {x : α}, (l.all fun p => q p.2) = true -> tbl l i = some x -> q x = true := by
  intro α q l
  induction l with
  | nil => intro i x _ h; cases h
  | cons p l ih =>
   intro i x hall h
   rw [List.all_cons, Bool.and_eq_true] at hall
   obtain ⟨j, y⟩ := p
   unfold tbl at h
   split at h
   ·obtain rfl := Option.some.inj h; exact hall.1
   ·exact ih hall.2 h
 refine ⟨fun i => ?_, fun b cs hb => ht (q := fun cs : List C => cs.all zw4) h2 hb, fun e x he => ?_⟩
 ·rw [hd_sl]
  induction l with
  | nil => rfl
  | cons p l ih =>
   rw [List.all_cons, Bool.and_eq_true] at h1
   obtain ⟨j, y⟩ := p
   unfold zkx
   split
   ·exact h1.1
   ·exact ih h1.2
 ·have := ht (q := fun x : Ev => x.deep && x.on) h3 he
  rwa [Bool.and_eq_true] at this
theorem Rel.shr {n0 : Nat -> Prop} {σ : St} {g : Gh} {a : Act} {w : World} {b : Nat} {es : Array MapEntry} {clk : Nat} (h : Rel n0 N σ g a w) (hb : w.heap[b]? = some (.map es clk)) (hnb : n0 b) (hn : NoM σ) : Rel n0 N σ { g with A0 := fun x => g.A0 x /\ x ≠ b } a w := by
 refine ⟨h.defers, h.size, fun x hx => ⟨⟨(h.anew x hx).1, fun e => hx (e ▸ hnb)⟩, (h.anew x hx).2⟩, fun i => VR.shr hb (hn.sl i) (h.slots i), fun k cs hk => ?_, h.base, h.inj, fun e x he ho => ?_, fun e x he ho => ?_, h.slc, fun e ho x hx => ⟨⟨(h.ebase e ho x hx).1, fun q => h.etop e ho x hx (q ▸ hnb)⟩, (h.ebase e ho x hx).2⟩, h.etop, h.nodup, h.apart, h.ebx⟩
 ·obtain ⟨vs, ty, k1, k2⟩ := h.boxes k cs hk
  exact ⟨vs, ty, k1, CRs.shr hb (hn.bx k cs hk) k2⟩
 ·obtain ⟨ao, cap, k1, k2, k3, k4⟩ := h.evs e x he ho
  refine ⟨ao, cap, k1, k2, k3, k4.imp (fun q => q) ?_⟩
  rintro ⟨b', cells, ty, fps, q1, q2, q3, q4, q5⟩
  rw [if_pos (hn.ev e x he).1] at q5
  exact ⟨b', cells, ty, fps, q1, q2, q3, q4, by rw [if_pos (hn.ev e x he).1]; exact q5⟩
 ·have := (hn.ev e x he).2
  rw [ho] at this; cases this
section
variable {ag : Bool} {b : Nat}
theorem zbt.read {c : Code} {σ σ3 : St} {d : Nat} {D : Nat -> Prop} {rows : List (List T)} {Q : Exit -> St -> List (List T) -> Prop} (hd : σ.sl d = .one (.cv (.map (some b)))) (hdm : d < 1000000) (hD : ¬ D d) (h3d : NoM σ3) (hX : zdr P N D c (σ.put (some d) (.one (.t (.mp ag rows)))) (nkR σ3)) (hQ : Q .normal (σ3.put (some d) (.one (.cv (.map (some b))))) rows) : zbt P N ag b c σ rows Q := fun n0 w0 A0 g a w hM h2 h3 => by
 obtain ⟨n1, es, clk, k1, k2, k3, k4, k5, k6, k7⟩ := hM.rel
 have hg1 : Rel n1 N σ { g with A0 := fun x => g.A0 x \/ x = b } a w := k4.leave (fun _ h => h) (fun x hx => Or.inl hx) fun x hx => ⟨Or.inl (k4.anew x hx).1, (k4.anew x hx).2⟩
 have hF : ∀ x, n1 x -> (g.A0 x \/ x = b) -> Fix σ { g with A0 := fun x => g.A0 x \/ x = b } w x := fun x h1 h2 => ⟨fun k hk e => k4.base k hk (e ▸ h1), fun e y he ho hh => k4.etop e ⟨y, he, ho⟩ x (List.mem_of_mem_head? hh) h1, k5 x h1, h2⟩
 have hval : a.tmps.getD d (g.R0.ξ d) = .map (some b) := by
  have := k4.slots d
  rw [hd] at this
  exact this
 have hR : Rel n1 N (σ.put (some d) (.one (.t (.mp ag rows)))) { g with A0 := fun x => g.A0 x \/ x = b } a w := by
  refine hg1.slots_of rfl rfl hg1.defers hg1.size fun i => ?_
  show VR σ _ w (Go.Proofs.Yteeaofpphmhjdaa.upd σ.sl d _ i) _
  by_cases hi : i = d
  ·subst hi
   rw [zae]
   show zag w _ (.mp ag rows) (a.tmps.getD i (g.R0.ξ i))
   rw [hval]
   unfold zag
   exact ⟨b, es, clk, rfl, hF b k2 (Or.inr rfl), k6, zan.keep (fun _ _ => rfl) (fun x hx => hF x hx.1 (Or.inl hx.2)) ag rows _ k7⟩
  ·rw [zai _ _ hi]
   exact hg1.slots i
 have hac : { a with defers := [] } = a := by
  have := k4.defers
  cases a
  simp only at this
  rw [this]
 have run := hX none 0 [] n1 w (fun x => g.A0 x \/ x = b, g.R0) a _ a w hR k5 (Bk.refl _ _) rfl (Ag.refl _ _)
 rw [hac] at run
 refine wp_mono ((wpIn_wide (n := 0)).1 run) ?_
 rintro e a' w' ⟨a1, rfl, hag, σ2, g2, q1, q2, q3, q4, q5⟩
 have hac1 : { a1 with defers := [] } = a1 := by
  have := q2.defers
  cases a1
  simp only at this
  rw [this]
 rw [hac1]
 cases e with
 | normal =>
  obtain ⟨g3, r1, r2, r3⟩ := q1 _ _ _ _ _ q2
  have e1 : g3.A0 = fun x => g.A0 x \/ x = b := r2.trans (Prod.mk.inj q5).1
  have e2 : g3.R0 = g.R0 := r3.trans (Prod.mk.inj q5).2
  have hb' : w'.heap[b]? = some (.map es clk) := (q4.block b k2).trans k6
  have hs := r1.shr hb' k2 h3d
  have hv1 : a1.tmps.getD d (g3.R0.ξ d) = .map (some b) := by
   rw [e2, g.R0.lo d hdm]
   rw [g.R0.lo d hdm] at hval
   exact (hag d hD).trans hval
  refine ⟨_, rows, { g3 with A0 := fun x => g3.A0 x /\ x ≠ b }, hQ, ⟨⟨n1, es, clk, k1, k2, fun h => h.2 rfl, ?_, q3, hb', zan.keep (fun x hx => q4.block x hx.1) (fun x hx => ⟨hx.1, by rw [e1]; exact Or.inl hx.2, fun e => k3 (e ▸ hx.2)⟩) ag rows _ k7⟩, hM.nb, fun x hx => ?_, by show g3.R0 = _; rw [e2]; exact hM.r0, hM.new⟩, h2.mono q4.size, h3.trans (zrl k1 q4)⟩
  ·refine hs.slots_of rfl rfl hs.defers hs.size fun i => ?_
   show VR σ3 _ w' (Go.Proofs.Yteeaofpphmhjdaa.upd σ3.sl d _ i) _
   by_cases hi : i = d
   ·subst hi
    rw [zae]
    exact hv1
   ·rw [zai _ _ hi]
    exact hs.slots i
  ·have h1 : g3.A0 x := hx.1
   rw [e1] at h1
   exact hM.sub x (h1.resolve_right hx.2)
 | exit _ => exact (show False from q1).elim
 | goto _ => exact (show False from q1).elim
 | ret => exact (show False from q1).elim
 | panic _ => exact (show False from q1).elim
 | outgrown => exact (show False from q1).elim
theorem zbt.cond {c : Operand} {x y : Code} {σ : St} {rows : List (List T)} {Q : Exit -> St -> List (List T) -> Prop} {u : Bool} (hv : σ.get P 0 c = .one (.t (.bool u))) (ht : u = true -> zbt P N ag b x σ rows Q) (hf : u = false -> zbt P N ag b y σ rows Q) : zbt P N ag b (.cond c x y) σ rows Q := fun n0 w0 A0 g a w hM h2 h3 => by
 obtain ⟨n1, es, clk, k1, k2, k3, k4, k5, k6, k7⟩ := hM.rel
 have hv' := k4.get P 0 c
 rw [hv] at hv'
 simp only [VR, CR, zag] at hv'
 exact wp_cond_split hv' (fun e => ht e n0 w0 A0 g a w hM h2 h3) (fun e => hf e n0 w0 A0 g a w hM h2 h3)
end
theorem zfe.scope2 {i d0 d1 : Nat} {mt t0 t1 : TypeId} {p0 p1 : String} {f0 f1 : Array Edge} {X : Code} {σ : St} {Q : Exit -> St -> Prop} {ops : Array Oper} (ag : Bool) (hz : ops.size = 2) (c0 : ops[0]? = some ⟨some d0, .makeMap mt none, t0, p0, f0, none⟩) (c1 : ops[1]? = some ⟨some d1, .assign (.tmp d0), t1, p1, f1, none⟩) (hd : d0 < N /\ d1 < N)
  (h : ∀ b, zbt P N ag b X ((σ.put (some d0) (.one (.cv (.map (some b))))).put (some d1) (.one (.cv (.map (some b))))) [] (fun e σ' _ => Q e σ')) :
  zfe P N (.seq (.region i ops false) X) σ Q := fun n0 w0 A0 g a w hR h2 h3 h4 => by
 refine wp_seq (wp_region ?_)
 have e0 : (execOp a.eval ⟨some d0, .makeMap mt none, t0, p0, f0, none⟩).run P w = .ok (.value (.map (some w.heap.size))) (w.alloc (.map #[] 0)) := by
  unfold execOp
  simp only [Option.map_none, Sem.run_bind, zi7, Result.andThen_ok, Sem.run_pure]
 have hR1 := (hR.enter1 (.map #[] 0)).put (some d0) (x := .one (.cv (.map (some w.heap.size)))) (v := .map (some w.heap.size)) rfl (fun j hj => by cases hj; exact hd.1)
 have ev : (a.put (some d0) (.map (some w.heap.size))).eval (.tmp d0) = .map (some w.heap.size) := by
  show (a.tmps.setIfInBounds d0 _).getD d0 undef = _
  exact zdw hR.size hd.1 _ _
 have hR2 := hR1.put (some d1) (x := .one (.cv (.map (some w.heap.size)))) (v := .map (some w.heap.size)) rfl (fun j hj => by cases hj; exact hd.2)
 rw [hz]
 show wpOps P _ _ [0, 1] a w
 rw [wpOps_cons]
 unfold wpOp
 simp only [c0]
 rw [if_pos (by simp [Region.wanted])]
 refine Or.inl ?_
 unfold Oper.wp
 rw [e0]
 show wpOps P _ _ [1] _ _
 rw [wpOps_cons]
 unfold wpOp
 simp only [c1]
 rw [if_pos (by simp [Region.wanted])]
 refine Or.inl ?_
 unfold Oper.wp
 have e1 : ∀ (a : Act) (w : World), (execOp a.eval ⟨some d1, .assign (.tmp d0), t1, p1, f1, none⟩).run P w = .ok (.value (a.eval (.tmp d0))) w := fun a w => rfl
 rw [e1, ev]
 have hbk : Bk n0 w (w.alloc (.map #[] 0)) := ⟨rfl, rfl, rfl, by simp, fun k hk => Below.heap_alloc w _ k (h2 k hk)⟩
 have hM : RelM n0 N ((σ.put (some d0) (.one (.cv (.map (some w.heap.size))))).put (some d1) (.one (.cv (.map (some w.heap.size))))) ag [] w.heap.size A0 { g with A0 := fun b => g.A0 b /\ b ≠ w.heap.size } ((a.put (some d0) (.map (some w.heap.size))).put (some d1) (.map (some w.heap.size))) (w.alloc (.map #[] 0)) := by
  refine ⟨⟨fun b => n0 b \/ b = w.heap.size, #[], 0, fun x hx => Or.inl hx, Or.inr rfl, fun q => q.2 rfl, hR2, fun x hx => ?_, (Go.MapKept.heap_alloc w _).1, ?_⟩, h2.new (Nat.le_refl _), fun x hx => ?_, ?_, fun x hx => ?_⟩
  ·rcases hx with q | q
   ·have := h2 x q; simp; omega
   ·simp; omega
  ·unfold zan; rfl
  ·rw [<- h4]; exact hx.1
  ·rw [<- h4]
  ·rw [<- h4]; exact hR.anew x hx
 refine wp_mono (h w.heap.size n0 w0 A0 _ _ _ hM (h2.mono hbk.size) (h3.trans hbk)) fun e a' w' hq => ?_
 obtain ⟨σ', rows, g', q1, q3, q4, q5⟩ := hq
 obtain ⟨n1, es, clk, k1, k2, k3, k4, k5, k6, k7⟩ := q3.rel
 exact ⟨σ', { g' with A0 := A0.1 }, q1, k4.leave k1 q3.sub (fun x hx => ⟨(q3.new x hx).1, by rw [q3.r0]; exact (q3.new x hx).2⟩), q4, q5, by show (A0.1, g'.R0) = A0; rw [q3.r0]⟩
end Go.Proofs.Yteeaofpphmhjdaa
namespace Go.Proofs.Yteeaofpphmhjdaa
set_option linter.unusedSimpArgs false
set_option linter.unusedVariables false
set_option linter.unusedSectionVars false
set_option maxRecDepth 4000
open Go.RowKit
def prI (p : Int × Int) : List T := [.int .i64 p.1, .int .i64 p.2]
theorem zeo (x : Int) : ∀ P : List (Int × Int), zbm (.int .i64 x) (P.map prI) = some ((P.find? fun p => p.1 == x).map fun p => [.int .i64 p.2])
 | [] => rfl
 | p :: P => by
  rw [List.map_cons, prI, zbm, List.find?_cons]
  by_cases h : x = p.1
  ·subst h
   simp [zkc]
  ·have h1 : (p.1 == x) = false := by simp; omega
   have h2 : zkc (.int .i64 x) (.int .i64 p.1) = some false := by simp [zkc, h]
   rw [h1, h2]
   exact zeo x P
theorem zgv {x : Int} {P : List (Int × Int)} (h : ∀ p ∈ P, p.1 ≠ x) : zbm (.int .i64 x) (P.map prI) = some none := by
 rw [zeo, List.find?_eq_none.2 fun p hp => by simpa using h p hp]; rfl
def mpP (n : Nat) (B : List Bool) : Nat -> List (Int × Int)
 | 0 => (List.range n).map fun i : Nat => ((i : Int), (i : Int))
 | k + 1 => mpP n B k ++ if B.getD (n + k) false = true then [((n : Int) + (k : Nat), (n : Int) + (rk n B k : Nat))] else []
theorem zk0 {n : Nat} {B : List Bool} : ∀ {k : Nat} {p : Int × Int}, p ∈ mpP n B k -> 0 <= p.1 /\ p.1 < n + k /\ p.2 = zs8 n B p.1
 | 0, p, h => by
  unfold mpP at h
  obtain ⟨i, hi, rfl⟩ := List.mem_map.1 h
  have := List.mem_range.1 hi
  refine ⟨by simp only; omega, by simp only; omega, ?_⟩
  unfold zs8
  simp only
  rw [if_pos (by omega)]
 | k + 1, p, h => by
  unfold mpP at h
  rcases List.mem_append.1 h with h | h
  ·have := zk0 h
   exact ⟨this.1, by omega, this.2.2⟩
  ·split at h
   next hb =>
    rw [List.mem_singleton] at h
    subst h
    refine ⟨by simp only; omega, by simp only; omega, ?_⟩
    unfold zs8
    simp only
    rw [if_neg (by omega), show ((n : Int) + (k : Nat)).toNat - n = k by omega]
   next => simp at h
theorem zqr {n : Nat} {B : List Bool} {j : Nat} (hB : B.getD j false = true) : ∀ {k : Nat}, j < n + k -> ∃ p ∈ mpP n B k, p.1 = (j : Int)
 | 0, h => ⟨((j : Int), (j : Int)), List.mem_map.2 ⟨j, List.mem_range.2 (by omega), rfl⟩, rfl⟩
 | k + 1, h => by
  unfold mpP
  by_cases hj : j < n + k
  ·obtain ⟨p, h1, h2⟩ := zqr hB hj
   exact ⟨p, List.mem_append_left _ h1, h2⟩
  ·have e : j = n + k := by omega
   subst e
   rw [if_pos hB]
   exact ⟨_, List.mem_append_right _ (List.mem_singleton.2 rfl), by simp only; omega⟩
theorem zl4 {n : Nat} {B : List Bool} {j k : Nat} (hB : B.getD j false = true) (h : j < n + k) : zbm (.int .i64 (j : Int)) ((mpP n B k).map prI) = some (some [.int .i64 (zs8 n B (j : Int))]) := by
 rw [zeo]
 obtain ⟨p, h1, h2⟩ := zqr hB h
 cases hf : (mpP n B k).find? fun p => p.1 == (j : Int) with
 | none =>
  have := List.find?_eq_none.1 hf p h1
  simp [h2] at this
 | some q =>
  have e1 : q.1 = (j : Int) := by simpa using List.find?_some hf
  have e2 := (zk0 (List.mem_of_find?_eq_some hf)).2.2
  rw [Option.map_some, e2, e1]
theorem zfj {α : Type} {f : α -> List T} (h : ∀ x, (!(f x).isEmpty && zqt (f x)) = true) : ∀ xs : List α, zv6 (xs.map f) = true
 | [] => rfl
 | x :: xs => by
  have := h x
  rw [Bool.and_eq_true] at this
  rw [List.map_cons, zv6, this.1, this.2, zfj h xs]; rfl
theorem zlz (xs : List Int) : noM (zba xs) = true := by
 rw [noM]; exact zfj (fun x => rfl) xs
theorem zq6 (S : List (List Int)) : noM (za6 S) = true := by
 rw [noM]
 refine zfj (fun x => ?_) S
 have := zlz x
 simp [zqt, this]
theorem zy6 (st : List Ps) : noM (psS st) = true := by
 rw [noM]
 refine zfj (fun x => ?_) st
 have := zlz x.c
 rw [zaz]
 simp [zqt, noM] at this ⊢
 exact this
def mp0 (i : Nat) : List (Int × Int) := (List.range i).map fun j : Nat => ((j : Int), (j : Int))
theorem zuu (i : Nat) : (mp0 (i + 1)).map prI = (mp0 i).map prI ++ [[.int .i64 i, .int .i64 i]] := by
 unfold mp0
 rw [List.range_succ, List.map_append, List.map_append]; rfl
theorem mp0_no (i : Nat) : zbm (.int .i64 (i : Int)) ((mp0 i).map prI) = some none := zgv fun p hp => by
 obtain ⟨j, hj, rfl⟩ := List.mem_map.1 hp
 have := List.mem_range.1 hj
 simp only; omega
set_option maxHeartbeats 2000000 in
theorem ze5 {S : List (List Int)} {st : List Ps} (h : SzR S st) : FC Try.prog 28 [.one (za6 S), .one (psS st)] [.one (psS (trR S st).1), bD (trR S st).2] := by
 have HC := zd7 h
 unfold trR
 cases hk : zfa S st
 ·rw [hk] at HC
  rw [if_neg (by simp)]
  refine zpy Try.call28 Try.func28 rfl (zbj (by kernel_rfl)) ?_
  refine zfe.cut 2 rfl (by kernel_rfl) ?_
  simp -implicitDefEqProofs only [go_sem, Try.results28]
  refine callF (HC) (by simp -implicitDefEqProofs only [go_sem]) ?_
  simp -implicitDefEqProofs only [go_sem]
  skip
 ·obtain ⟨h1, h2, h3, h4⟩ := zgj hk
  rw [hk] at HC
  rw [if_pos rfl]
  have hSl := zg5 h1
  have HN := zuw S st (by omega) (by omega) (by omega) h4
  have hBl := zwg S.length st
  have hdep := zw6 (zg6 h3).1
  unfold trm
  generalize nd S.length st = B at HN hBl hdep ⊢
  refine zpy Try.call28 Try.func28 rfl (zbj (by kernel_rfl)) ?_
  refine zfe.cut 2 rfl (by kernel_rfl) ?_
  simp -implicitDefEqProofs only [go_sem, Try.results28]
  refine callF (HC) (by simp -implicitDefEqProofs only [go_sem]) ?_
  simp -implicitDefEqProofs only [go_sem]
  refine callF (HN) (by simp -implicitDefEqProofs only [go_sem]) ?_
  simp -implicitDefEqProofs only [go_sem]
  refine zfe.scope2 false rfl rfl rfl (by simp only [Try.ntmps28]; omega) ?_
  intro b
  refine zbt.seq ?_
  refine zbt.cut 0 rfl (by kernel_rfl) ?_
  simp -implicitDefEqProofs only [go_sem]
  refine zbt.block ?_
  refine zbt.loop (fun i : Nat => hd [(0, .one (.rn (za6 S))), (1, .one (.rn (psS st))), (6, .one (.ow 576 0)), (7, .one (.cv (.map (some b)))), (21, vI S.length), (22, vI i)] [] [(576, ⟨true, 1, B.map fun b => [.bool b], 0, true⟩)])
   (fun i => (mp0 i).map prI) (fun i => i <= S.length) (fun i => S.length - i) 0 (zac ?_) rfl (Nat.zero_le _) ?_
  ·simp -implicitDefEqProofs only [go_sem]
  ·intro i hi
   refine zbt.cut 1 rfl (by kernel_rfl) ?_
   by_cases hil : i < S.length
   ·have hno := mp0_no i
    have hsu := zuu i
    generalize (mp0 i).map prI = R at hno hsu
    simp -implicitDefEqProofs only [go_sem, hil]
    refine zbt.seq ?_
    refine zbt.block ?_
    refine zbt.cut 0 rfl (by kernel_rfl) ?_
    simp -implicitDefEqProofs only [go_sem]
    refine zbt.upd 3 rfl rfl rfl (by kernel_rfl) ?_
    simp -implicitDefEqProofs only [go_sem, hno, Try.underlying101, Try.underlying3]
    refine zbt.ofEx (by kernel_rfl) ?_
    simp -implicitDefEqProofs only [go_sem]
    rw [show IntKind.i64.wrap ((i : Int) + 1) = ((i + 1 : Nat) : Int) from zav (by omega)]
    refine ⟨i + 1, hil, by omega, hsu, zac ?_⟩
    simp -implicitDefEqProofs only [go_sem]
   ·have hin : i = S.length := by omega
    subst hin
    rw [show (mp0 S.length).map prI = (mpP S.length B 0).map prI from rfl]
    simp -implicitDefEqProofs only [go_sem, hil]
    refine zbt.cut 0 rfl (by kernel_rfl) ?_
    simp -implicitDefEqProofs only [go_sem]
    refine zb4 (by simp -implicitDefEqProofs only [go_sem]) ?_
    simp -implicitDefEqProofs only [go_sem]
    refine zbt.seq ?_
    refine zbt.cut 0 rfl (by kernel_rfl) ?_
    simp -implicitDefEqProofs only [go_sem]
    refine zbt.block ?_
    refine zbt.loop (fun k : Nat => hd [(0, .one (.rn (za6 S))), (1, .one (.rn (psS st))), (6, .one (.ow 576 0)), (7, .one (.cv (.map (some b)))), (9, .one (.ow 928 (trF S.length B st k).length)), (30, .one (.rn (psS st))), (31, vI st.length), (32, vI k)] [] [(576, ⟨true, 1, B.map fun b => [.bool b], 0, true⟩), (928, ⟨true, 4, (trF S.length B st k).map psC, (trF S.length B st k).length, true⟩)])
     (fun k => (mpP S.length B k).map prI) (fun k => k <= st.length) (fun k => st.length - k) 0 (zac ?_) rfl (Nat.zero_le _) ?_
    ·simp -implicitDefEqProofs only [go_sem]
     rfl
    ·intro k hk
     refine zbt.cut 1 rfl (by kernel_rfl) ?_
     by_cases hkl : k < st.length
     ·have hwk : IntKind.i64.wrap ((k : Int) + 1) = ((k + 1 : Nat) : Int) := zav (by omega)
      have hwn : IntKind.i64.wrap ((S.length : Int) + (k : Int)) = ((S.length + k : Nat) : Int) := by rw [zaq (by omega) (by omega)]; omega
      have hBk : S.length + k < B.length := by omega
      have hgb : B.getD (S.length + k) false = B[S.length + k] := by rw [List.getD_eq_getElem?_getD, List.getElem?_eq_getElem hBk]; rfl
      have hgs : st.getD k ps0 = st[k] := by rw [List.getD_eq_getElem?_getD, List.getElem?_eq_getElem hkl]; rfl
      have hdk := hdep k hkl
      have hb4 := h4 k hkl
      have hsl := h.tc st[k] (List.getElem_mem hkl)
      have htl := zhx S.length B st k
      have hrk := zx9 S.length B k
      have hT : trF S.length B st (k + 1) = trF S.length B st k ++ if B[S.length + k] = true then [trS S.length B (st.getD k ps0)] else [] := by rw [trF, hgb]
      have hM : (mpP S.length B (k + 1)).map prI = (mpP S.length B k).map prI ++ if B[S.length + k] = true then [[.int .i64 ((S.length + k : Nat) : Int), .int .i64 ((S.length : Int) + (rk S.length B k : Nat))]] else [] := by
       rw [mpP, hgb, List.map_append]
       split
       ·rw [List.map_singleton, prI, show (S.length : Int) + (k : Nat) = ((S.length + k : Nat) : Int) by omega]
       ·rfl
      rw [hgs] at hdk hb4 hT
      rw [hgb] at hdk
      have hps := zaz st[k]
      generalize hsk : st[k] = s at hdk hb4 hT hsl hps
      obtain ⟨sl, sr, sp, sc⟩ := s
      simp only at hdk hb4 hsl
      obtain ⟨l, rfl⟩ : ∃ l : Nat, sl = l := ⟨sl.toNat, by omega⟩
      obtain ⟨r, rfl⟩ : ∃ r : Nat, sr = r := ⟨sr.toNat, by omega⟩
      simp only [Int.toNat_natCast] at hdk
      simp -implicitDefEqProofs only [go_sem, hkl]
      refine zbt.seq ?_
      refine zbt.block ?_
      refine zbt.cut 1 rfl (by kernel_rfl) ?_
      simp -implicitDefEqProofs only [go_sem, hkl, zaf, hsk, zaz]
      rw [hwn]
      simp -implicitDefEqProofs only [go_sem, hBk, zaf]
      refine zbt.cond (u := B[S.length + k]) (by simp -implicitDefEqProofs only [go_sem]) (fun ht => ?_) (fun hf => ?_)
      ·rw [if_pos ht] at hT hM
       have hd' := hdk ht
       have hno : zbm (.int .i64 ((S.length + k : Nat) : Int)) ((mpP S.length B k).map prI) = some none := zgv fun p hp => by
        have := (zk0 hp).2.1; omega
       have hfl := zl4 (k := k + 1) (n := S.length) hd'.1 (by omega)
       have hfr := zl4 (k := k + 1) (n := S.length) hd'.2 (by omega)
       have hwt : IntKind.i64.wrap ((S.length : Int) + ((trF S.length B st k).length : Int)) = (S.length : Int) + (rk S.length B k : Nat) := by rw [htl, zaq (by omega) (by omega)]
       have HO := zt9 sc (by omega)
       have hS1 : zv6 (S.map fun s => [zba s]) = true := by have := zq6 S; rwa [noM] at this
       have hS2 : zv6 (st.map psC) = true := by have := zy6 st; rwa [noM] at this
       have hol : (trF S.length B st k).length <= 4294967295 := by omega
       refine zbt.seq ?_
       refine zbt.upd 10 rfl rfl rfl (by kernel_rfl) ?_
       simp -implicitDefEqProofs only [go_sem]
       rw [hwn, hwt]
       simp -implicitDefEqProofs only [go_sem, hno, Try.underlying101, Try.underlying3]
       rw [<- hM]
       obtain ⟨R, hRe⟩ : ∃ R, (mpP S.length B (k + 1)).map prI = R := ⟨_, rfl⟩
       rw [hRe] at hM hfl hfr ⊢
       refine zbt.read (d := 7) (D := fun i => i ≠ 7) (σ3 := hd [(0, .one (.rn (za6 S))), (1, .one (.rn (psS st))), (6, .one (.ow 576 0)), (9, .one (.ow 928 (trF S.length B st (k + 1)).length)), (30, .one (.rn (psS st))), (31, vI st.length), (32, vI k)] [] [(576, ⟨true, 1, B.map fun b => [.bool b], 0, true⟩), (928, ⟨true, 4, (trF S.length B st (k + 1)).map psC, (trF S.length B st (k + 1)).length, true⟩)]) (by simp -implicitDefEqProofs only [go_sem]) (by omega) (fun h => h rfl) (NoM.of (by simp [noMV, zw4, vI, noM, hS1, hS2]) rfl rfl) (zdr.drawn (by kernel_rfl) (by kernel_rfl) (by kernel_rfl) (by intro d hd; simp [zbp] at hd; omega) ?_) ?_
       ·simp -implicitDefEqProofs only [go_sem]
        refine zwf (v := vI (zs8 S.length B (l : Int))) (by simp -implicitDefEqProofs only [go_sem, hfl, Try.underlying101, Try.underlying3]) ?_
        simp -implicitDefEqProofs only [go_sem]
        refine zwf (v := vI (zs8 S.length B (r : Int))) (by simp -implicitDefEqProofs only [go_sem, hfr, Try.underlying101, Try.underlying3]) ?_
        simp -implicitDefEqProofs only [go_sem]
        refine zc2 (HO) (by simp -implicitDefEqProofs only [go_sem]) ?_
        simp -implicitDefEqProofs only [go_sem]
        refine zdd (by simp -implicitDefEqProofs only [go_sem]) ?_
        simp -implicitDefEqProofs only [go_sem]
        refine zw3 true (by simp -implicitDefEqProofs only [go_sem, ne_eq, List.length_map, hol]) ?_
        simp -implicitDefEqProofs only [go_sem, ne_eq, List.length_map, hol]
        refine ⟨by kernel_rfl, zac ?_⟩
        simp -implicitDefEqProofs only [go_sem]
        rw [hT, List.map_append]
        rfl
       ·refine zbt.ofEx (by kernel_rfl) ?_
        simp -implicitDefEqProofs only [go_sem]
        rw [hwk]
        refine ⟨k + 1, hkl, by omega, hRe, zac ?_⟩
        simp -implicitDefEqProofs only [go_sem]
      ·rw [if_neg (by rw [hf]; simp), List.append_nil] at hT hM
       refine zbt.ofEx (by kernel_rfl) ?_
       simp -implicitDefEqProofs only [go_sem]
       refine zbt.ofEx (by kernel_rfl) ?_
       simp -implicitDefEqProofs only [go_sem]
       rw [hwk]
       refine ⟨k + 1, hkl, by omega, hM, zac ?_⟩
       simp -implicitDefEqProofs only [go_sem]
       rw [hT]
       skip
     ·have hkn : k = st.length := by omega
      subst hkn
      simp -implicitDefEqProofs only [go_sem, hkl]
      refine zbt.ofEx (by kernel_rfl) ?_
      simp -implicitDefEqProofs only [go_sem]
      skip
end Go.Proofs.Yteeaofpphmhjdaa
namespace Go.Proofs.Yteeaofpphmhjdaa
set_option linter.unusedSimpArgs false
set_option linter.unusedVariables false
set_option linter.unusedSectionVars false
set_option maxRecDepth 4000
open Go.RowKit
theorem trF_c {n : Nat} {B : List Bool} {st : List Ps} : ∀ {k : Nat}, k <= st.length -> ∀ {s : Ps}, s ∈ trF n B st k -> ∃ t ∈ st, s.c = t.c
 | 0, _, s, h => by simp [trF] at h
 | k + 1, hk, s, h => by
  unfold trF at h
  rcases List.mem_append.1 h with h | h
  ·exact trF_c (by omega) h
  ·split at h
   next =>
    rw [List.mem_singleton] at h
    subst h
    refine ⟨st[k], List.getElem_mem (by omega), ?_⟩
    rw [List.getD_eq_getElem?_getD, List.getElem?_eq_getElem (by omega)]; rfl
   next => simp at h
theorem W_len : ∀ {xs : List Ps} {M : Nat}, (∀ s ∈ xs, s.c.length <= M) -> zaw xs <= xs.length * (M + 1)
 | [], M, _ => by simp [zaw]
 | a :: xs, M, h => by
  have h1 := W_len (xs := xs) (M := M) fun s hs => h s (List.mem_cons_of_mem _ hs)
  have h2 := h a (by simp)
  unfold zaw at h1 ⊢
  rw [List.length_cons, List.map_cons, List.sum_cons, Nat.succ_mul, Ps.wt]
  omega
theorem trR_W {S : List (List Int)} {st : List Ps} (h : SzR S st) : zaw (trR S st).1 <= 1099512676352 := by
 unfold trR
 split
 ·have h1 := W_len (xs := trm S st) (M := 1048576) fun s hs => by
   obtain ⟨t, ht, e⟩ := trF_c (Nat.le_refl _) hs
   rw [e]; exact h.tc t ht
  have h2 := zxu S st
  have h3 := h.st
  refine Nat.le_trans h1 (Nat.le_trans (Nat.mul_le_mul_right _ (Nat.le_trans h2 h3)) (by decide))
 ·simp [zaw]
set_option maxHeartbeats 2000000 in
theorem zx0 (S : List (List Int)) (st : List Ps) : FC Try.prog 8 [.one (za6 S), .one (psS st)] [bD true] := by
 have HZ := zo2 S 1048576 (by omega) (by omega)
 refine FC_ofN Try.call8 Try.func8 rfl (by kernel_rfl) (zbj (by kernel_rfl)) ?_
 simp -implicitDefEqProofs only [go_sem, Try.results8]
 refine callF (HZ) (by simp -implicitDefEqProofs only [go_sem]) ?_
 simp -implicitDefEqProofs only [go_sem]
 refine ⟨fun h => trivial, fun h => ?_⟩
 obtain ⟨hw1, hw2⟩ := zhc (show ¬ szR (zb3 S) 1048576 < 0 by simpa using h)
 have HZ2 := zhr st (szR (zb3 S) 1048576) (by omega) (by omega)
 refine callF (HZ2) (by simp -implicitDefEqProofs only [go_sem]) ?_
 simp -implicitDefEqProofs only [go_sem]
 refine ⟨fun h => trivial, fun h2 => ?_⟩
 obtain ⟨hw3, hw4⟩ := zhc (show ¬ szR (zaw st) (szR (zb3 S) 1048576) < 0 by simpa using h2)
 have hw : zb3 S <= 1048576 := by omega
 have hws : zaw st <= 1048576 := by omega
 have hsz := szR_of hw hws
 have HS := zu1 S st hsz.tc
 have HI := ze5 hsz
 have HT := zps S hw
 have HT2 := zhk st hws
 have HE := zq9 S S
 have HE2 := zdu st st
 have hRl := trR_W hsz
 generalize trR S st = x at HS HI hRl
 obtain ⟨R, G⟩ := x
 simp only at HS HI hRl
 have HF := zdu R R
 have n2 : ∀ b : Bool, (b != b) = false := by decide
 refine callF (HT) (by simp -implicitDefEqProofs only [go_sem]) ?_
 simp -implicitDefEqProofs only [go_sem]
 refine callF (HT2) (by simp -implicitDefEqProofs only [go_sem]) ?_
 simp -implicitDefEqProofs only [go_sem]
 refine callF (HS) (by simp -implicitDefEqProofs only [go_sem]) ?_
 simp -implicitDefEqProofs only [go_sem]
 refine callF (HT) (by simp -implicitDefEqProofs only [go_sem]) ?_
 simp -implicitDefEqProofs only [go_sem]
 refine callF (HT2) (by simp -implicitDefEqProofs only [go_sem]) ?_
 simp -implicitDefEqProofs only [go_sem]
 refine callF (HI) (by simp -implicitDefEqProofs only [go_sem]) ?_
 simp -implicitDefEqProofs only [go_sem]
 refine callF (HF) (by simp -implicitDefEqProofs only [go_sem, za1, beq_self_eq_true, bne_self_eq_false, Bool.not_true, n2]) ?_
 simp -implicitDefEqProofs only [go_sem, za1, beq_self_eq_true, bne_self_eq_false, Bool.not_true, n2]
 refine callF (HT) (by simp -implicitDefEqProofs only [go_sem]) ?_
 simp -implicitDefEqProofs only [go_sem]
 refine callF (HE) (by simp -implicitDefEqProofs only [go_sem, za1]) ?_
 simp -implicitDefEqProofs only [go_sem, za1]
 refine callF (HT2) (by simp -implicitDefEqProofs only [go_sem]) ?_
 simp -implicitDefEqProofs only [go_sem]
 refine callF (HE2) (by simp -implicitDefEqProofs only [go_sem, za1]) ?_
 simp -implicitDefEqProofs only [go_sem, za1]
 have hc1 := zr8 S
 have hc2 := zk4 st
 have hcR := zk4 R
 have HM := zkt S 1 (by omega) (by omega)
 have hm := zl0 S 1
 have HM1 := zc6 st (zcu S 1).2 (by omega) (by omega)
 have hm1 := zhj st (zcu S 1).2
 have HM2 := zc6 R 1 (by omega) (by omega)
 have HL := zfx R 1 (by omega) (by omega)
 have hmR := (zhj R 1).1
 generalize (zcu S 1).2 = k1 at HM HM1 hm hm1
 generalize (zbo st k1).2 = k3 at HM1 hm1
 generalize (zbo st k1).1 = f3 at HM1
 generalize (zcu S 1).1 = f2 at HM
 generalize (zbo R 1).2 = k2 at HM2 HL hmR
 generalize (zbo R 1).1 = r1 at HM2 HL
 skip
 refine zkl [0, 1, 6, 7, 9, 10, 11, 64, 65] (HM) (by simp -implicitDefEqProofs only [go_sem]) (by simp -implicitDefEqProofs only [go_sem]) (by simp -implicitDefEqProofs only [go_sem]) (by simp -implicitDefEqProofs only [go_sem]) (by simp -implicitDefEqProofs only [go_sem]) rfl ?_
 simp -implicitDefEqProofs only [go_sem]
 refine zkl [0, 1, 6, 7, 10, 11, 67, 68] (HM1) (by simp -implicitDefEqProofs only [go_sem]) (by simp -implicitDefEqProofs only [go_sem]) (by simp -implicitDefEqProofs only [go_sem]) (by simp -implicitDefEqProofs only [go_sem]) (by simp -implicitDefEqProofs only [go_sem]) rfl ?_
 simp -implicitDefEqProofs only [go_sem]
 refine callF (HF) (by simp -implicitDefEqProofs only [go_sem, za1, beq_self_eq_true, bne_self_eq_false, Bool.not_true]) ?_
 simp -implicitDefEqProofs only [go_sem, za1, beq_self_eq_true, bne_self_eq_false, Bool.not_true]
 refine zkl [0, 1, 6, 7, 10, 11, 83, 84] (HM2) (by simp -implicitDefEqProofs only [go_sem]) (by simp -implicitDefEqProofs only [go_sem]) (by simp -implicitDefEqProofs only [go_sem]) (by simp -implicitDefEqProofs only [go_sem]) (by simp -implicitDefEqProofs only [go_sem]) rfl ?_
 simp -implicitDefEqProofs only [go_sem]
 refine callF (HL) (by simp -implicitDefEqProofs only [go_sem]) ?_
 simp -implicitDefEqProofs only [go_sem]
 refine ⟨fun h => by simp at h, fun _ => ?_⟩
 refine callF (HT) (by simp -implicitDefEqProofs only [go_sem]) ?_
 simp -implicitDefEqProofs only [go_sem]
 refine callF (HT2) (by simp -implicitDefEqProofs only [go_sem]) ?_
 simp -implicitDefEqProofs only [go_sem]
 refine callF (HI) (by simp -implicitDefEqProofs only [go_sem]) ?_
 simp -implicitDefEqProofs only [go_sem]
 refine callF (HF) (by simp -implicitDefEqProofs only [go_sem, za1, beq_self_eq_true, bne_self_eq_false, Bool.not_true, n2]) ?_
 simp -implicitDefEqProofs only [go_sem, za1, beq_self_eq_true, bne_self_eq_false, Bool.not_true, n2]
 refine callF (HL) (by simp -implicitDefEqProofs only [go_sem]) ?_
 simp -implicitDefEqProofs only [go_sem]
 refine ⟨fun h => by simp at h, fun _ => trivial⟩
end Go.Proofs.Yteeaofpphmhjdaa
