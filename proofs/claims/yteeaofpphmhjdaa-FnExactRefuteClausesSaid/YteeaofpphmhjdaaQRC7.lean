/-
  The walk over plain data, and contracts of functions of the program and of its laws.
  Conditions: those that each theorem names.
-/
import Derived.Test.YteeaofpphmhjdaaQRC5
import Derived.Test.YteeaofpphmhjdaaQRC6
namespace Go.Proofs.Yteeaofpphmhjdaa
set_option linter.unusedSimpArgs false
set_option linter.unusedVariables false
set_option linter.unusedSectionVars false
set_option maxRecDepth 4000
open Go.RowKit
def Ps.wt (s : Ps) : Nat := s.c.length
def zed (xs : List (List Int)) : Nat := xs.length + (xs.map List.length).sum
def zbw (xs : List Ps) : Nat := xs.length + (xs.map Ps.wt).sum
theorem zzp (xs : List Int) (l : Int) (h0 : 0 <= l) (h1 : l <= 1048576) : FC Try.prog 86 [.one (zas xs), iD l] [iD (szR xs.length l)] := by
 refine zd2 (fun hw => ?_) Try.call86
 have hl : xs.length <= 9223372036854775807 := by have := hw.1.1; simpa using this
 refine zay Try.call86 Try.func86 rfl (by kernel_rfl) (zbb (by kernel_rfl)) ?_
 simp -implicitDefEqProofs only [go_sem, Try.results86]
 rw [zam (by omega) (by omega)]
 refine ⟨fun h => ?_, fun h => ?_⟩
 ·rw [znx (by simp at h; omega)]
 ·rw [qd7 (by simp at h; omega)]
theorem qbu (xs : List Int) (hs : xs.length <= 1048576) : FC Try.prog 91 [.one (zas xs)] [.one (zas xs)] := by
 refine zay Try.call91 Try.func91 rfl (by kernel_rfl) (zbb (by kernel_rfl)) ?_
 simp -implicitDefEqProofs only [go_sem, Try.results91]
 refine qcm (by simp -implicitDefEqProofs only [go_sem]; omega) ?_
 simp -implicitDefEqProofs only [go_sem]
 refine zak (fun k : Nat => hd [(0, vT (zas xs)), (3, .one (.ow 224 0)), (4, vI k)] [] [(224, ⟨true, 1, (xs.take k).map (fun s => [.int .i64 s]) ++ List.replicate (xs.length - k) [T.int .i64 0], 0, true⟩)]) (fun k => k <= xs.length) (fun k => xs.length - k) 0 (zaa ?_) (Nat.zero_le _) ?_
 ·simp -implicitDefEqProofs only [go_sem]
  simp
 ·intro k hk
  by_cases hlt : k < xs.length
  ·have hlen : ((xs.take k).map (fun s => [T.int .i64 s]) ++ List.replicate (xs.length - k) [T.int .i64 0]).length = xs.length := by simp; omega
   have hlt2 : k < k + (xs.length - k) := by omega
   simp -implicitDefEqProofs only [go_sem, List.length_map, zag, hlt, hlen, List.length_append, List.length_take, List.length_replicate, Nat.min_eq_left hk, hlt2]
   refine zeu (by simp -implicitDefEqProofs only [go_sem]; simp) ?_
   simp -implicitDefEqProofs only [go_sem]
   rw [zaw (by omega)]
   refine ⟨k + 1, by omega, by omega, zaa ?_⟩
   simp -implicitDefEqProofs only [go_sem]
   have hf := zl5 ((xs.take k).map fun s => [T.int .i64 s]) xs.length k [T.int .i64 0] [T.int .i64 xs[k]] (by simp; omega) hlt (by simp)
   rw [hf, List.take_succ_eq_append_getElem hlt, List.map_append, List.map_singleton]
  ·simp -implicitDefEqProofs only [go_sem, List.length_map, hlt]
   simp [List.take_of_length_le (show xs.length <= k by omega), show xs.length - k = 0 by omega]
theorem zmq (a b : Ps) : FC Try.prog 93 [psD a, psD b] [bD (same a b)] := by
 have H := zqb a.c b.c
 simp only [psD, zcz]
 obtain ⟨l1, r1, p1, c1⟩ := a
 obtain ⟨l2, r2, p2, c2⟩ := b
 simp only at H ⊢
 refine zay Try.call93 Try.func93 rfl (by kernel_rfl) (zbb (by kernel_rfl)) ?_
 simp -implicitDefEqProofs only [go_sem, Try.results93]
 refine ⟨fun h1 => ?_, fun h1 => ⟨fun h2 => ?_, fun h2 => ⟨fun h3 => ?_, fun h3 => ?_⟩⟩⟩
 ·rw [zcm.2 (by rintro e; cases e; simp at h1)]
 ·rw [zcm.2 (by rintro e; cases e; simp at h2)]
 ·rw [zcm.2 (by rintro e; cases e; simp at h3)]
 ·refine callF (H) (by simp -implicitDefEqProofs only [go_sem]) ?_
  simp -implicitDefEqProofs only [go_sem]
  refine ⟨fun h4 => ?_, fun h4 => ?_⟩
  ·rw [zcm.2 (by rintro e; cases e; simp [zbi] at h4)]
  ·rw [zcs.2 (by simp [zcs] at h1 h2 h3 h4 ⊢; exact ⟨h1, h2, h3, h4⟩)]
theorem zte (xs : List (List Int)) (l : Int) (h0 : 0 <= l) (h1 : l <= 1048576) : FC Try.prog 30 [.one (zav xs), iD l] [iD (szR (zed xs) l)] := by
 refine zd2 (fun hw => ?_) Try.call30
 have hl : xs.length <= 9223372036854775807 := by simpa [zm1, wfT] using hw.1.1
 refine zay Try.call30 Try.func30 rfl (by kernel_rfl) (zbb (by kernel_rfl)) ?_
 simp -implicitDefEqProofs only [go_sem, Try.results30]
 rw [zam (by omega) (by omega)]
 have hW : zed xs = xs.length + (xs.map List.length).sum := rfl
 refine ⟨fun h => ?_, fun h => ?_⟩
 ·rw [znx (by simp at h; omega)]
 ·have hlen : (xs.length : Int) <= l := by simp at h; omega
  refine zak (fun k : Nat => hd [(0, vT (zav xs)), (1, vI (l - xs.length - zs9 List.length xs k)), (5, vI k)] [] []) (fun k => k <= xs.length /\ 0 <= l - xs.length - zs9 List.length xs k) (fun k => xs.length - k) 0 (zaa ?_) ?_ ?_
  ·simp -implicitDefEqProofs only [go_sem]
   simp [zld]
  ·simpa [zld] using hlen
  ·intro k ⟨hk, hp⟩
   by_cases hlt : k < xs.length
   ·have hs := zua List.length xs k hlt
    have hs2 := qet List.length xs (k + 1)
    simp -implicitDefEqProofs only [go_sem, List.length_map, zag, hlt]
    refine callF (zzp xs[k] (l - xs.length - zs9 List.length xs k) hp (by omega)) (by simp -implicitDefEqProofs only [go_sem]) ?_
    simp -implicitDefEqProofs only [go_sem]
    refine ⟨fun h => ?_, fun h => ?_⟩
    ·have := qg4 hp (by simpa using h)
     rw [znx (by omega)]
    ·obtain ⟨h2, h3⟩ := zvl (by simpa using h)
     rw [zaw (by omega)]
     exact ⟨k + 1, ⟨hlt, by omega⟩, by omega, zaa (by simp -implicitDefEqProofs only [go_sem]; rw [h3]; congr 1; omega)⟩
   ·simp -implicitDefEqProofs only [go_sem, List.length_map, hlt]
    have hall := qa3 List.length xs k (by omega)
    rw [hall, qd7 (by omega)]; congr 1; omega
set_option maxHeartbeats 400000 in
theorem zvk (xs : List (List Int)) (hs : zed xs <= 1048576) : FC Try.prog 33 [.one (zav xs)] [.one (zav xs)] := by
 have hW : zed xs = xs.length + (xs.map List.length).sum := rfl
 refine zay Try.call33 Try.func33 rfl (by kernel_rfl) (zbb (by kernel_rfl)) ?_
 simp -implicitDefEqProofs only [go_sem, Try.results33]
 refine qcm (by simp -implicitDefEqProofs only [go_sem]; omega) ?_
 simp -implicitDefEqProofs only [go_sem]
 refine zak (fun k : Nat => hd [(0, vT (zav xs)), (3, .one (.ow 224 0)), (4, vI k)] [] [(224, ⟨true, 1, (xs.take k).map (fun s => [zas s]) ++ List.replicate (xs.length - k) [T.sl 1 []], 0, true⟩)]) (fun k => k <= xs.length) (fun k => xs.length - k) 0 (zaa ?_) (Nat.zero_le _) ?_
 ·simp -implicitDefEqProofs only [go_sem]
  simp
 ·intro k hk
  by_cases hlt : k < xs.length
  ·have hlen : ((xs.take k).map (fun s => [zas s]) ++ List.replicate (xs.length - k) [T.sl 1 []]).length = xs.length := by simp; omega
   have hlt2 : k < k + (xs.length - k) := by omega
   have hmw := qe1 List.length xs xs[k] (List.getElem_mem hlt)
   simp -implicitDefEqProofs only [go_sem, List.length_map, zag, hlt]
   refine callF (qbu xs[k] (by omega)) (by simp -implicitDefEqProofs only [go_sem, hlen, hlt, List.length_append, List.length_map, List.length_take, List.length_replicate, Nat.min_eq_left hk, hlt2]) ?_
   simp -implicitDefEqProofs only [go_sem, hlen, hlt, List.length_append, List.length_map, List.length_take, List.length_replicate, Nat.min_eq_left hk, hlt2]
   refine zeu (by simp -implicitDefEqProofs only [go_sem]; simp) ?_
   simp -implicitDefEqProofs only [go_sem]
   rw [zaw (by omega)]
   refine ⟨k + 1, by omega, by omega, zaa ?_⟩
   simp -implicitDefEqProofs only [go_sem]
   have hf := zl5 ((xs.take k).map (fun s => [zas s])) xs.length k [T.sl 1 []] [zas xs[k]] (by simp; omega) hlt (by simp)
   rw [hf, List.take_succ_eq_append_getElem hlt, List.map_append, List.map_singleton]
  ·simp -implicitDefEqProofs only [go_sem, List.length_map, hlt]
   simp [List.take_of_length_le (show xs.length <= k by omega), show xs.length - k = 0 by omega]
theorem zyj (xs ys : List (List Int)) : FC Try.prog 36 [.one (zav xs), .one (zav ys)] [bD (same xs ys)] := by
 refine zd2 (fun hw => ?_) Try.call36
 have hl : xs.length <= 9223372036854775807 := by simpa [zm1, wfT] using hw.1.1
 by_cases hne : xs.length = ys.length
 ·have hni : ((xs.length : Int) != (ys.length : Int)) = false := by rw [hne]; simp
  refine zay Try.call36 Try.func36 rfl (by kernel_rfl) (zbb (by kernel_rfl)) ?_
  simp -implicitDefEqProofs only [go_sem, Try.results36, hni]
  refine zak (fun k : Nat => hd [(0, vT (zav xs)), (1, vT (zav ys)), (5, vI k)] [] []) (fun k => k <= xs.length /\ same xs ys = same (xs.drop k) (ys.drop k)) (fun k => xs.length - k) 0 (zaa ?_) ?_ ?_
  ·simp -implicitDefEqProofs only [go_sem]
  ·simp
  ·intro k ⟨hk, hr⟩
   by_cases hlt : k < xs.length
   ·have hlt2 : k < ys.length := by omega
    have hwk : IntKind.i64.wrap ((k : Int) + 1) = ((k + 1 : Nat) : Int) := zaw (by omega)
    have HE := zqb xs[k] ys[k]
    rw [List.drop_eq_getElem_cons hlt, List.drop_eq_getElem_cons hlt2, zdc] at hr
    simp -implicitDefEqProofs only [go_sem, hlt]
    refine drawn (by kernel_rfl) ?_
    simp -implicitDefEqProofs only [go_sem, zag, hlt, hlt2]
    refine zfi (HE) (by simp -implicitDefEqProofs only [go_sem]) ?_
    simp -implicitDefEqProofs only [go_sem]
    refine ⟨by kernel_rfl, ?_⟩
    rw [hwk]
    refine ⟨fun h => ?_, fun h => ⟨k + 1, ⟨hlt, ?_⟩, by omega, zaa (by simp -implicitDefEqProofs only [go_sem])⟩⟩
    ·rw [hr, show same xs[k] ys[k] = false by simpa using h, Bool.false_and]
    ·rw [hr, show same xs[k] ys[k] = true by simpa using h, Bool.true_and]
   ·simp -implicitDefEqProofs only [go_sem, hlt]
    rw [hr, List.drop_of_length_le (by omega), List.drop_of_length_le (by omega), zbi]
 ·have hni : ((xs.length : Int) != (ys.length : Int)) = true := by simp; omega
  refine zay Try.call36 Try.func36 rfl (by kernel_rfl) (zbb (by kernel_rfl)) ?_
  simp -implicitDefEqProofs only [go_sem, Try.results36, hni]
  rw [zcm.2 (fun e => hne (by rw [e]))]
theorem zjn (xs ys : List Ps) : FC Try.prog 37 [.one (psS xs), .one (psS ys)] [bD (same xs ys)] := by
 refine zd2 (fun hw => ?_) Try.call37
 have hl : xs.length <= 9223372036854775807 := by simpa [zm1, wfT] using hw.1.1
 by_cases hne : xs.length = ys.length
 ·have hni : ((xs.length : Int) != (ys.length : Int)) = false := by rw [hne]; simp
  refine zay Try.call37 Try.func37 rfl (by kernel_rfl) (zbb (by kernel_rfl)) ?_
  simp -implicitDefEqProofs only [go_sem, Try.results37, hni]
  refine zak (fun k : Nat => hd [(0, vT (psS xs)), (1, vT (psS ys)), (5, vI k)] [] []) (fun k => k <= xs.length /\ same xs ys = same (xs.drop k) (ys.drop k)) (fun k => xs.length - k) 0 (zaa ?_) ?_ ?_
  ·simp -implicitDefEqProofs only [go_sem]
  ·simp
  ·intro k ⟨hk, hr⟩
   by_cases hlt : k < xs.length
   ·have hlt2 : k < ys.length := by omega
    have hwk : IntKind.i64.wrap ((k : Int) + 1) = ((k + 1 : Nat) : Int) := zaw (by omega)
    have HE := zmq xs[k] ys[k]
    rw [List.drop_eq_getElem_cons hlt, List.drop_eq_getElem_cons hlt2, zdc] at hr
    simp -implicitDefEqProofs only [go_sem, hlt]
    refine drawn (by kernel_rfl) ?_
    simp -implicitDefEqProofs only [go_sem, zag, hlt, hlt2, zcz]
    refine zfi (HE) (by simp -implicitDefEqProofs only [go_sem, zcz]) ?_
    simp -implicitDefEqProofs only [go_sem, zcz]
    refine ⟨by kernel_rfl, ?_⟩
    rw [hwk]
    refine ⟨fun h => ?_, fun h => ⟨k + 1, ⟨hlt, ?_⟩, by omega, zaa (by simp -implicitDefEqProofs only [go_sem])⟩⟩
    ·rw [hr, show same xs[k] ys[k] = false by simpa using h, Bool.false_and]
    ·rw [hr, show same xs[k] ys[k] = true by simpa using h, Bool.true_and]
   ·simp -implicitDefEqProofs only [go_sem, hlt]
    rw [hr, List.drop_of_length_le (by omega), List.drop_of_length_le (by omega), zbi]
 ·have hni : ((xs.length : Int) != (ys.length : Int)) = true := by simp; omega
  refine zay Try.call37 Try.func37 rfl (by kernel_rfl) (zbb (by kernel_rfl)) ?_
  simp -implicitDefEqProofs only [go_sem, Try.results37, hni]
  rw [zcm.2 (fun e => hne (by rw [e]))]
end Go.Proofs.Yteeaofpphmhjdaa
namespace Go.Proofs.Yteeaofpphmhjdaa
set_option linter.unusedSimpArgs false
set_option linter.unusedVariables false
set_option linter.unusedSectionVars false
set_option maxRecDepth 4000
open Go.RowKit
section
variable {P : Program}
theorem ct0_A {n0 : Nat -> Prop} {N : Nat} {σ : St} {g : Gh} {a : Act} {w : World} (hR : Rel n0 N σ g a w) {c : C} {t : T} (h : CT0 σ c t) {v : Value} (hv : CR σ g w c v) : zaf w (fun b => b < w.heap.size /\ g.A0 b) t v := by
 have hF : ∀ b, Fix σ g w b -> b < w.heap.size /\ g.A0 b := fun b hb => ⟨hb.2.2.1, hb.2.2.2⟩
 have hFr : ∀ b, zby σ g w b -> b < w.heap.size /\ g.A0 b := fun b hb => hF b hb.1
 cases c with
 | t x =>
  have h : x = t := h
  subst h
  exact zaf.keep (fun _ _ => rfl) hF x v hv
 | rn x =>
  have h : x = t := h
  subst h
  exact zaf.keep (fun _ _ => rfl) hFr x v hv
 | nl s =>
  cases t with
  | sl sz rows =>
   have h : rows = [] := h
   subst h
   have hv : v = .slice none 0 0 := hv
   subst hv
   unfold zaf
   exact ⟨none, 0, rfl, Nat.le_refl _, by simp, Or.inl rfl⟩
  | _ => exact h.elim
 | ow e n =>
  cases t with
  | sl sz rows =>
   obtain ⟨d, o, he⟩ := h
   obtain ⟨rfl, -⟩ := hv
   cases o
   ·exact zaf.keep (fun _ _ => rfl) hF _ _ (hR.offs e _ he rfl).1
   ·have hOn : σ.On e := ⟨_, he, rfl⟩
    have hlt : ∀ b ∈ g.φ e, b < w.heap.size := (hR.evs e _ he rfl).lt
    obtain ⟨ao, cap, e1, e2, e3, e4⟩ := hR.evs e _ he rfl
    unfold zaf
    refine ⟨ao, cap, e1, e2, e3, ?_⟩
    rcases e4 with ⟨_, _, e4, _⟩ | ⟨b, cells, ty, fps, k1, k2, k3, k4, k5⟩
    ·exact Or.inl e4
    ·have hA : ∀ b' ∈ g.φ e, b' < w.heap.size /\ g.A0 b' := fun b' hb' => ⟨hlt b' hb', (hR.ebase e hOn b' hb').1⟩
     refine Or.inr ⟨b, 0, k1, hA b (by rw [k2]; simp), ?_⟩
     split at k5
     ·exact zae.rep b cells ty k3 0 sz rows fps k5 fun b' hb' => hA b' (by rw [k2]; simp [hb'])
     ·exact zah.keep (fun _ _ => rfl) hF b rfl 0 sz rows k5.2
  | _ => exact h.elim
 | el cs o =>
  cases t with
  | ptr cs' =>
   obtain ⟨rfl, rfl⟩ := h
   obtain ⟨b, q, h1, h2, h3⟩ := hv
   unfold zaf
   exact ⟨b, q, h1, hF b h2, zat.keep (fun _ _ => rfl) hF b rfl q cs h3⟩
  | _ => exact h.elim
 | er cs o =>
  cases t with
  | ptr cs' =>
   obtain ⟨rfl, rfl⟩ := h
   obtain ⟨b, q, h1, h2, h3⟩ := hv
   unfold zaf
   exact ⟨b, q, h1, hFr b h2, zat.keep (fun _ _ => rfl) hFr b rfl q cs h3⟩
  | _ => exact h.elim
 | _ => cases t <;> exact h.elim
theorem qeb {n0 : Nat -> Prop} {N : Nat} {σ : St} {g : Gh} {a : Act} {w : World} (hR : Rel n0 N σ g a w) : ∀ {cs : List C} {ts : List T}, zk8 σ cs ts -> ∀ {vs : List Value}, CRs σ g w cs vs -> zab w (fun b => b < w.heap.size /\ g.A0 b) ts vs
 | [], ts, h, vs, hv => by rw [show ts = [] from h]; unfold zab; exact hv
 | c :: cs, ts, h, vs, hv => by
  obtain ⟨t, ts', rfl, h1, h2⟩ := h
  obtain ⟨v, vs', rfl, k1, k2⟩ := hv
  unfold zab
  exact ⟨v, vs', rfl, ct0_A hR h1 k1, qeb hR h2 k2⟩
def RVe (σ : St) : List V -> List D -> Prop
 | [], [] => True
 | .one c :: vs, .one t :: ds => CT0 σ c t /\ RVe σ vs ds
 | .agg cs :: vs, .agg ts :: ds => zk8 σ cs ts /\ RVe σ vs ds
 | _, _ => False
theorem RVe.rep {n0 : Nat -> Prop} {N : Nat} {σ : St} {g : Gh} {a : Act} {w : World} (hR : Rel n0 N σ g a w) : ∀ {vs : List V} {ds : List D}, RVe σ vs ds -> ∀ {us : List Value}, VRl σ g w vs us -> zbc w (fun b => b < w.heap.size /\ g.A0 b) ds us
 | [], [], _, us, hv => hv
 | .one c :: vs, .one t :: ds, h, us, hv => by
  obtain ⟨u, us', rfl, k1, k2⟩ := hv
  exact ⟨u, us', rfl, ct0_A hR h.1 k1, RVe.rep hR h.2 k2⟩
 | .agg cs :: vs, .agg ts :: ds, h, us, hv => by
  obtain ⟨u, us', rfl, ⟨q, rfl, k1⟩, k2⟩ := hv
  exact ⟨_, us', rfl, ⟨q, rfl, qeb hR h.1 k1⟩, RVe.rep hR h.2 k2⟩
 | [], _ :: _, h, _, _ => h.elim
 | .one _ :: _, [], h, _, _ => h.elim
 | .one _ :: _, .agg _ :: _, h, _, _ => h.elim
 | .agg _ :: _, [], h, _, _ => h.elim
 | .agg _ :: _, .one _ :: _, h, _, _ => h.elim
 | .tup _ :: _, [], h, _, _ => h.elim
 | .tup _ :: _, _ :: _, h, _, _ => h.elim
def PRe (P : Program) (rs : List ResultVar) (res : List D) (e : Exit) (σ : St) : Prop := match e with
 | .normal => zal (zbf P σ rs) fun vs => RVe σ vs res
 | .ret => zal (zbf P σ rs) fun vs => RVe σ vs res
 | _ => False
theorem zl0 {f : FuncId} {fn : Func} {c : Code} {args res : List D} (hc : zaz P f) (hf : P.funcs[f]? = some fn) (hb : fn.body = some c) (hd : za6 fn.ntmps c = true) (hN : (rd args).length <= fn.ntmps)
  (h : ex P c [] (PRe P fn.results.toList res) (zd3 (rd args))) : RC P f args res := by
 refine ⟨hc, fun w vs A hv => ?_⟩
 refine calls_of_wp hf hb ?_
 have hg : ∀ (ds : List D) (vs : List Value), zbc w (fun b => b < w.heap.size /\ A b) ds vs -> zao w (fun b => b < w.heap.size /\ A b /\ b ∉ ([] : List Nat)) (rd ds) vs [] [] := by
  intro ds
  induction ds with
  | nil => intro vs h; exact ⟨h, rfl, rfl⟩
  | cons d ds ih =>
   rintro vs ⟨v, vs', rfl, h1, h2⟩
   refine ⟨v, vs', rfl, ?_, ih _ h2⟩
   cases d with
   | one t => exact zaf.keep (fun _ _ => rfl) (fun b hb => ⟨hb.1, hb.2, by simp⟩) t _ h1
   | agg ts => obtain ⟨a, h0, h1⟩ := h1; exact ⟨a, h0, zab.keep (fun _ _ => rfl) (fun b hb => ⟨hb.1, hb.2, by simp⟩) ts a h1⟩
 obtain ⟨g, hg, hR⟩ := Rel.start (A := A) (A0 := fun b => A b \/ w.heap.size <= b) (R0 := RP.of fun _ => True) (N := fn.ntmps) (hg _ _ hv) List.nodup_nil (zci args) hN (fun _ hb => Or.inl hb) (fun b hb => by simp at hb) (fun b hb => ⟨Or.inr (by
  refine Nat.le_of_not_lt fun hlt => hb ⟨hlt, by simp⟩), trivial⟩)
 refine wp_mono (za7 (w0 := w) c (zd3 (rd args)) _ hd h g _ w hR (fun k hk => hk.1) (Bk.refl _ _) hg) fun e a' w' hq => ?_
 obtain ⟨σ', g', h1, h2, h3, h4, h5⟩ := hq
 have key : zal (zbf P σ' fn.results.toList) (fun vs => RVe σ' vs res) -> ∃ v, (results fn a'.tmps).run P w' = .ok v w' /\ ∃ us, Ending.returned v = .returned (zbd us) /\ zbc w' (fun b => b < w'.heap.size /\ (A b \/ w.heap.size <= b)) res us /\ Below w.heap.size w w' := fun hk => by
  unfold zal at hk
  split at hk
  ·rename_i vs hvs
   obtain ⟨us, r1, r2⟩ := zba h2 fn hvs
   refine ⟨_, r1, us, rfl, (RVe.rep h2 hk r2).keep (fun _ _ => rfl) fun b hb => ⟨hb.1, ?_⟩, h4.os, h4.tape, h4.output, h4.size, fun k hk => h4.block k ⟨hk, by simp⟩⟩
   have := hb.2
   simp only [Prod.mk.injEq] at h5
   rw [h5.1] at this
   exact this
  ·exact hk.elim
 cases e with
 | normal => exact ⟨h2.defers, key h1⟩
 | ret => exact ⟨h2.defers, key h1⟩
 | exit _ => exact h1.elim
 | goto _ => exact h1.elim
 | panic _ => exact h1.elim
 | outgrown => exact h1.elim
attribute [go_sem] PRe RVe
end
end Go.Proofs.Yteeaofpphmhjdaa
namespace Go.Proofs.Yteeaofpphmhjdaa
set_option linter.unusedSimpArgs false
set_option linter.unusedVariables false
set_option linter.unusedSectionVars false
set_option maxRecDepth 4000
open Go.RowKit
theorem l1Same_c (xs ys : List Int) : FC Try.prog 116 [.one (zas xs), .one (zas ys)] [bD (same xs ys)] := by
 refine zd2 (fun hw => ?_) Try.call116
 have hl : xs.length <= 9223372036854775807 := by have := hw.1.1; simpa using this
 by_cases hne : xs.length = ys.length
 ·have hni : ((xs.length : Int) != (ys.length : Int)) = false := by rw [hne]; simp
  refine zay Try.call116 Try.func116 rfl (by kernel_rfl) (zbb (by kernel_rfl)) ?_
  simp -implicitDefEqProofs only [go_sem, Try.results116, hni]
  refine zak (fun k : Nat => hd [(0, vT (zas xs)), (1, vT (zas ys)), (5, vI k)] [] []) (fun k => k <= xs.length /\ same xs ys = same (xs.drop k) (ys.drop k)) (fun k => xs.length - k) 0 (zaa ?_) ?_ ?_
  ·simp -implicitDefEqProofs only [go_sem]
  ·simp
  ·intro k ⟨hk, hr⟩
   by_cases hlt : k < xs.length
   ·have hlt2 : k < ys.length := by omega
    have hwk : IntKind.i64.wrap ((k : Int) + 1) = ((k + 1 : Nat) : Int) := zaw (by omega)
    rw [List.drop_eq_getElem_cons hlt, List.drop_eq_getElem_cons hlt2, zdc] at hr
    simp -implicitDefEqProofs only [go_sem, hlt]
    refine drawn (by kernel_rfl) ?_
    simp -implicitDefEqProofs only [go_sem, zag, hlt, hlt2]
    refine ⟨by kernel_rfl, ?_⟩
    rw [hwk]
    refine ⟨fun h => ?_, fun h => ⟨k + 1, ⟨hlt, ?_⟩, by omega, zaa (by simp -implicitDefEqProofs only [go_sem])⟩⟩
    ·rw [hr, zcm.2 (by simpa using h), Bool.false_and]
    ·rw [hr, zcs.2 (by simpa using h), Bool.true_and]
   ·simp -implicitDefEqProofs only [go_sem, hlt]
    rw [hr, List.drop_of_length_le (by omega), List.drop_of_length_le (by omega), zbi]
 ·have hni : ((xs.length : Int) != (ys.length : Int)) = true := by simp; omega
  refine zay Try.call116 Try.func116 rfl (by kernel_rfl) (zbb (by kernel_rfl)) ?_
  simp -implicitDefEqProofs only [go_sem, Try.results116, hni]
  rw [zcm.2 (fun e => hne (by rw [e]))]
theorem qan (xs ys : List Int) : FC Try.prog 83 [.one (zas xs), .one (zas ys)] [bD (same xs ys)] := by
 refine zd2 (fun hw => ?_) Try.call83
 have hl : xs.length <= 9223372036854775807 := by have := hw.1.1; simpa using this
 by_cases hne : xs.length = ys.length
 ·have hni : ((xs.length : Int) != (ys.length : Int)) = false := by rw [hne]; simp
  refine zay Try.call83 Try.func83 rfl (by kernel_rfl) (zbb (by kernel_rfl)) ?_
  simp -implicitDefEqProofs only [go_sem, Try.results83, hni]
  refine zak (fun k : Nat => hd [(0, vT (zas xs)), (1, vT (zas ys)), (12, vI xs.length), (13, vI k)] [] []) (fun k => k <= xs.length /\ same xs ys = same (xs.drop k) (ys.drop k)) (fun k => xs.length - k) 0 (zaa ?_) ?_ ?_
  ·simp -implicitDefEqProofs only [go_sem]
  ·simp
  ·intro k ⟨hk, hr⟩
   by_cases hlt : k < xs.length
   ·have hlt2 : k < ys.length := by omega
    have hwk : IntKind.i64.wrap ((k : Int) + 1) = ((k + 1 : Nat) : Int) := zaw (by omega)
    rw [List.drop_eq_getElem_cons hlt, List.drop_eq_getElem_cons hlt2, zdc] at hr
    simp -implicitDefEqProofs only [go_sem, hlt]
    refine drawn (by kernel_rfl) ?_
    simp -implicitDefEqProofs only [go_sem, zag, hlt, hlt2]
    refine ⟨by kernel_rfl, ?_⟩
    rw [hwk]
    refine ⟨fun h => ?_, fun h => ⟨k + 1, ⟨hlt, ?_⟩, by omega, zaa (by simp -implicitDefEqProofs only [go_sem])⟩⟩
    ·rw [hr, zcm.2 (by simpa using h), Bool.false_and]
    ·rw [hr, zcs.2 (by simpa using h), Bool.true_and]
   ·simp -implicitDefEqProofs only [go_sem, hlt]
    rw [hr, List.drop_of_length_le (by omega), List.drop_of_length_le (by omega), zbi]
 ·have hni : ((xs.length : Int) != (ys.length : Int)) = true := by simp; omega
  refine zay Try.call83 Try.func83 rfl (by kernel_rfl) (zbb (by kernel_rfl)) ?_
  simp -implicitDefEqProofs only [go_sem, Try.results83, hni]
  rw [zcm.2 (fun e => hne (by rw [e]))]
def clI (S : List (List Int)) (st : List Ps) (i : Int) : List Int × Bool := if (inB i 0 (S.length - 1) || inB i S.length (S.length + st.length - 1)) = true then (clA S st i, true) else ([], false)
theorem qdr {S : List (List Int)} {st : List Ps} {i : Int} : (clI S st i).2 = (decide (0 <= i) && decide (i < (S.length : Int) + st.length)) := by
 unfold clI inB
 by_cases h : 0 <= i /\ i < (S.length : Int) + st.length
 ·rw [if_pos, show decide (0 <= i) = true by simpa using h.1, show decide (i < (S.length : Int) + st.length) = true by simpa using h.2]; · rfl
  simp only [Bool.or_eq_true, Bool.and_eq_true, decide_eq_true_eq]
  omega
 ·rw [if_neg]
  ·symm
   rw [Bool.and_eq_false_iff, decide_eq_false_iff_not, decide_eq_false_iff_not]
   omega
  ·simp only [Bool.or_eq_true, Bool.and_eq_true, decide_eq_true_eq]
   omega
theorem ziy (S : List (List Int)) (st : List Ps) (i : Int) (hS : S.length <= 1048576) (hst : st.length <= 1048576) : RC Try.prog 81 [.one (zav S), .one (psS st), iD i] [.one (zas (clI S st i).1), bD (clI S st i).2] := by
 have H1 := zfa i 0 ((S.length : Int) - 1)
 have H2 := zfa i S.length ((S.length : Int) + st.length - 1)
 have w1 : IntKind.i64.wrap ((S.length : Int) - 1) = (S.length : Int) - 1 := zam (by omega) (by omega)
 have w2 : IntKind.i64.wrap (IntKind.i64.wrap ((S.length : Int) + (st.length : Int)) - 1) = (S.length : Int) + st.length - 1 := by rw [zam (n := (S.length : Int) + (st.length : Int)) (by omega) (by omega), zam (by omega) (by omega)]
 unfold clI
 cases h1 : inB i 0 ((S.length : Int) - 1)
 ·rw [h1] at H1
  cases h2 : inB i S.length ((S.length : Int) + st.length - 1)
  ·rw [h2] at H2
   rw [Bool.or_self, if_neg (by simp)]
   refine zl0 Try.call81 Try.func81 rfl (by kernel_rfl) (zbb (by kernel_rfl)) ?_
   simp -implicitDefEqProofs only [go_sem, Try.results81]
   rw [w1]
   refine callF (H1) (by simp -implicitDefEqProofs only [go_sem]) ?_
   simp -implicitDefEqProofs only [go_sem]
   rw [w2]
   refine callF (H2) (by simp -implicitDefEqProofs only [go_sem]) ?_
   simp -implicitDefEqProofs only [go_sem]
  ·rw [h2] at H2
   rw [Bool.or_true, if_pos rfl]
   unfold inB at h1 h2
   simp at h1 h2
   obtain ⟨q, hq⟩ : ∃ q : Nat, i = (S.length : Int) + q := ⟨(i - S.length).toNat, by omega⟩
   have hql : q < st.length := by omega
   have w3 : IntKind.i64.wrap (i - (S.length : Int)) = (q : Int) := by rw [zam (by omega) (by omega)]; omega
   have e : clA S st i = st[q].c := by
    unfold clA
    rw [if_neg (by omega), show i.toNat - S.length = q by omega, List.getD_eq_getElem?_getD, List.getElem?_eq_getElem hql]; rfl
   rw [e]
   refine zl0 Try.call81 Try.func81 rfl (by kernel_rfl) (zbb (by kernel_rfl)) ?_
   simp -implicitDefEqProofs only [go_sem, Try.results81]
   rw [w1]
   refine callF (H1) (by simp -implicitDefEqProofs only [go_sem]) ?_
   simp -implicitDefEqProofs only [go_sem]
   rw [w2]
   refine callF (H2) (by simp -implicitDefEqProofs only [go_sem]) ?_
   simp -implicitDefEqProofs only [go_sem]
   rw [w3]
   simp -implicitDefEqProofs only [go_sem, hql, zag, zcz]
 ·rw [h1] at H1
  rw [Bool.true_or, if_pos rfl]
  unfold inB at h1
  simp at h1
  obtain ⟨q, hq⟩ : ∃ q : Nat, i = (q : Int) := ⟨i.toNat, by omega⟩
  subst hq
  have hql : q < S.length := by omega
  have e : clA S st q = S[q] := by
   unfold clA
   rw [if_pos (by omega), Int.toNat_natCast, List.getD_eq_getElem?_getD, List.getElem?_eq_getElem hql]; rfl
  rw [e]
  refine zl0 Try.call81 Try.func81 rfl (by kernel_rfl) (zbb (by kernel_rfl)) ?_
  simp -implicitDefEqProofs only [go_sem, Try.results81]
  rw [w1]
  refine callF (H1) (by simp -implicitDefEqProofs only [go_sem, hql, zag]) ?_
  simp -implicitDefEqProofs only [go_sem, hql, zag]
end Go.Proofs.Yteeaofpphmhjdaa
namespace Go.Proofs.Yteeaofpphmhjdaa
set_option linter.unusedSimpArgs false
set_option linter.unusedVariables false
set_option linter.unusedSectionVars false
set_option maxRecDepth 4000
open Go.RowKit
def zzk (S : List (List Int)) (st : List Ps) : Bool := zgw S && inB st.length 1 200
theorem qcp {S : List (List Int)} {st : List Ps} (hS : ∀ c ∈ S, pcl c = true) {k : Nat} (hk : k < st.length) (hp : ∀ j < k, zbe S st j = true) :
  zbe S st k = ((clI S (st.take k) st[k].l).2 && (clI S (st.take k) st[k].r).2 && ((rsO (clI S (st.take k) st[k].l).1 (clI S (st.take k) st[k].r).1 st[k].p).2 && same (rsO (clI S (st.take k) st[k].l).1 (clI S (st.take k) st[k].r).1 st[k].p).1 st[k].c)) := by
 have hg : st.getD k ps0 = st[k] := by rw [List.getD_eq_getElem?_getD, List.getElem?_eq_getElem hk]; rfl
 have hl : (st.take k).length = k := by rw [List.length_take]; omega
 have hcl : ∀ i : Int, (clI S (st.take k) i).2 = true -> 0 <= i /\ i < S.length + k /\ (clI S (st.take k) i).1 = clA S st i := fun i h => by
  have h2 := h
  rw [qdr, Bool.and_eq_true, decide_eq_true_eq, decide_eq_true_eq, hl] at h2
  refine ⟨h2.1, h2.2, ?_⟩
  have e : clA S (st.take k) i = clA S st i := by
   conv => rhs; rw [<- List.take_append_drop k st]
   rw [zbr (by rw [hl]; exact h2.2)]
  rw [<- e]
  unfold clI at h ⊢
  split
  ·rfl
  next hn => rw [if_neg hn] at h; cases h
 have hno : ∀ i : Int, (clI S (st.take k) i).2 = false -> ¬ (0 <= i /\ i < S.length + k) := fun i h => by
  rw [qdr, Bool.and_eq_false_iff, decide_eq_false_iff_not, decide_eq_false_iff_not, hl] at h
  omega
 cases h1 : (clI S (st.take k) st[k].l).2
 ·rw [Bool.false_and, Bool.false_and, <- Bool.not_eq_true, zbn, hg]
  exact fun h => hno _ h1 ⟨h.1.1, h.1.2⟩
 ·cases h2 : (clI S (st.take k) st[k].r).2
  ·rw [Bool.and_false, Bool.false_and, <- Bool.not_eq_true, zbn, hg]
   exact fun h => hno _ h2 ⟨h.2.1.1, h.2.1.2⟩
  ·obtain ⟨a1, a2, a3⟩ := hcl _ h1
   obtain ⟨b1, b2, b3⟩ := hcl _ h2
   rw [Bool.true_and, Bool.true_and, a3, b3]
   have pa := zk4 hS hp a1 a2
   have pb := zk4 hS hp b1 b2
   rw [Bool.eq_iff_iff, zbn, hg, Bool.and_eq_true, zcs]
   unfold rsO
   rw [pa, pb, Bool.true_and, Bool.true_and]
   cases h3 : inB st[k].p 1 12
   ·unfold inB at h3
    rw [Bool.and_eq_false_iff, decide_eq_false_iff_not, decide_eq_false_iff_not] at h3
    rw [if_neg (by simp)]
    constructor
    ·rintro ⟨_, _, h, _⟩; exact absurd h (by omega)
    ·rintro ⟨h, _⟩; cases h
   ·unfold inB at h3
    rw [Bool.and_eq_true, decide_eq_true_eq, decide_eq_true_eq] at h3
    rw [if_pos rfl]
    exact ⟨fun h => h.2.2.2, fun h => ⟨⟨a1, a2⟩, ⟨b1, b2⟩, h3, h⟩⟩
theorem zva {S : List (List Int)} {st : List Ps} (hS : ∀ c ∈ S, c.length <= 1048576) (hst : ∀ s ∈ st, s.c.length <= 1048576) (i : Int) : (clI S st i).1.length <= 1048576 := by
 unfold clI
 split
 ·unfold clA
  split
  ·rw [List.getD_eq_getElem?_getD]
   cases h : S[i.toNat]? with
   | none => simp
   | some c => exact hS c (List.mem_of_getElem? h)
  ·rw [List.getD_eq_getElem?_getD]
   cases h : st[i.toNat - S.length]? with
   | none => simp [ps0]
   | some c => exact hst c (List.mem_of_getElem? h)
 ·simp
set_option maxHeartbeats 2000000 in
theorem zce (S : List (List Int)) (st : List Ps) (hSl : S.length <= 1048576) (hst : st.length <= 1048576) (hSc : ∀ c ∈ S, c.length <= 1048576) (hsc : ∀ s ∈ st, s.c.length <= 1048576) : FC Try.prog 27 [.one (zav S), .one (psS st)] [iD (if zzk S st = true then chk S st else 0), bD (zzk S st)] := by
 have H1 := zdx S
 have H2 := zfa st.length 1 200
 unfold zzk
 cases h1 : zgw S
 ·rw [h1] at H1
  rw [Bool.false_and, if_neg (by simp)]
  refine zay Try.call27 Try.func27 rfl (by kernel_rfl) (zbb (by kernel_rfl)) ?_
  simp -implicitDefEqProofs only [go_sem, Try.results27]
  refine callF (H1) (by simp -implicitDefEqProofs only [go_sem]) ?_
  simp -implicitDefEqProofs only [go_sem]
 ·rw [h1] at H1
  cases h2 : inB st.length 1 200
  ·rw [h2] at H2
   rw [Bool.and_false, if_neg (by simp)]
   refine zay Try.call27 Try.func27 rfl (by kernel_rfl) (zbb (by kernel_rfl)) ?_
   simp -implicitDefEqProofs only [go_sem, Try.results27]
   refine callF (H1) (by simp -implicitDefEqProofs only [go_sem]) ?_
   simp -implicitDefEqProofs only [go_sem]
   refine callF (H2) (by simp -implicitDefEqProofs only [go_sem]) ?_
   simp -implicitDefEqProofs only [go_sem]
  ·rw [h2] at H2
   rw [Bool.and_self, if_pos rfl]
   unfold inB at h2
   simp at h2
   have hSp : ∀ c ∈ S, pcl c = true := fun c hc => zb2 h1 hc
   refine zay Try.call27 Try.func27 rfl (by kernel_rfl) (zbb (by kernel_rfl)) ?_
   simp -implicitDefEqProofs only [go_sem, Try.results27]
   refine callF (H1) (by simp -implicitDefEqProofs only [go_sem]) ?_
   simp -implicitDefEqProofs only [go_sem]
   refine callF (H2) (by simp -implicitDefEqProofs only [go_sem]) ?_
   simp -implicitDefEqProofs only [go_sem]
   refine zak (fun k : Nat => hd [(0, vT (zav S)), (1, vT (psS st)), (23, vT (psS st)), (24, vI st.length), (25, vI k)] [] []) (fun k => k <= st.length /\ ∀ j < k, zbe S st j = true) (fun k => st.length - k) 0 (zaa ?_) ?_ ?_
   ·simp -implicitDefEqProofs only [go_sem]
   ·exact ⟨Nat.zero_le _, fun j hj => absurd hj (by omega)⟩
   ·intro k ⟨hk, hp⟩
    by_cases hlt : k < st.length
    ·have hI := qcp hSp hlt hp
     have HA := ziy S (st.take k) st[k].l hSl (by rw [List.length_take]; omega)
     have HB := ziy S (st.take k) st[k].r hSl (by rw [List.length_take]; omega)
     have hla := zva hSc (st := st.take k) (fun s hs => hsc s (List.mem_of_mem_take hs)) st[k].l
     have hlb := zva hSc (st := st.take k) (fun s hs => hsc s (List.mem_of_mem_take hs)) st[k].r
     generalize clI S (st.take k) st[k].l = A at hI HA hla
     generalize clI S (st.take k) st[k].r = B at hI HB hlb
     obtain ⟨a, a2⟩ := A
     obtain ⟨b, b2⟩ := B
     simp only at hI HA HB hla hlb
     have HR := zhk a b st[k].p (by omega)
     have HE := qan (rsO a b st[k].p).1 st[k].c
     generalize rsO a b st[k].p = R at hI HR HE
     obtain ⟨r, r2⟩ := R
     simp only at hI HR HE
     have hwk : IntKind.i64.wrap ((k : Int) + 1) = ((k + 1 : Nat) : Int) := zaw (by omega)
     have hkl : k <= st.length := by omega
     have fin : zbe S st k = false -> chk S st = k := fun h => zwk hlt hp h
     have nxt : zbe S st k = true -> ∀ j < k + 1, zbe S st j = true := fun h j hj => by
      by_cases hjk : j < k
      ·exact hp j hjk
      ·rw [show j = k by omega]; exact h
     cases a2
     ·rw [fin (by rw [hI]; simp)]
      simp -implicitDefEqProofs only [go_sem, hlt, zag, zcz]
      refine drawn (by kernel_rfl) ?_
      simp -implicitDefEqProofs only [go_sem, hkl, <- List.map_take]
      refine zgn HA (by simp -implicitDefEqProofs only [go_sem]) ?_
      simp -implicitDefEqProofs only [go_sem]
      refine ⟨by kernel_rfl, ?_⟩
      refine drawn (by kernel_rfl) ?_
      simp -implicitDefEqProofs only [go_sem, hkl, <- List.map_take]
      refine zgn HB (by simp -implicitDefEqProofs only [go_sem]) ?_
      simp -implicitDefEqProofs only [go_sem]
      kernel_rfl
     ·cases b2
      ·rw [fin (by rw [hI]; simp)]
       simp -implicitDefEqProofs only [go_sem, hlt, zag, zcz]
       refine drawn (by kernel_rfl) ?_
       simp -implicitDefEqProofs only [go_sem, hkl, <- List.map_take]
       refine zgn HA (by simp -implicitDefEqProofs only [go_sem]) ?_
       simp -implicitDefEqProofs only [go_sem]
       refine ⟨by kernel_rfl, ?_⟩
       refine drawn (by kernel_rfl) ?_
       simp -implicitDefEqProofs only [go_sem, hkl, <- List.map_take]
       refine zgn HB (by simp -implicitDefEqProofs only [go_sem]) ?_
       simp -implicitDefEqProofs only [go_sem]
       kernel_rfl
      ·rw [Bool.true_and, Bool.true_and] at hI
       cases r2
       ·rw [fin (by rw [hI]; simp)]
        simp -implicitDefEqProofs only [go_sem, hlt, zag, zcz]
        refine drawn (by kernel_rfl) ?_
        simp -implicitDefEqProofs only [go_sem, hkl, <- List.map_take]
        refine zgn HA (by simp -implicitDefEqProofs only [go_sem]) ?_
        simp -implicitDefEqProofs only [go_sem]
        refine ⟨by kernel_rfl, ?_⟩
        refine drawn (by kernel_rfl) ?_
        simp -implicitDefEqProofs only [go_sem, hkl, <- List.map_take]
        refine zgn HB (by simp -implicitDefEqProofs only [go_sem]) ?_
        simp -implicitDefEqProofs only [go_sem]
        refine ⟨by kernel_rfl, ?_⟩
        refine callF (HR) (by simp -implicitDefEqProofs only [go_sem]) ?_
        simp -implicitDefEqProofs only [go_sem]
       ·rw [Bool.true_and] at hI
        simp -implicitDefEqProofs only [go_sem, hlt, zag, zcz]
        refine drawn (by kernel_rfl) ?_
        simp -implicitDefEqProofs only [go_sem, hkl, <- List.map_take]
        refine zgn HA (by simp -implicitDefEqProofs only [go_sem]) ?_
        simp -implicitDefEqProofs only [go_sem]
        refine ⟨by kernel_rfl, ?_⟩
        refine drawn (by kernel_rfl) ?_
        simp -implicitDefEqProofs only [go_sem, hkl, <- List.map_take]
        refine zgn HB (by simp -implicitDefEqProofs only [go_sem]) ?_
        simp -implicitDefEqProofs only [go_sem]
        refine ⟨by kernel_rfl, ?_⟩
        refine callF (HR) (by simp -implicitDefEqProofs only [go_sem]) ?_
        simp -implicitDefEqProofs only [go_sem]
        refine callF (HE) (by simp -implicitDefEqProofs only [go_sem]) ?_
        simp -implicitDefEqProofs only [go_sem]
        rw [hwk]
        refine ⟨fun h => ?_, fun h => ⟨k + 1, ⟨hlt, nxt (by rw [hI]; simpa using h)⟩, by omega, zaa (by simp -implicitDefEqProofs only [go_sem])⟩⟩
        rw [fin (by rw [hI]; simpa using h)]
    ·have hkn : k = st.length := by omega
     subst hkn
     rw [zjd hp]
     have hpos : st.length - 1 < st.length := by omega
     have hw1 : IntKind.i64.wrap ((st.length : Int) - 1) = ((st.length - 1 : Nat) : Int) := by rw [zam (by omega) (by omega)]; omega
     have hg : st.getD (st.length - 1) ps0 = st[st.length - 1] := by rw [List.getD_eq_getElem?_getD, List.getElem?_eq_getElem hpos]; rfl
     rw [hg]
     simp -implicitDefEqProofs only [go_sem, hlt]
     rw [hw1]
     simp -implicitDefEqProofs only [go_sem, hpos, zag, zcz]
     refine ⟨fun h => ?_, fun h => ?_⟩
     ·rw [if_pos (by simp at h; omega)]
     ·rw [if_neg (by simp at h; rw [h]; simp)]
end Go.Proofs.Yteeaofpphmhjdaa
namespace Go.Proofs.Yteeaofpphmhjdaa
set_option linter.unusedSimpArgs false
set_option linter.unusedVariables false
set_option linter.unusedSectionVars false
set_option maxRecDepth 4000
open Go.RowKit
theorem zkk (S : List (List Int)) (st : List Ps) (i : Int) (hS : S.length <= 1048576) (hst : st.length <= 1048576) (h0 : 0 <= i) (hi : i < (S.length : Int) + st.length) : RC Try.prog 111 [.one (.ptr [zav S, psS st]), iD i] [.one (zas (clA S st i))] := by
 by_cases hlt : i < S.length
 ·obtain ⟨q, hq⟩ : ∃ q : Nat, i = (q : Int) := ⟨i.toNat, by omega⟩
  subst hq
  have hql : q < S.length := by omega
  have e : clA S st q = S[q] := by
   unfold clA
   rw [if_pos (by omega), Int.toNat_natCast, List.getD_eq_getElem?_getD, List.getElem?_eq_getElem hql]; rfl
  rw [e]
  refine zl0 Try.call111 Try.func111 rfl (by kernel_rfl) (zbb (by kernel_rfl)) ?_
  simp -implicitDefEqProofs only [go_sem, Try.results111, hql, zag]
 ·obtain ⟨q, hq⟩ : ∃ q : Nat, i = (S.length : Int) + q := ⟨(i - S.length).toNat, by omega⟩
  have hql : q < st.length := by omega
  have w3 : IntKind.i64.wrap (i - (S.length : Int)) = (q : Int) := by rw [zam (by omega) (by omega)]; omega
  have e : clA S st i = st[q].c := by
   unfold clA
   rw [if_neg (by omega), show i.toNat - S.length = q by omega, List.getD_eq_getElem?_getD, List.getElem?_eq_getElem hql]; rfl
  have hli : (i < (S.length : Int)) = False := by simpa using hlt
  rw [e]
  refine zl0 Try.call111 Try.func111 rfl (by kernel_rfl) (zbb (by kernel_rfl)) ?_
  simp -implicitDefEqProofs only [go_sem, Try.results111, hli]
  refine drawn (by kernel_rfl) ?_
  simp -implicitDefEqProofs only [go_sem]
  rw [w3]
  simp -implicitDefEqProofs only [go_sem, hql, zag, zcz]
  kernel_rfl
end Go.Proofs.Yteeaofpphmhjdaa
namespace Go.Proofs.Yteeaofpphmhjdaa
set_option linter.unusedSimpArgs false
set_option linter.unusedVariables false
set_option linter.unusedSectionVars false
set_option maxRecDepth 4000
open Go.RowKit
abbrev bolS (xs : List Bool) : T := .sl 1 (xs.map fun b => [T.bool b])
theorem zxb (xs : List Bool) (i : Nat) (v : Bool) (hi : i < xs.length) : zcq (xs.map fun s => [T.bool s]) i 0 [.bool v] = (xs.set i v).map fun s => [T.bool s] := by
 unfold zcq
 rw [List.getD_eq_getElem?_getD, List.getElem?_eq_getElem (by simpa using hi), List.map_set]
 simp [setR]
def ndK (n : Nat) (st : List Ps) : Nat -> List Bool
 | 0 => nd0 n st.length
 | k + 1 => zo6 n (st.getD (st.length - 1 - k) ps0) (st.length - 1 - k) (ndK n st k)
theorem zxp (n : Nat) (st : List Ps) : ∀ k, k <= st.length -> ndB n st (st.length - k) (ndK n st k) = nd n st
 | 0, _ => rfl
 | k + 1, h => by
  have := zxp n st k (by omega)
  rw [show st.length - k = (st.length - (k + 1)) + 1 by omega, ndB] at this
  rw [ndK, show st.length - 1 - k = st.length - (k + 1) by omega]
  exact this
theorem zuc (n : Nat) (st : List Ps) : ∀ k, (ndK n st k).length = n + st.length
 | 0 => by unfold ndK nd0; simp
 | k + 1 => by rw [ndK, zju, zuc n st k]
def ndH (S : List (List Int)) (st : List Ps) (k : Nat) : St :=
 hd [(2, .one (.bx 2 0)), (5, .one (.bx 5 0)), (20, .one (.fn 131 [20]))]
  [(2, [.rn (zav S)]), (5, [.ow 416 0]), (20, [.rn (psS st)])] [(416, ⟨true, 1, (ndK S.length st k).map fun b => [.bool b], 0, true⟩)]
set_option maxHeartbeats 2000000 in
theorem zqf (S : List (List Int)) (st : List Ps) (hS : S.length <= 100000) (hst : st.length <= 100000) (hpos : 0 < st.length) (hb : ∀ i < st.length, 0 <= (st.getD i ps0).l /\ (st.getD i ps0).l < S.length + i /\ 0 <= (st.getD i ps0).r /\ (st.getD i ps0).r < S.length + i) : FC Try.prog 85 [.one (zav S), .one (psS st)] [.one (bolS (nd S.length st))] := by
 have e1 : IntKind.i64.wrap ((S.length : Int) + st.length) = ((S.length + st.length : Nat) : Int) := by rw [zam (by omega) (by omega)]; omega
 have e2 : IntKind.i64.wrap (((S.length + st.length : Nat) : Int) - 1) = ((S.length + st.length - 1 : Nat) : Int) := by rw [zam (by omega) (by omega)]; omega
 have hlt : S.length + st.length - 1 < (List.replicate (S.length + st.length) false).length := by simp; omega
 have hs0 := zxb (List.replicate (S.length + st.length) false) (S.length + st.length - 1) true hlt
 refine qgj Try.call85 Try.func85 rfl rfl (by kernel_rfl) (zbb (by kernel_rfl)) ?_
 simp -implicitDefEqProofs only [go_sem, Try.results85]
 rw [e1]
 refine qcm (by simp -implicitDefEqProofs only [go_sem]; omega) ?_
 simp -implicitDefEqProofs only [go_sem]
 rw [List.length_replicate, e2]
 refine ⟨by omega, ?_⟩
 refine zeu (by simp -implicitDefEqProofs only [go_sem]; simp) ?_
 simp -implicitDefEqProofs only [go_sem]
 rw [<- List.map_replicate (f := fun s => [T.bool s]) (a := false), hs0]
 refine callB (sz := 4) (rows := st.map psC) zud (by simp -implicitDefEqProofs only [go_sem]) ?_
 simp -implicitDefEqProofs only [go_sem]
 refine loopR qbm Try.call131 20 (ndH S st) (st.map psC) (by kernel_rfl) rfl (fun k => ⟨rfl, rfl⟩) (fun k => by repeat (first | exact trivial | refine ⟨rfl, ?_⟩)) (zaa ?_) ?_ ?_
 ·simp -implicitDefEqProofs only [go_sem]
  rfl
 ·intro k hk
  rw [List.length_map] at hk ⊢
  have hi : st.length - 1 - k < st.length := by omega
  have hrow : (st.map psC).getD (st.length - 1 - k) [] = psC (st.getD (st.length - 1 - k) ps0) := by
   simp [List.getD, hi]
  rw [hrow]
  have hK : ndK S.length st (k + 1) = zo6 S.length (st.getD (st.length - 1 - k) ps0) (st.length - 1 - k) (ndK S.length st k) := rfl
  have hbi := hb _ hi
  have hol := zuc S.length st k
  unfold ndH
  rw [hK]
  generalize st.getD (st.length - 1 - k) ps0 = s at hbi ⊢
  generalize st.length - 1 - k = j at hi hbi ⊢
  obtain ⟨sl, sr, sp, sc⟩ := s
  simp only at hbi
  obtain ⟨l, rfl⟩ : ∃ l : Nat, sl = l := ⟨sl.toNat, by omega⟩
  obtain ⟨r, rfl⟩ : ∃ r : Nat, sr = r := ⟨sr.toNat, by omega⟩
  generalize ndK S.length st k = out at hol ⊢
  have hwj : IntKind.i64.wrap ((S.length : Int) + (j : Int)) = ((S.length + j : Nat) : Int) := by rw [zam (by omega) (by omega)]; omega
  have hjl : S.length + j < out.length := by omega
  have hll : l < out.length := by omega
  have hrl : r < out.length := by omega
  have hrl2 : r < (out.set l true).length := by rw [List.length_set]; omega
  have hsl := zxb out l true hll
  have hsr := zxb (out.set l true) r true hrl2
  have hgo : out.getD (S.length + j) false = out[S.length + j] := by rw [List.getD_eq_getElem?_getD, List.getElem?_eq_getElem hjl]; rfl
  simp -implicitDefEqProofs only [go_sem, zcz, rowN, T.toN]
  refine zdz.block (zdz.seq (zdz.ofEx (by kernel_rfl) (by intro d hd; simp [zbk] at hd ⊢; omega) ?_))
  simp -implicitDefEqProofs only [go_sem]
  rw [hwj]
  simp -implicitDefEqProofs only [go_sem, hjl, zag]
  refine zdz.cond (b := out[S.length + j]) (by simp -implicitDefEqProofs only [go_sem]) (fun ht => ?_) (fun hf => ?_)
  ·have hN : zo6 S.length ⟨l, r, sp, sc⟩ j out = (out.set l true).set r true := by
    unfold zo6
    rw [hgo, if_pos ht]
    rfl
   rw [hN]
   refine zdz.drawn (by kernel_rfl) (by kernel_rfl) (by kernel_rfl) (by intro d hd; simp [zbk] at hd ⊢; omega) ?_
   simp -implicitDefEqProofs only [go_sem, hll]
   refine zyn (by simp -implicitDefEqProofs only [go_sem]; simp) ?_
   simp -implicitDefEqProofs only [go_sem]
   rw [hsl]
   simp -implicitDefEqProofs only [go_sem, List.length_set, hrl]
   refine zyn (by simp -implicitDefEqProofs only [go_sem]; simp) ?_
   simp -implicitDefEqProofs only [go_sem]
   rw [hsr]
   refine ⟨by kernel_rfl, zaa ?_⟩
   simp -implicitDefEqProofs only [go_sem]
   skip
  ·have hN : zo6 S.length ⟨l, r, sp, sc⟩ j out = out := by
    unfold zo6
    rw [hgo, if_neg (by rw [hf]; simp)]
   rw [hN]
   refine zdz.skip ?_
   simp -implicitDefEqProofs only [go_sem]
   refine zaa ?_
   simp -implicitDefEqProofs only [go_sem]
 ·rw [List.length_map]
  unfold ndH
  have hall := zxp S.length st st.length (Nat.le_refl _)
  rw [Nat.sub_self, ndB] at hall
  rw [hall]
  simp -implicitDefEqProofs only [go_sem, Try.results85]
  skip
end Go.Proofs.Yteeaofpphmhjdaa
namespace Go.Proofs.Yteeaofpphmhjdaa
set_option linter.unusedSimpArgs false
set_option linter.unusedVariables false
set_option linter.unusedSectionVars false
set_option maxRecDepth 4000
open Go.RowKit
def zid (S : List (List Int)) (st : List Ps) : Bool := zzk S st && (chk S st == -1)
structure SzR (S : List (List Int)) (U : List Ps) : Prop where
 s : S.length <= 1048576
 st : U.length <= 1048576
 sc : ∀ c ∈ S, c.length <= 1048576
 tc : ∀ x ∈ U, x.c.length <= 1048576
theorem zc4 {S : List (List Int)} {st : List Ps} (h : SzR S st) : FC Try.prog 84 [.one (zav S), .one (psS st)] [bD (zid S st)] := by
 have HC := zce S st h.s h.st h.sc h.tc
 unfold zid
 cases hk : zzk S st
 ·rw [hk] at HC
  refine zay Try.call84 Try.func84 rfl (by kernel_rfl) (zbb (by kernel_rfl)) ?_
  simp -implicitDefEqProofs only [go_sem, Try.results84]
  refine callF (HC) (by simp -implicitDefEqProofs only [go_sem]) ?_
  simp -implicitDefEqProofs only [go_sem]
 ·rw [hk, if_pos rfl] at HC
  generalize chk S st = c at HC ⊢
  refine zay Try.call84 Try.func84 rfl (by kernel_rfl) (zbb (by kernel_rfl)) ?_
  simp -implicitDefEqProofs only [go_sem, Try.results84]
  refine callF (HC) (by simp -implicitDefEqProofs only [go_sem]) ?_
  simp -implicitDefEqProofs only [go_sem]
theorem zin {S : List (List Int)} {st : List Ps} (h : zid S st = true) : zgw S = true /\ (1 <= st.length /\ st.length <= 200) /\ chk S st = -1 /\ ∀ i < st.length, 0 <= (st.getD i ps0).l /\ (st.getD i ps0).l < S.length + i /\ 0 <= (st.getD i ps0).r /\ (st.getD i ps0).r < S.length + i := by
 unfold zid zzk at h
 rw [Bool.and_eq_true, Bool.and_eq_true] at h
 obtain ⟨⟨h1, h2⟩, h3⟩ := h
 unfold inB at h2
 simp at h2 h3
 exact ⟨h1, by omega, h3, zp4 (zg9 h3).1⟩
def usP (B : List Bool) : Nat -> List Int
 | 0 => []
 | k + 1 => usP B k ++ if B.getD k false = true then [(k : Int)] else []
theorem zk2 (B : List Bool) : ∀ k, (usP B k).length <= k
 | 0 => Nat.le_refl _
 | k + 1 => by
  have := zk2 B k
  unfold usP
  rw [List.length_append]
  split <;> simp <;> omega
def usR (S : List (List Int)) (st : List Ps) : List Int × Bool := if zid S st = true then (usP (nd S.length st) S.length, true) else ([], false)
set_option maxHeartbeats 1000000 in
theorem zke {S : List (List Int)} {st : List Ps} (h : SzR S st) : FC Try.prog 29 [.one (zav S), .one (psS st)] [.one (zas (usR S st).1), bD (usR S st).2] := by
 have HC := zc4 h
 unfold usR
 cases hk : zid S st
 ·rw [hk] at HC
  rw [if_neg (by simp)]
  refine zay Try.call29 Try.func29 rfl (by kernel_rfl) (zbb (by kernel_rfl)) ?_
  simp -implicitDefEqProofs only [go_sem, Try.results29]
  refine callF (HC) (by simp -implicitDefEqProofs only [go_sem]) ?_
  simp -implicitDefEqProofs only [go_sem]
 ·obtain ⟨h1, h2, h3, h4⟩ := zin hk
  rw [hk] at HC
  rw [if_pos rfl]
  have hSl := zer h1
  have HN := zqf S st (by omega) (by omega) (by omega) h4
  have hBl := qd9 S.length st
  generalize nd S.length st = B at HN hBl ⊢
  have hmt : ((B.map fun b => [T.bool b]).take S.length) = (B.take S.length).map fun b => [T.bool b] := by rw [List.map_take]
  refine zay Try.call29 Try.func29 rfl (by kernel_rfl) (zbb (by kernel_rfl)) ?_
  simp -implicitDefEqProofs only [go_sem, Try.results29]
  refine callF (HC) (by simp -implicitDefEqProofs only [go_sem]) ?_
  simp -implicitDefEqProofs only [go_sem]
  refine zan (by simp -implicitDefEqProofs only [go_sem]) ?_
  simp -implicitDefEqProofs only [go_sem]
  refine callF (HN) (by simp -implicitDefEqProofs only [go_sem]) ?_
  simp -implicitDefEqProofs only [go_sem]
  refine sliceF 512 ?_
  simp -implicitDefEqProofs only [go_sem, List.length_map, hBl, hmt]
  refine ⟨by omega, ?_⟩
  have htl : (B.take S.length).length = S.length := by rw [List.length_take]; omega
  rw [htl]
  refine zak (fun k : Nat => hd [(6, .one (.ow 416 (usP B k).length)), (19, .one (.rn (bolS (B.take S.length)))), (20, vI S.length), (21, vI k)] [] [(416, ⟨true, 1, (usP B k).map fun s => [.int .i64 s], (usP B k).length, true⟩)]) (fun k => k <= S.length) (fun k => S.length - k) 0 (zaa ?_) (Nat.zero_le _) ?_
  ·simp -implicitDefEqProofs only [go_sem]
   rfl
  ·intro k hk
   by_cases hkl : k < S.length
   ·have hwk : IntKind.i64.wrap ((k : Int) + 1) = ((k + 1 : Nat) : Int) := zaw (by omega)
    have hkt : k < (B.take S.length).length := by omega
    have hgt : (B.take S.length)[k] = B[k] := List.getElem_take
    have hgb : B.getD k false = B[k] := by rw [List.getD_eq_getElem?_getD, List.getElem?_eq_getElem (by omega)]; rfl
    have hul := zk2 B k
    have hol : (usP B k).length <= 4294967295 := by omega
    have hu : usP B (k + 1) = usP B k ++ if B[k] = true then [(k : Int)] else [] := by rw [usP, hgb]
    cases hb : B[k]
    ·rw [hb, if_neg (by simp), List.append_nil] at hu
     rw [hb] at hgt
     simp -implicitDefEqProofs only [go_sem, hkl, zag, hkt, hgt]
     rw [hwk]
     refine ⟨k + 1, hkl, by omega, zaa ?_⟩
     simp -implicitDefEqProofs only [go_sem]
     rw [hu]
    ·rw [hb, if_pos rfl] at hu
     rw [hb] at hgt
     simp -implicitDefEqProofs only [go_sem, hkl, zag, hkt, hgt]
     refine zan (by simp -implicitDefEqProofs only [go_sem]) ?_
     simp -implicitDefEqProofs only [go_sem]
     refine apD true (by simp -implicitDefEqProofs only [go_sem, ne_eq, List.length_map, hol]) ?_
     simp -implicitDefEqProofs only [go_sem, ne_eq, List.length_map, hol]
     rw [hwk]
     refine ⟨k + 1, hkl, by omega, zaa ?_⟩
     simp -implicitDefEqProofs only [go_sem]
     rw [hu, List.length_append, List.map_append]
     rfl
   ·have hkn : k = S.length := by omega
    subst hkn
    simp -implicitDefEqProofs only [go_sem, hkl]
    skip
end Go.Proofs.Yteeaofpphmhjdaa
namespace Go.Proofs.Yteeaofpphmhjdaa
set_option linter.unusedSimpArgs false
set_option linter.unusedVariables false
set_option linter.unusedSectionVars false
set_option maxRecDepth 4000
open Go.RowKit
def zgt : (List Int) -> Nat -> (List Int) × Nat
 | s0, k => ((zc5 s0 k).1, (zc5 s0 k).2)
def zeb : List (List Int) -> Nat -> List (List Int) × Nat
 | [], k => ([], k)
 | a :: xs, k => ((zgt a k).1 :: (zeb xs (zgt a k).2).1, (zeb xs (zgt a k).2).2)
def zhi : (List Int) -> Nat
 | s0 => 1 + zjh s0
def zfx : List (List Int) -> Nat
 | [] => 0
 | a :: xs => zhi a + zfx xs
theorem zv1 : ∀ (a : (List Int)) (k : Nat), k <= (zgt a k).2 /\ (zgt a k).2 <= k + zhi a
 | s0, k => by have h_s0 := zge s0 k; simp only [zgt, zhi]; omega
theorem zqp : ∀ (xs : List (List Int)) (k : Nat), k <= (zeb xs k).2 /\ (zeb xs k).2 <= k + zfx xs
 | [], k => ⟨Nat.le_refl _, Nat.le_refl _⟩
 | a :: xs, k => by have h1 := zv1 a k; have h2 := zqp xs (zgt a k).2; simp only [zeb, zfx]; omega
theorem zlb : ∀ xs : List (List Int), xs.length <= zfx xs
 | [] => Nat.le_refl _
 | a :: xs => by
  have := zlb xs
  have : 1 <= zhi a := by simp only [zhi]; omega
  simp only [List.length_cons, zfx]; omega
theorem zl1 (xs : List (List Int)) :
  ∀ k : Nat, 0 < k -> k + zfx xs <= 4611686018427387904 -> IC Try.prog 38 [] (.one (zav xs)) [iD k] (.one (zav (zeb xs k).1)) [iD (zeb xs k).2] := by
 intro k h0 hk
 refine zwc Try.call38 Try.func38 rfl (by kernel_rfl) (by simp only [zet, rd, List.map_cons, List.map_nil, List.nil_append, List.length_cons, List.length_nil, Try.ntmps38]; omega) (by simp only [Try.ntmps38]; omega) (fun vs => ?_)
 simp -implicitDefEqProofs only [go_sem, Try.results38, qb1, zr4, zet, PI]
 refine zak (fun (x : List (List Int) × List (List Int) × Nat) => hd [(0, .one (.ow 0 0)), (1000000, .one (.ow 0 0)), (1, vI x.2.2), (5, vI x.1.length)] [] [(0, ⟨true, 1, x.1.map (fun s => [zas s]) ++ ze2 vs x.1.length (x.2.1.map (fun s => [zas s])), 0, true⟩)])
  (fun x => (zeb xs k).1 = x.1 ++ (zeb x.2.1 x.2.2).1 /\ (zeb xs k).2 = (zeb x.2.1 x.2.2).2 /\ 0 < x.2.2 /\ x.2.2 + zfx x.2.1 <= 4611686018427387904 /\ x.1.length + x.2.1.length = xs.length /\ ∀ a ∈ x.2.1, a ∈ xs) (fun x => x.2.1.length) ([], xs, k) (zaa ?_) ?_ ?_
 ·simp -implicitDefEqProofs only [go_sem]
 ·exact ⟨rfl, rfl, h0, hk, by simp, fun _ h => h⟩
 ·intro ⟨dn, rest, kk⟩ ⟨h1, h2, h3, h4, h6, h5⟩
  simp only at h1 h2 h3 h4 h5 h6
  cases rest with
  | nil =>
   simp only [zeb, List.append_nil] at h1 h2
   simp -implicitDefEqProofs only [go_sem, h1, h2]
  | cons s0 rest =>
   simp only [zeb, zgt, zfx, zhi] at h1 h2 h4
   have hc_s0 := zge s0 kk
   have hln := zlb xs
   rw [List.length_cons] at h6
   have wl : IntKind.i64.wrap ((dn.length : Int) + 1) = ((dn.length + 1 : Nat) : Int) := zaw (by omega)
   simp -implicitDefEqProofs only [go_sem, List.map_cons]
   refine callN (l := [(0, .one (.ow 0 0)), (1000000, .one (.ow 0 0)), (5, vI dn.length), (15, .one (.cv (vs dn.length 0))), (16, vI (kk : Nat))]) (bl := []) (el := [(0, ⟨true, 1, dn.map (fun s => [zas s]) ++ [.pin (vs dn.length 0) (zas s0)] :: ze2 vs (dn.length + 1) (rest.map (fun s => [zas s])), 0, true⟩)]) 0 dn.length 0 (zig s0 kk (by omega) (by omega)) (by simp -implicitDefEqProofs only [go_sem, zas]) rfl rfl rfl (by simp -implicitDefEqProofs only [go_sem, zas]) rfl ?_
   simp -implicitDefEqProofs only [go_sem, wl]
   refine ⟨(dn ++ [(zc5 s0 kk).1], rest, (zc5 s0 kk).2), ⟨by simpa using h1, h2, by show 0 < (zc5 s0 kk).2; omega, by show (zc5 s0 kk).2 + zfx rest <= _; omega, by simp; omega, fun b hb => h5 b (by simp [hb])⟩, by simp, zaa ?_⟩
   simp -implicitDefEqProofs only [go_sem, wl, List.map_cons, List.map_append, List.append_assoc]
theorem znp (xs : List (List Int)) (k : Nat) (h0 : 0 < k) (hk : k + zfx xs <= 4611686018427387904) : IC Try.prog 38 [] (.one (zav xs)) [iD k] (.one (zav (zeb xs k).1)) [iD (zeb xs k).2] := zl1 xs k h0 hk
def zex : Ps -> Nat -> Ps × Nat
 | ⟨l0, r0, p0, c0⟩, k => (⟨((k : Nat) : Int), (((k + 1) : Nat) : Int), ((((k + 1) + 1) : Nat) : Int), (zc5 c0 (((k + 1) + 1) + 1)).1⟩, (zc5 c0 (((k + 1) + 1) + 1)).2)
def zb5 : List Ps -> Nat -> List Ps × Nat
 | [], k => ([], k)
 | a :: xs, k => ((zex a k).1 :: (zb5 xs (zex a k).2).1, (zb5 xs (zex a k).2).2)
def zgv : Ps -> Nat
 | ⟨l0, r0, p0, c0⟩ => 1 + 1 + 1 + 1 + zjh c0
def zd1 : List Ps -> Nat
 | [] => 0
 | a :: xs => zgv a + zd1 xs
theorem zu2 : ∀ (a : Ps) (k : Nat), k <= (zex a k).2 /\ (zex a k).2 <= k + zgv a
 | ⟨l0, r0, p0, c0⟩, k => by have h_c0 := zge c0 (((k + 1) + 1) + 1); simp only [zex, zgv]; omega
theorem zpr : ∀ (xs : List Ps) (k : Nat), k <= (zb5 xs k).2 /\ (zb5 xs k).2 <= k + zd1 xs
 | [], k => ⟨Nat.le_refl _, Nat.le_refl _⟩
 | a :: xs, k => by have h1 := zu2 a k; have h2 := zpr xs (zex a k).2; simp only [zb5, zd1]; omega
theorem zhv : ∀ xs : List Ps, xs.length <= zd1 xs
 | [] => Nat.le_refl _
 | a :: xs => by
  have := zhv xs
  have : 1 <= zgv a := by obtain ⟨l0, r0, p0, c0⟩ := a; simp only [zgv]; omega
  simp only [List.length_cons, zd1]; omega
theorem zgy (xs : List Ps) :
  ∀ k : Nat, 0 < k -> k + zd1 xs <= 4611686018427387904 -> IC Try.prog 39 [] (.one (psS xs)) [iD k] (.one (psS (zb5 xs k).1)) [iD (zb5 xs k).2] := by
 intro k h0 hk
 refine zwc Try.call39 Try.func39 rfl (by kernel_rfl) (by simp only [zet, rd, List.map_cons, List.map_nil, List.nil_append, List.length_cons, List.length_nil, Try.ntmps39]; omega) (by simp only [Try.ntmps39]; omega) (fun vs => ?_)
 simp -implicitDefEqProofs only [go_sem, Try.results39, qb1, zr4, zet, PI]
 refine zak (fun (x : List Ps × List Ps × Nat) => hd [(0, .one (.ow 0 0)), (1000000, .one (.ow 0 0)), (1, vI x.2.2), (5, vI x.1.length)] [] [(0, ⟨true, 4, x.1.map psC ++ ze2 vs x.1.length (x.2.1.map psC), 0, true⟩)])
  (fun x => (zb5 xs k).1 = x.1 ++ (zb5 x.2.1 x.2.2).1 /\ (zb5 xs k).2 = (zb5 x.2.1 x.2.2).2 /\ 0 < x.2.2 /\ x.2.2 + zd1 x.2.1 <= 4611686018427387904 /\ x.1.length + x.2.1.length = xs.length /\ ∀ a ∈ x.2.1, a ∈ xs) (fun x => x.2.1.length) ([], xs, k) (zaa ?_) ?_ ?_
 ·simp -implicitDefEqProofs only [go_sem]
 ·exact ⟨rfl, rfl, h0, hk, by simp, fun _ h => h⟩
 ·intro ⟨dn, rest, kk⟩ ⟨h1, h2, h3, h4, h6, h5⟩
  simp only at h1 h2 h3 h4 h5 h6
  cases rest with
  | nil =>
   simp only [zb5, List.append_nil] at h1 h2
   simp -implicitDefEqProofs only [go_sem, h1, h2]
  | cons a rest =>
   obtain ⟨l0, r0, p0, c0⟩ := a
   simp only [zb5, zex, zd1, zgv] at h1 h2 h4
   have hc_c0 := zge c0 (((kk + 1) + 1) + 1)
   have w0 : IntKind.i64.wrap (((kk : Nat) : Int) + 1) = ((kk + 1 : Nat) : Int) := zaw (by omega)
   have w1 : IntKind.i64.wrap ((((kk + 1) : Nat) : Int) + 1) = (((kk + 1) + 1 : Nat) : Int) := zaw (by omega)
   have w2 : IntKind.i64.wrap (((((kk + 1) + 1) : Nat) : Int) + 1) = ((((kk + 1) + 1) + 1 : Nat) : Int) := zaw (by omega)
   have hln := zhv xs
   rw [List.length_cons] at h6
   have wl : IntKind.i64.wrap ((dn.length : Int) + 1) = ((dn.length + 1 : Nat) : Int) := zaw (by omega)
   simp -implicitDefEqProofs only [go_sem, psC]
   refine zeu (by simp -implicitDefEqProofs only [go_sem, implies_true, w0, w1, w2]) ?_
   simp -implicitDefEqProofs only [go_sem, implies_true, w0, w1, w2]
   refine zeu (by simp -implicitDefEqProofs only [go_sem, implies_true, w0, w1, w2]) ?_
   simp -implicitDefEqProofs only [go_sem, implies_true, w0, w1, w2]
   refine zeu (by simp -implicitDefEqProofs only [go_sem, implies_true, w0, w1, w2]) ?_
   simp -implicitDefEqProofs only [go_sem, implies_true, w0, w1, w2]
   refine callN (l := [(0, .one (.ow 0 0)), (1000000, .one (.ow 0 0)), (5, vI dn.length), (37, .one (.cv (vs dn.length 3))), (38, vI ((((kk + 1) + 1) + 1) : Nat))]) (bl := []) (el := [(0, ⟨true, 4, dn.map psC ++ [.int .i64 ((kk : Nat) : Int), .int .i64 (((kk + 1) : Nat) : Int), .int .i64 ((((kk + 1) + 1) : Nat) : Int), .pin (vs dn.length 3) (zas c0)] :: ze2 vs (dn.length + 1) (rest.map psC), 0, true⟩)]) 0 dn.length 3 (zig c0 (((kk + 1) + 1) + 1) (by omega) (by omega)) (by simp -implicitDefEqProofs only [go_sem, w0, w1, w2, zas]) rfl rfl rfl (by simp -implicitDefEqProofs only [go_sem, zas]) rfl ?_
   simp -implicitDefEqProofs only [go_sem, w0, w1, w2]
   refine ⟨(dn ++ [⟨((kk : Nat) : Int), (((kk + 1) : Nat) : Int), ((((kk + 1) + 1) : Nat) : Int), (zc5 c0 (((kk + 1) + 1) + 1)).1⟩], rest, (zc5 c0 (((kk + 1) + 1) + 1)).2), ⟨by simpa using h1, h2, by show 0 < (zc5 c0 (((kk + 1) + 1) + 1)).2; omega, by show (zc5 c0 (((kk + 1) + 1) + 1)).2 + zd1 rest <= _; omega, by simp; omega, fun b hb => h5 b (by simp [hb])⟩, by simp, zaa ?_⟩
   simp -implicitDefEqProofs only [go_sem, wl, psC, List.map_append, List.append_assoc]
theorem zh3 (xs : List Ps) (k : Nat) (h0 : 0 < k) (hk : k + zd1 xs <= 4611686018427387904) : IC Try.prog 39 [] (.one (psS xs)) [iD k] (.one (psS (zb5 xs k).1)) [iD (zb5 xs k).2] := zgy xs k h0 hk
theorem zg0 (xs : List Ps) :
  ∀ k : Nat, 0 < k -> k + zd1 xs <= 4611686018427387904 -> FC Try.prog 43 [.one (psS (zb5 xs k).1), iD k] [iD (zb5 xs k).2] := by
 intro k h0 hk
 refine zay Try.call43 Try.func43 rfl (by kernel_rfl) (zbb (by kernel_rfl)) ?_
 simp -implicitDefEqProofs only [go_sem, Try.results43]
 refine zak (fun (x : List Ps × List Ps × Nat) => hd [(0, vT (.sl 4 (x.1.map psC ++ (zb5 x.2.1 x.2.2).1.map psC))), (1, vI x.2.2), (5, vI x.1.length)] [] [])
  (fun x => (zb5 xs k).1 = x.1 ++ (zb5 x.2.1 x.2.2).1 /\ (zb5 xs k).2 = (zb5 x.2.1 x.2.2).2 /\ 0 < x.2.2 /\ x.2.2 + zd1 x.2.1 <= 4611686018427387904 /\ x.1.length + x.2.1.length = xs.length /\ ∀ a ∈ x.2.1, a ∈ xs) (fun x => x.2.1.length) ([], xs, k) (zaa ?_) ?_ ?_
 ·simp -implicitDefEqProofs only [go_sem]
 ·exact ⟨rfl, rfl, h0, hk, by simp, fun _ h => h⟩
 ·intro ⟨dn, rest, kk⟩ ⟨h1, h2, h3, h4, h6, h5⟩
  simp only at h1 h2 h3 h4 h5 h6
  cases rest with
  | nil =>
   simp only [zb5, List.append_nil] at h1 h2
   simp -implicitDefEqProofs only [go_sem, h2, zb5]
  | cons a rest =>
   obtain ⟨l0, r0, p0, c0⟩ := a
   simp only [zb5, zex, zd1, zgv] at h1 h2 h4
   have hc_c0 := zge c0 (((kk + 1) + 1) + 1)
   have w0 : IntKind.i64.wrap (((kk : Nat) : Int) + 1) = ((kk + 1 : Nat) : Int) := zaw (by omega)
   have w1 : IntKind.i64.wrap ((((kk + 1) : Nat) : Int) + 1) = (((kk + 1) + 1 : Nat) : Int) := zaw (by omega)
   have w2 : IntKind.i64.wrap (((((kk + 1) + 1) : Nat) : Int) + 1) = ((((kk + 1) + 1) + 1 : Nat) : Int) := zaw (by omega)
   have hln := zhv xs
   rw [List.length_cons] at h6
   have wl : IntKind.i64.wrap ((dn.length : Int) + 1) = ((dn.length + 1 : Nat) : Int) := zaw (by omega)
   simp -implicitDefEqProofs only [go_sem, zb5, zex, psC]
   simp -implicitDefEqProofs only [go_sem, bne_self_eq_false, w0, w1, w2]
   refine callF (zso c0 (((kk + 1) + 1) + 1) (by omega) (by omega)) (by simp -implicitDefEqProofs only [go_sem, w0, w1, w2]) ?_
   simp -implicitDefEqProofs only [go_sem, w0, w1, w2]
   refine ⟨(dn ++ [⟨((kk : Nat) : Int), (((kk + 1) : Nat) : Int), ((((kk + 1) + 1) : Nat) : Int), (zc5 c0 (((kk + 1) + 1) + 1)).1⟩], rest, (zc5 c0 (((kk + 1) + 1) + 1)).2), ⟨by simpa using h1, h2, by show 0 < (zc5 c0 (((kk + 1) + 1) + 1)).2; omega, by show (zc5 c0 (((kk + 1) + 1) + 1)).2 + zd1 rest <= _; omega, by simp; omega, fun b hb => h5 b (by simp [hb])⟩, by simp, zaa ?_⟩
   simp -implicitDefEqProofs only [go_sem, wl, psC, List.map_append, List.append_assoc]
theorem zh5 (xs : List Ps) (k : Nat) (h0 : 0 < k) (hk : k + zd1 xs <= 4611686018427387904) : FC Try.prog 43 [.one (psS (zb5 xs k).1), iD k] [iD (zb5 xs k).2] := zg0 xs k h0 hk
end Go.Proofs.Yteeaofpphmhjdaa
namespace Go.Proofs.Yteeaofpphmhjdaa
set_option linter.unusedSimpArgs false
set_option linter.unusedVariables false
set_option linter.unusedSectionVars false
set_option maxRecDepth 4000
open Go.RowKit
theorem zuq : ∀ xs : List (List Int), zfx xs <= 4 * zed xs
 | [] => by simp [zfx]
 | a :: xs => by
  have h2 := zuq xs
  have h1 := znw a
  unfold zed at h2 ⊢
  rw [zfx, List.length_cons, List.map_cons, List.sum_cons, zhi]; omega
theorem ztl : ∀ xs : List Ps, zd1 xs <= 8 * zbw xs
 | [] => by simp [zd1]
 | a :: xs => by
  have h2 := ztl xs
  have h1 := znw a.c
  unfold zbw at h2 ⊢
  rw [zd1, List.length_cons, List.map_cons, List.sum_cons, zgv, Ps.wt]; omega
end Go.Proofs.Yteeaofpphmhjdaa
namespace Go.Proofs.Yteeaofpphmhjdaa
set_option linter.unusedSimpArgs false
set_option linter.unusedVariables false
set_option linter.unusedSectionVars false
set_option maxRecDepth 4000
open Go.RowKit
def trR (S : List (List Int)) (st : List Ps) : List Ps × Bool := if zid S st = true then (trm S st, true) else ([], false)
end Go.Proofs.Yteeaofpphmhjdaa
namespace Go.Proofs.Yteeaofpphmhjdaa
set_option linter.unusedSimpArgs false
set_option linter.unusedVariables false
set_option linter.unusedSectionVars false
set_option maxRecDepth 4000
open Go.RowKit
variable {P : Program} {N : Nat}
mutual
def noM : T -> Bool
 | .sl _ rows => qdg rows
 | .ptr cells => !cells.isEmpty && ztr cells
 | .mp _ _ => false
 | .fn _ caps => ztr caps
 | .pin _ t => noM t
 | _ => true
def qdg : List (List T) -> Bool
 | [] => true
 | r :: rest => !r.isEmpty && (ztr r && qdg rest)
def ztr : List T -> Bool
 | [] => true
 | c :: cs => noM c && ztr cs
end
section
variable {w : World} {A : Nat -> Prop} {b : Nat} {es : Array MapEntry} {clk : Nat}
theorem zq1 (hb : w.heap[b]? = some (.map es clk)) (o : Nat) (v : Value) : w.cell? ⟨b, o, none⟩ ≠ some v := by simp [World.cell?, hb]
mutual
theorem zaf.shr (hb : w.heap[b]? = some (.map es clk)) : ∀ (t : T) (v : Value), noM t = true -> zaf w A t v -> zaf w (fun x => A x /\ x ≠ b) t v
 | .int _ _, _, _, h => by unfold zaf at h ⊢; exact h
 | .bool _, _, _, h => by unfold zaf at h ⊢; exact h
 | .str _, _, _, h => by unfold zaf at h ⊢; exact h
 | .sl sz rows, v, hn, h => by
  unfold noM at hn
  unfold zaf at h ⊢
  obtain ⟨ao, cap, h1, h2, h3, h4⟩ := h
  refine ⟨ao, cap, h1, h2, h3, ?_⟩
  rcases h4 with h4 | ⟨b', o, h4, h5, h6⟩
  ·exact Or.inl h4
  ·cases rows with
   | nil => exact Or.inl rfl
   | cons r rest =>
    refine Or.inr ⟨b', o, h4, ⟨h5, fun e => ?_⟩, zah.shr hb b' o sz (r :: rest) hn h6⟩
    subst e
    unfold qdg at hn
    rw [Bool.and_eq_true] at hn
    cases r with
    | nil => simp at hn
    | cons c cs =>
     unfold zah zat at h6
     obtain ⟨_, ⟨⟨u, hu, _⟩, _⟩, _⟩ := h6
     exact zq1 hb o u hu
 | .ptr cells, v, hn, h => by
  unfold noM at hn
  rw [Bool.and_eq_true] at hn
  unfold zaf at h ⊢
  obtain ⟨b', o, h1, h2, h3⟩ := h
  refine ⟨b', o, h1, ⟨h2, fun e => ?_⟩, zat.shr hb b' o cells hn.2 h3⟩
  subst e
  cases cells with
  | nil => simp at hn
  | cons c cs =>
   unfold zat at h3
   obtain ⟨⟨u, hu, _⟩, _⟩ := h3
   exact zq1 hb o u hu
 | .fn f caps, v, hn, h => by
  unfold noM at hn
  unfold zaf at h ⊢
  obtain ⟨vs, h1, h2⟩ := h
  exact ⟨vs, h1, zab.shr hb caps vs hn h2⟩
 | .mp _ _, _, hn, _ => by unfold noM at hn; cases hn
 | .pin u t, v, hn, h => by
  unfold noM at hn
  unfold zaf at h ⊢
  exact ⟨h.1, zaf.shr hb t v hn h.2⟩
 | .vs _ _ _, _, _, h => by unfold zaf at h ⊢; exact h
theorem zah.shr (hb : w.heap[b]? = some (.map es clk)) (b' : Nat) : ∀ (o sz : Nat) (rows : List (List T)), qdg rows = true -> zah w A b' o sz rows -> zah w (fun x => A x /\ x ≠ b) b' o sz rows
 | _, _, [], _, h => by unfold zah at h ⊢; exact h
 | o, sz, r :: rest, hn, h => by
  unfold qdg at hn
  rw [Bool.and_eq_true, Bool.and_eq_true] at hn
  unfold zah at h ⊢
  exact ⟨h.1, zat.shr hb b' o r hn.2.1 h.2.1, zah.shr hb b' (o + sz) sz rest hn.2.2 h.2.2⟩
theorem zat.shr (hb : w.heap[b]? = some (.map es clk)) (b' : Nat) : ∀ (o : Nat) (cs : List T), ztr cs = true -> zat w A b' o cs -> zat w (fun x => A x /\ x ≠ b) b' o cs
 | _, [], _, h => by unfold zat at h ⊢; exact h
 | o, c :: cs, hn, h => by
  unfold ztr at hn
  rw [Bool.and_eq_true] at hn
  unfold zat at h ⊢
  obtain ⟨⟨v, h1, h2⟩, h3⟩ := h
  exact ⟨⟨v, h1, zaf.shr hb c v hn.1 h2⟩, zat.shr hb b' (o + 1) cs hn.2 h3⟩
theorem zab.shr (hb : w.heap[b]? = some (.map es clk)) : ∀ (cs : List T) (vs : List Value), ztr cs = true -> zab w A cs vs -> zab w (fun x => A x /\ x ≠ b) cs vs
 | [], _, _, h => by unfold zab at h ⊢; exact h
 | c :: cs, vs, hn, h => by
  unfold ztr at hn
  rw [Bool.and_eq_true] at hn
  unfold zab at h ⊢
  obtain ⟨v, vs', h1, h2, h3⟩ := h
  exact ⟨v, vs', h1, zaf.shr hb c v hn.1 h2, zab.shr hb cs vs' hn.2 h3⟩
end
end
def qd8 : C -> Bool
 | .t x | .rn x => noM x
 | .el _ _ | .er _ _ => false
 | _ => true
def noMV : V -> Bool
 | .one c => qd8 c
 | .agg cs => cs.all qd8
 | .tup _ => false
section
variable {σ : St} {g : Gh} {w : World} {b : Nat} {es : Array MapEntry} {clk : Nat}
theorem CR.shr (hb : w.heap[b]? = some (.map es clk)) {c : C} {v : Value} (hn : qd8 c = true) (h : CR σ g w c v) : CR σ { g with A0 := fun x => g.A0 x /\ x ≠ b } w c v := by
 cases c with
 | t x => exact zaf.keep (fun _ _ => rfl) (fun y hy => ⟨hy.1.1, hy.1.2.1, hy.1.2.2.1, hy.1.2.2.2, hy.2⟩) _ _ (zaf.shr hb x v hn h)
 | rn x => exact zaf.keep (fun _ _ => rfl) (fun y hy => ⟨⟨hy.1.1.1, hy.1.1.2.1, hy.1.1.2.2.1, hy.1.1.2.2.2, hy.2⟩, hy.1.2⟩) _ _ (zaf.shr hb x v hn h)
 | el _ _ => cases hn
 | er _ _ => cases hn
 | nl _ => exact h
 | ow _ _ => exact h
 | bx _ _ => exact h
 | eo _ _ _ _ _ => exact h
 | fn _ _ => exact h
 | cv _ => exact h
 | any => exact h
theorem CRs.shr (hb : w.heap[b]? = some (.map es clk)) : ∀ {cs : List C} {vs : List Value}, cs.all qd8 = true -> CRs σ g w cs vs -> CRs σ { g with A0 := fun x => g.A0 x /\ x ≠ b } w cs vs
 | [], _, _, h => h
 | c :: cs, vs, hn, h => by
  rw [List.all_cons, Bool.and_eq_true] at hn
  obtain ⟨v, vs', h1, h2, h3⟩ := h
  exact ⟨v, vs', h1, CR.shr hb hn.1 h2, CRs.shr hb hn.2 h3⟩
theorem VR.shr (hb : w.heap[b]? = some (.map es clk)) {x : V} {v : Value} (hn : noMV x = true) (h : VR σ g w x v) : VR σ { g with A0 := fun x => g.A0 x /\ x ≠ b } w x v := by
 cases x with
 | one c => exact CR.shr hb hn h
 | agg cs =>
  obtain ⟨a, h1, h2⟩ := h
  exact ⟨a, h1, CRs.shr hb hn h2⟩
 | tup _ => cases hn
end
structure NoM (σ : St) : Prop where
 sl : ∀ i, noMV (σ.sl i) = true
 bx : ∀ b cs, σ.bx b = some cs -> cs.all qd8 = true
 ev : ∀ e x, σ.ev e = some x -> x.deep = true /\ x.on = true
theorem NoM.of {l : List (Nat × V)} {bl : List (Nat × List C)} {el : List (Nat × Ev)} (h1 : (l.all fun p => noMV p.2) = true) (h2 : (bl.all fun p => p.2.all qd8) = true) (h3 : (el.all fun p => p.2.deep && p.2.on) = true) : NoM (hd l bl el) := by
 have ht : ∀ {α : Type} {q : α -> Bool} {l : List (Nat × α)} {i : Nat} {x : α}, (l.all fun p => q p.2) = true -> tbl l i = some x -> q x = true := by
  intro α q l
  induction l with
  | nil => intro i x _ h; cases h
  | cons p l ih =>
   intro i x hall h
   rw [List.all_cons, Bool.and_eq_true] at hall
   obtain ⟨j, y⟩ := p
   unfold tbl at h
   split at h
   ·obtain rfl := Option.some.inj h; exact hall.1
   ·exact ih hall.2 h
 refine ⟨fun i => ?_, fun b cs hb => ht (q := fun cs : List C => cs.all qd8) h2 hb, fun e x he => ?_⟩
 ·rw [hd_sl]
  induction l with
  | nil => rfl
  | cons p l ih =>
   rw [List.all_cons, Bool.and_eq_true] at h1
   obtain ⟨j, y⟩ := p
   unfold zdr
   split
   ·exact h1.1
   ·exact ih h1.2
 ·have := ht (q := fun x : Ev => x.deep && x.on) h3 he
  rwa [Bool.and_eq_true] at this
theorem Rel.shr {n0 : Nat -> Prop} {σ : St} {g : Gh} {a : Act} {w : World} {b : Nat} {es : Array MapEntry} {clk : Nat} (h : Rel n0 N σ g a w) (hb : w.heap[b]? = some (.map es clk)) (hnb : n0 b) (hn : NoM σ) : Rel n0 N σ { g with A0 := fun x => g.A0 x /\ x ≠ b } a w := by
 refine ⟨h.defers, h.size, fun x hx => ⟨⟨(h.anew x hx).1, fun e => hx (e ▸ hnb)⟩, (h.anew x hx).2⟩, fun i => VR.shr hb (hn.sl i) (h.slots i), fun k cs hk => ?_, h.base, h.inj, fun e x he ho => ?_, fun e x he ho => ?_, h.slc, fun e ho x hx => ⟨⟨(h.ebase e ho x hx).1, fun q => h.etop e ho x hx (q ▸ hnb)⟩, (h.ebase e ho x hx).2⟩, h.etop, h.nodup, h.apart, h.ebx⟩
 ·obtain ⟨vs, ty, k1, k2⟩ := h.boxes k cs hk
  exact ⟨vs, ty, k1, CRs.shr hb (hn.bx k cs hk) k2⟩
 ·obtain ⟨ao, cap, k1, k2, k3, k4⟩ := h.evs e x he ho
  refine ⟨ao, cap, k1, k2, k3, k4.imp (fun q => q) ?_⟩
  rintro ⟨b', cells, ty, fps, q1, q2, q3, q4, q5⟩
  rw [if_pos (hn.ev e x he).1] at q5
  exact ⟨b', cells, ty, fps, q1, q2, q3, q4, by rw [if_pos (hn.ev e x he).1]; exact q5⟩
 ·have := (hn.ev e x he).2
  rw [ho] at this; cases this
section
variable {ag : Bool} {b : Nat}
theorem zb6.read {c : Code} {σ σ3 : St} {d : Nat} {D : Nat -> Prop} {rows : List (List T)} {Q : Exit -> St -> List (List T) -> Prop} (hd : σ.sl d = .one (.cv (.map (some b)))) (hdm : d < 1000000) (hD : ¬ D d) (h3d : NoM σ3) (hX : zdz P N D c (σ.put (some d) (.one (.t (.mp ag rows)))) (nkR σ3)) (hQ : Q .normal (σ3.put (some d) (.one (.cv (.map (some b))))) rows) : zb6 P N ag b c σ rows Q := fun n0 w0 A0 g a w hM h2 h3 => by
 obtain ⟨n1, es, clk, k1, k2, k3, k4, k5, k6, k7⟩ := hM.rel
 have hg1 : Rel n1 N σ { g with A0 := fun x => g.A0 x \/ x = b } a w := k4.leave (fun _ h => h) (fun x hx => Or.inl hx) fun x hx => ⟨Or.inl (k4.anew x hx).1, (k4.anew x hx).2⟩
 have hF : ∀ x, n1 x -> (g.A0 x \/ x = b) -> Fix σ { g with A0 := fun x => g.A0 x \/ x = b } w x := fun x h1 h2 => ⟨fun k hk e => k4.base k hk (e ▸ h1), fun e y he ho hh => k4.etop e ⟨y, he, ho⟩ x (List.mem_of_mem_head? hh) h1, k5 x h1, h2⟩
 have hval : a.tmps.getD d (g.R0.ξ d) = .map (some b) := by
  have := k4.slots d
  rw [hd] at this
  exact this
 have hR : Rel n1 N (σ.put (some d) (.one (.t (.mp ag rows)))) { g with A0 := fun x => g.A0 x \/ x = b } a w := by
  refine hg1.slots_of rfl rfl hg1.defers hg1.size fun i => ?_
  show VR σ _ w (Go.Proofs.Yteeaofpphmhjdaa.upd σ.sl d _ i) _
  by_cases hi : i = d
  ·subst hi
   rw [zac]
   show zaf w _ (.mp ag rows) (a.tmps.getD i (g.R0.ξ i))
   rw [hval]
   unfold zaf
   exact ⟨b, es, clk, rfl, hF b k2 (Or.inr rfl), k6, zax.keep (fun _ _ => rfl) (fun x hx => hF x hx.1 (Or.inl hx.2)) ag rows _ k7⟩
  ·rw [zaj _ _ hi]
   exact hg1.slots i
 have hac : { a with defers := [] } = a := by
  have := k4.defers
  cases a
  simp only at this
  rw [this]
 have run := hX none 0 [] n1 w (fun x => g.A0 x \/ x = b, g.R0) a _ a w hR k5 (Bk.refl _ _) rfl (Ag.refl _ _)
 rw [hac] at run
 refine wp_mono ((wpIn_wide (n := 0)).1 run) ?_
 rintro e a' w' ⟨a1, rfl, hag, σ2, g2, q1, q2, q3, q4, q5⟩
 have hac1 : { a1 with defers := [] } = a1 := by
  have := q2.defers
  cases a1
  simp only at this
  rw [this]
 rw [hac1]
 cases e with
 | normal =>
  obtain ⟨g3, r1, r2, r3⟩ := q1 _ _ _ _ _ q2
  have e1 : g3.A0 = fun x => g.A0 x \/ x = b := r2.trans (Prod.mk.inj q5).1
  have e2 : g3.R0 = g.R0 := r3.trans (Prod.mk.inj q5).2
  have hb' : w'.heap[b]? = some (.map es clk) := (q4.block b k2).trans k6
  have hs := r1.shr hb' k2 h3d
  have hv1 : a1.tmps.getD d (g3.R0.ξ d) = .map (some b) := by
   rw [e2, g.R0.lo d hdm]
   rw [g.R0.lo d hdm] at hval
   exact (hag d hD).trans hval
  refine ⟨_, rows, { g3 with A0 := fun x => g3.A0 x /\ x ≠ b }, hQ, ⟨⟨n1, es, clk, k1, k2, fun h => h.2 rfl, ?_, q3, hb', zax.keep (fun x hx => q4.block x hx.1) (fun x hx => ⟨hx.1, by rw [e1]; exact Or.inl hx.2, fun e => k3 (e ▸ hx.2)⟩) ag rows _ k7⟩, hM.nb, fun x hx => ?_, by show g3.R0 = _; rw [e2]; exact hM.r0, hM.new⟩, h2.mono q4.size, h3.trans (zyb k1 q4)⟩
  ·refine hs.slots_of rfl rfl hs.defers hs.size fun i => ?_
   show VR σ3 _ w' (Go.Proofs.Yteeaofpphmhjdaa.upd σ3.sl d _ i) _
   by_cases hi : i = d
   ·subst hi
    rw [zac]
    exact hv1
   ·rw [zaj _ _ hi]
    exact hs.slots i
  ·have h1 : g3.A0 x := hx.1
   rw [e1] at h1
   exact hM.sub x (h1.resolve_right hx.2)
 | exit _ => exact (show False from q1).elim
 | goto _ => exact (show False from q1).elim
 | ret => exact (show False from q1).elim
 | panic _ => exact (show False from q1).elim
 | outgrown => exact (show False from q1).elim
theorem zb6.cond {c : Operand} {x y : Code} {σ : St} {rows : List (List T)} {Q : Exit -> St -> List (List T) -> Prop} {u : Bool} (hv : σ.get P 0 c = .one (.t (.bool u))) (ht : u = true -> zb6 P N ag b x σ rows Q) (hf : u = false -> zb6 P N ag b y σ rows Q) : zb6 P N ag b (.cond c x y) σ rows Q := fun n0 w0 A0 g a w hM h2 h3 => by
 obtain ⟨n1, es, clk, k1, k2, k3, k4, k5, k6, k7⟩ := hM.rel
 have hv' := k4.get P 0 c
 rw [hv] at hv'
 simp only [VR, CR, zaf] at hv'
 exact wp_cond_split hv' (fun e => ht e n0 w0 A0 g a w hM h2 h3) (fun e => hf e n0 w0 A0 g a w hM h2 h3)
end
theorem za4.scope2 {i d0 d1 : Nat} {mt t0 t1 : TypeId} {p0 p1 : String} {f0 f1 : Array Edge} {X : Code} {σ : St} {Q : Exit -> St -> Prop} {ops : Array Oper} (ag : Bool) (hz : ops.size = 2) (c0 : ops[0]? = some ⟨some d0, .makeMap mt none, t0, p0, f0, none⟩) (c1 : ops[1]? = some ⟨some d1, .assign (.tmp d0), t1, p1, f1, none⟩) (hd : d0 < N /\ d1 < N)
  (h : ∀ b, zb6 P N ag b X ((σ.put (some d0) (.one (.cv (.map (some b))))).put (some d1) (.one (.cv (.map (some b))))) [] (fun e σ' _ => Q e σ')) :
  za4 P N (.seq (.region i ops false) X) σ Q := fun n0 w0 A0 g a w hR h2 h3 h4 => by
 refine wp_seq (wp_region ?_)
 have e0 : (execOp a.eval ⟨some d0, .makeMap mt none, t0, p0, f0, none⟩).run P w = .ok (.value (.map (some w.heap.size))) (w.alloc (.map #[] 0)) := by
  unfold execOp
  simp only [Option.map_none, Sem.run_bind, zm0, Result.andThen_ok, Sem.run_pure]
 have hR1 := (hR.enter1 (.map #[] 0)).put (some d0) (x := .one (.cv (.map (some w.heap.size)))) (v := .map (some w.heap.size)) rfl (fun j hj => by cases hj; exact hd.1)
 have ev : (a.put (some d0) (.map (some w.heap.size))).eval (.tmp d0) = .map (some w.heap.size) := by
  show (a.tmps.setIfInBounds d0 _).getD d0 undef = _
  exact zcr hR.size hd.1 _ _
 have hR2 := hR1.put (some d1) (x := .one (.cv (.map (some w.heap.size)))) (v := .map (some w.heap.size)) rfl (fun j hj => by cases hj; exact hd.2)
 rw [hz]
 show wpOps P _ _ [0, 1] a w
 rw [wpOps_cons]
 unfold wpOp
 simp only [c0]
 rw [if_pos (by simp [Region.wanted])]
 refine Or.inl ?_
 unfold Oper.wp
 rw [e0]
 show wpOps P _ _ [1] _ _
 rw [wpOps_cons]
 unfold wpOp
 simp only [c1]
 rw [if_pos (by simp [Region.wanted])]
 refine Or.inl ?_
 unfold Oper.wp
 have e1 : ∀ (a : Act) (w : World), (execOp a.eval ⟨some d1, .assign (.tmp d0), t1, p1, f1, none⟩).run P w = .ok (.value (a.eval (.tmp d0))) w := fun a w => rfl
 rw [e1, ev]
 have hbk : Bk n0 w (w.alloc (.map #[] 0)) := ⟨rfl, rfl, rfl, by simp, fun k hk => Below.heap_alloc w _ k (h2 k hk)⟩
 have hM : RelM n0 N ((σ.put (some d0) (.one (.cv (.map (some w.heap.size))))).put (some d1) (.one (.cv (.map (some w.heap.size))))) ag [] w.heap.size A0 { g with A0 := fun b => g.A0 b /\ b ≠ w.heap.size } ((a.put (some d0) (.map (some w.heap.size))).put (some d1) (.map (some w.heap.size))) (w.alloc (.map #[] 0)) := by
  refine ⟨⟨fun b => n0 b \/ b = w.heap.size, #[], 0, fun x hx => Or.inl hx, Or.inr rfl, fun q => q.2 rfl, hR2, fun x hx => ?_, (Go.MapKept.heap_alloc w _).1, ?_⟩, h2.new (Nat.le_refl _), fun x hx => ?_, ?_, fun x hx => ?_⟩
  ·rcases hx with q | q
   ·have := h2 x q; simp; omega
   ·simp; omega
  ·unfold zax; rfl
  ·rw [<- h4]; exact hx.1
  ·rw [<- h4]
  ·rw [<- h4]; exact hR.anew x hx
 refine wp_mono (h w.heap.size n0 w0 A0 _ _ _ hM (h2.mono hbk.size) (h3.trans hbk)) fun e a' w' hq => ?_
 obtain ⟨σ', rows, g', q1, q3, q4, q5⟩ := hq
 obtain ⟨n1, es, clk, k1, k2, k3, k4, k5, k6, k7⟩ := q3.rel
 exact ⟨σ', { g' with A0 := A0.1 }, q1, k4.leave k1 q3.sub (fun x hx => ⟨(q3.new x hx).1, by rw [q3.r0]; exact (q3.new x hx).2⟩), q4, q5, by show (A0.1, g'.R0) = A0; rw [q3.r0]⟩
end Go.Proofs.Yteeaofpphmhjdaa
namespace Go.Proofs.Yteeaofpphmhjdaa
set_option linter.unusedSimpArgs false
set_option linter.unusedVariables false
set_option linter.unusedSectionVars false
set_option maxRecDepth 4000
open Go.RowKit
def prI (p : Int × Int) : List T := [.int .i64 p.1, .int .i64 p.2]
theorem zf1 (x : Int) : ∀ P : List (Int × Int), zbz (.int .i64 x) (P.map prI) = some ((P.find? fun p => p.1 == x).map fun p => [.int .i64 p.2])
 | [] => rfl
 | p :: P => by
  rw [List.map_cons, prI, zbz, List.find?_cons]
  by_cases h : x = p.1
  ·subst h
   simp [zn5]
  ·have h1 : (p.1 == x) = false := by simp; omega
   have h2 : zn5 (.int .i64 x) (.int .i64 p.1) = some false := by simp [zn5, h]
   rw [h1, h2]
   exact zf1 x P
theorem zi5 {x : Int} {P : List (Int × Int)} (h : ∀ p ∈ P, p.1 ≠ x) : zbz (.int .i64 x) (P.map prI) = some none := by
 rw [zf1, List.find?_eq_none.2 fun p hp => by simpa using h p hp]; rfl
def mpP (n : Nat) (B : List Bool) : Nat -> List (Int × Int)
 | 0 => (List.range n).map fun i : Nat => ((i : Int), (i : Int))
 | k + 1 => mpP n B k ++ if B.getD (n + k) false = true then [((n : Int) + (k : Nat), (n : Int) + (rk n B k : Nat))] else []
theorem zoj {n : Nat} {B : List Bool} : ∀ {k : Nat} {p : Int × Int}, p ∈ mpP n B k -> 0 <= p.1 /\ p.1 < n + k /\ p.2 = zsy n B p.1
 | 0, p, h => by
  unfold mpP at h
  obtain ⟨i, hi, rfl⟩ := List.mem_map.1 h
  have := List.mem_range.1 hi
  refine ⟨by simp only; omega, by simp only; omega, ?_⟩
  unfold zsy
  simp only
  rw [if_pos (by omega)]
 | k + 1, p, h => by
  unfold mpP at h
  rcases List.mem_append.1 h with h | h
  ·have := zoj h
   exact ⟨this.1, by omega, this.2.2⟩
  ·split at h
   next hb =>
    rw [List.mem_singleton] at h
    subst h
    refine ⟨by simp only; omega, by simp only; omega, ?_⟩
    unfold zsy
    simp only
    rw [if_neg (by omega), show ((n : Int) + (k : Nat)).toNat - n = k by omega]
   next => simp at h
theorem zwd {n : Nat} {B : List Bool} {j : Nat} (hB : B.getD j false = true) : ∀ {k : Nat}, j < n + k -> ∃ p ∈ mpP n B k, p.1 = (j : Int)
 | 0, h => ⟨((j : Int), (j : Int)), List.mem_map.2 ⟨j, List.mem_range.2 (by omega), rfl⟩, rfl⟩
 | k + 1, h => by
  unfold mpP
  by_cases hj : j < n + k
  ·obtain ⟨p, h1, h2⟩ := zwd hB hj
   exact ⟨p, List.mem_append_left _ h1, h2⟩
  ·have e : j = n + k := by omega
   subst e
   rw [if_pos hB]
   exact ⟨_, List.mem_append_right _ (List.mem_singleton.2 rfl), by simp only; omega⟩
theorem zqw {n : Nat} {B : List Bool} {j k : Nat} (hB : B.getD j false = true) (h : j < n + k) : zbz (.int .i64 (j : Int)) ((mpP n B k).map prI) = some (some [.int .i64 (zsy n B (j : Int))]) := by
 rw [zf1]
 obtain ⟨p, h1, h2⟩ := zwd hB h
 cases hf : (mpP n B k).find? fun p => p.1 == (j : Int) with
 | none =>
  have := List.find?_eq_none.1 hf p h1
  simp [h2] at this
 | some q =>
  have e1 : q.1 = (j : Int) := by simpa using List.find?_some hf
  have e2 := (zoj (List.mem_of_find?_eq_some hf)).2.2
  rw [Option.map_some, e2, e1]
theorem zhd {α : Type} {f : α -> List T} (h : ∀ x, (!(f x).isEmpty && ztr (f x)) = true) : ∀ xs : List α, qdg (xs.map f) = true
 | [] => rfl
 | x :: xs => by
  have := h x
  rw [Bool.and_eq_true] at this
  rw [List.map_cons, qdg, this.1, this.2, zhd h xs]; rfl
theorem zq8 (xs : List Int) : noM (zas xs) = true := by
 rw [noM]; exact zhd (fun x => rfl) xs
theorem zvt (S : List (List Int)) : noM (zav S) = true := by
 rw [noM]
 refine zhd (fun x => ?_) S
 have := zq8 x
 simp [ztr, this]
theorem qgl (st : List Ps) : noM (psS st) = true := by
 rw [noM]
 refine zhd (fun x => ?_) st
 have := zq8 x.c
 rw [zcz]
 simp [ztr, noM] at this ⊢
 exact this
def mp0 (i : Nat) : List (Int × Int) := (List.range i).map fun j : Nat => ((j : Int), (j : Int))
theorem qbc (i : Nat) : (mp0 (i + 1)).map prI = (mp0 i).map prI ++ [[.int .i64 i, .int .i64 i]] := by
 unfold mp0
 rw [List.range_succ, List.map_append, List.map_append]; rfl
theorem mp0_no (i : Nat) : zbz (.int .i64 (i : Int)) ((mp0 i).map prI) = some none := zi5 fun p hp => by
 obtain ⟨j, hj, rfl⟩ := List.mem_map.1 hp
 have := List.mem_range.1 hj
 simp only; omega
set_option maxHeartbeats 2000000 in
theorem zg2 {S : List (List Int)} {st : List Ps} (h : SzR S st) : FC Try.prog 28 [.one (zav S), .one (psS st)] [.one (psS (trR S st).1), bD (trR S st).2] := by
 have HC := zc4 h
 unfold trR
 cases hk : zid S st
 ·rw [hk] at HC
  rw [if_neg (by simp)]
  refine zot Try.call28 Try.func28 rfl (zbb (by kernel_rfl)) ?_
  refine za4.cut 2 rfl (by kernel_rfl) ?_
  simp -implicitDefEqProofs only [go_sem, Try.results28]
  refine callF (HC) (by simp -implicitDefEqProofs only [go_sem]) ?_
  simp -implicitDefEqProofs only [go_sem]
  skip
 ·obtain ⟨h1, h2, h3, h4⟩ := zin hk
  rw [hk] at HC
  rw [if_pos rfl]
  have hSl := zer h1
  have HN := zqf S st (by omega) (by omega) (by omega) h4
  have hBl := qd9 S.length st
  have hdep := zwn (zg9 h3).1
  unfold trm
  generalize nd S.length st = B at HN hBl hdep ⊢
  refine zot Try.call28 Try.func28 rfl (zbb (by kernel_rfl)) ?_
  refine za4.cut 2 rfl (by kernel_rfl) ?_
  simp -implicitDefEqProofs only [go_sem, Try.results28]
  refine callF (HC) (by simp -implicitDefEqProofs only [go_sem]) ?_
  simp -implicitDefEqProofs only [go_sem]
  refine callF (HN) (by simp -implicitDefEqProofs only [go_sem]) ?_
  simp -implicitDefEqProofs only [go_sem]
  refine za4.scope2 false rfl rfl rfl (by simp only [Try.ntmps28]; omega) ?_
  intro b
  refine zb6.seq ?_
  refine zb6.cut 0 rfl (by kernel_rfl) ?_
  simp -implicitDefEqProofs only [go_sem]
  refine zb6.block ?_
  refine zb6.loop (fun i : Nat => hd [(0, .one (.rn (zav S))), (1, .one (.rn (psS st))), (6, .one (.ow 576 0)), (7, .one (.cv (.map (some b)))), (21, vI S.length), (22, vI i)] [] [(576, ⟨true, 1, B.map fun b => [.bool b], 0, true⟩)])
   (fun i => (mp0 i).map prI) (fun i => i <= S.length) (fun i => S.length - i) 0 (zaa ?_) rfl (Nat.zero_le _) ?_
  ·simp -implicitDefEqProofs only [go_sem]
  ·intro i hi
   refine zb6.cut 1 rfl (by kernel_rfl) ?_
   by_cases hil : i < S.length
   ·have hno := mp0_no i
    have hsu := qbc i
    generalize (mp0 i).map prI = R at hno hsu
    simp -implicitDefEqProofs only [go_sem, hil]
    refine zb6.seq ?_
    refine zb6.block ?_
    refine zb6.cut 0 rfl (by kernel_rfl) ?_
    simp -implicitDefEqProofs only [go_sem]
    refine zb6.upd 3 rfl rfl rfl (by kernel_rfl) ?_
    simp -implicitDefEqProofs only [go_sem, hno, Try.underlying101, Try.underlying3]
    refine zb6.ofEx (by kernel_rfl) ?_
    simp -implicitDefEqProofs only [go_sem]
    rw [show IntKind.i64.wrap ((i : Int) + 1) = ((i + 1 : Nat) : Int) from zaw (by omega)]
    refine ⟨i + 1, hil, by omega, hsu, zaa ?_⟩
    simp -implicitDefEqProofs only [go_sem]
   ·have hin : i = S.length := by omega
    subst hin
    rw [show (mp0 S.length).map prI = (mpP S.length B 0).map prI from rfl]
    simp -implicitDefEqProofs only [go_sem, hil]
    refine zb6.cut 0 rfl (by kernel_rfl) ?_
    simp -implicitDefEqProofs only [go_sem]
    refine zan (by simp -implicitDefEqProofs only [go_sem]) ?_
    simp -implicitDefEqProofs only [go_sem]
    refine zb6.seq ?_
    refine zb6.cut 0 rfl (by kernel_rfl) ?_
    simp -implicitDefEqProofs only [go_sem]
    refine zb6.block ?_
    refine zb6.loop (fun k : Nat => hd [(0, .one (.rn (zav S))), (1, .one (.rn (psS st))), (6, .one (.ow 576 0)), (7, .one (.cv (.map (some b)))), (9, .one (.ow 928 (trF S.length B st k).length)), (30, .one (.rn (psS st))), (31, vI st.length), (32, vI k)] [] [(576, ⟨true, 1, B.map fun b => [.bool b], 0, true⟩), (928, ⟨true, 4, (trF S.length B st k).map psC, (trF S.length B st k).length, true⟩)])
     (fun k => (mpP S.length B k).map prI) (fun k => k <= st.length) (fun k => st.length - k) 0 (zaa ?_) rfl (Nat.zero_le _) ?_
    ·simp -implicitDefEqProofs only [go_sem]
     rfl
    ·intro k hk
     refine zb6.cut 1 rfl (by kernel_rfl) ?_
     by_cases hkl : k < st.length
     ·have hwk : IntKind.i64.wrap ((k : Int) + 1) = ((k + 1 : Nat) : Int) := zaw (by omega)
      have hwn : IntKind.i64.wrap ((S.length : Int) + (k : Int)) = ((S.length + k : Nat) : Int) := by rw [zam (by omega) (by omega)]; omega
      have hBk : S.length + k < B.length := by omega
      have hgb : B.getD (S.length + k) false = B[S.length + k] := by rw [List.getD_eq_getElem?_getD, List.getElem?_eq_getElem hBk]; rfl
      have hgs : st.getD k ps0 = st[k] := by rw [List.getD_eq_getElem?_getD, List.getElem?_eq_getElem hkl]; rfl
      have hdk := hdep k hkl
      have hb4 := h4 k hkl
      have hsl := h.tc st[k] (List.getElem_mem hkl)
      have htl := ze5 S.length B st k
      have hrk := rk_le S.length B k
      have hT : trF S.length B st (k + 1) = trF S.length B st k ++ if B[S.length + k] = true then [trS S.length B (st.getD k ps0)] else [] := by rw [trF, hgb]
      have hM : (mpP S.length B (k + 1)).map prI = (mpP S.length B k).map prI ++ if B[S.length + k] = true then [[.int .i64 ((S.length + k : Nat) : Int), .int .i64 ((S.length : Int) + (rk S.length B k : Nat))]] else [] := by
       rw [mpP, hgb, List.map_append]
       split
       ·rw [List.map_singleton, prI, show (S.length : Int) + (k : Nat) = ((S.length + k : Nat) : Int) by omega]
       ·rfl
      rw [hgs] at hdk hb4 hT
      rw [hgb] at hdk
      have hps := zcz st[k]
      generalize hsk : st[k] = s at hdk hb4 hT hsl hps
      obtain ⟨sl, sr, sp, sc⟩ := s
      simp only at hdk hb4 hsl
      obtain ⟨l, rfl⟩ : ∃ l : Nat, sl = l := ⟨sl.toNat, by omega⟩
      obtain ⟨r, rfl⟩ : ∃ r : Nat, sr = r := ⟨sr.toNat, by omega⟩
      simp only [Int.toNat_natCast] at hdk
      simp -implicitDefEqProofs only [go_sem, hkl]
      refine zb6.seq ?_
      refine zb6.block ?_
      refine zb6.cut 1 rfl (by kernel_rfl) ?_
      simp -implicitDefEqProofs only [go_sem, hkl, zag, hsk, zcz]
      rw [hwn]
      simp -implicitDefEqProofs only [go_sem, hBk, zag]
      refine zb6.cond (u := B[S.length + k]) (by simp -implicitDefEqProofs only [go_sem]) (fun ht => ?_) (fun hf => ?_)
      ·rw [if_pos ht] at hT hM
       have hd' := hdk ht
       have hno : zbz (.int .i64 ((S.length + k : Nat) : Int)) ((mpP S.length B k).map prI) = some none := zi5 fun p hp => by
        have := (zoj hp).2.1; omega
       have hfl := zqw (k := k + 1) (n := S.length) hd'.1 (by omega)
       have hfr := zqw (k := k + 1) (n := S.length) hd'.2 (by omega)
       have hwt : IntKind.i64.wrap ((S.length : Int) + ((trF S.length B st k).length : Int)) = (S.length : Int) + (rk S.length B k : Nat) := by rw [htl, zam (by omega) (by omega)]
       have HO := zi6 sc (by omega)
       have hS1 : qdg (S.map fun s => [zas s]) = true := by have := zvt S; rwa [noM] at this
       have hS2 : qdg (st.map psC) = true := by have := qgl st; rwa [noM] at this
       have hol : (trF S.length B st k).length <= 4294967295 := by omega
       refine zb6.seq ?_
       refine zb6.upd 10 rfl rfl rfl (by kernel_rfl) ?_
       simp -implicitDefEqProofs only [go_sem]
       rw [hwn, hwt]
       simp -implicitDefEqProofs only [go_sem, hno, Try.underlying101, Try.underlying3]
       rw [<- hM]
       obtain ⟨R, hRe⟩ : ∃ R, (mpP S.length B (k + 1)).map prI = R := ⟨_, rfl⟩
       rw [hRe] at hM hfl hfr ⊢
       refine zb6.read (d := 7) (D := fun i => i ≠ 7) (σ3 := hd [(0, .one (.rn (zav S))), (1, .one (.rn (psS st))), (6, .one (.ow 576 0)), (9, .one (.ow 928 (trF S.length B st (k + 1)).length)), (30, .one (.rn (psS st))), (31, vI st.length), (32, vI k)] [] [(576, ⟨true, 1, B.map fun b => [.bool b], 0, true⟩), (928, ⟨true, 4, (trF S.length B st (k + 1)).map psC, (trF S.length B st (k + 1)).length, true⟩)]) (by simp -implicitDefEqProofs only [go_sem]) (by omega) (fun h => h rfl) (NoM.of (by simp [noMV, qd8, vI, noM, hS1, hS2]) rfl rfl) (zdz.drawn (by kernel_rfl) (by kernel_rfl) (by kernel_rfl) (by intro d hd; simp [zbk] at hd; omega) ?_) ?_
       ·simp -implicitDefEqProofs only [go_sem]
        refine qdo (v := vI (zsy S.length B (l : Int))) (by simp -implicitDefEqProofs only [go_sem, hfl, Try.underlying101, Try.underlying3]) ?_
        simp -implicitDefEqProofs only [go_sem]
        refine qdo (v := vI (zsy S.length B (r : Int))) (by simp -implicitDefEqProofs only [go_sem, hfr, Try.underlying101, Try.underlying3]) ?_
        simp -implicitDefEqProofs only [go_sem]
        refine zfi (HO) (by simp -implicitDefEqProofs only [go_sem]) ?_
        simp -implicitDefEqProofs only [go_sem]
        refine zfn (by simp -implicitDefEqProofs only [go_sem]) ?_
        simp -implicitDefEqProofs only [go_sem]
        refine qfe true (by simp -implicitDefEqProofs only [go_sem, ne_eq, List.length_map, hol]) ?_
        simp -implicitDefEqProofs only [go_sem, ne_eq, List.length_map, hol]
        refine ⟨by kernel_rfl, zaa ?_⟩
        simp -implicitDefEqProofs only [go_sem]
        rw [hT, List.map_append]
        rfl
       ·refine zb6.ofEx (by kernel_rfl) ?_
        simp -implicitDefEqProofs only [go_sem]
        rw [hwk]
        refine ⟨k + 1, hkl, by omega, hRe, zaa ?_⟩
        simp -implicitDefEqProofs only [go_sem]
      ·rw [if_neg (by rw [hf]; simp), List.append_nil] at hT hM
       refine zb6.ofEx (by kernel_rfl) ?_
       simp -implicitDefEqProofs only [go_sem]
       refine zb6.ofEx (by kernel_rfl) ?_
       simp -implicitDefEqProofs only [go_sem]
       rw [hwk]
       refine ⟨k + 1, hkl, by omega, hM, zaa ?_⟩
       simp -implicitDefEqProofs only [go_sem]
       rw [hT]
       skip
     ·have hkn : k = st.length := by omega
      subst hkn
      simp -implicitDefEqProofs only [go_sem, hkl]
      refine zb6.ofEx (by kernel_rfl) ?_
      simp -implicitDefEqProofs only [go_sem]
      skip
end Go.Proofs.Yteeaofpphmhjdaa
namespace Go.Proofs.Yteeaofpphmhjdaa
set_option linter.unusedSimpArgs false
set_option linter.unusedVariables false
set_option linter.unusedSectionVars false
set_option maxRecDepth 4000
open Go.RowKit
theorem trF_c {n : Nat} {B : List Bool} {st : List Ps} : ∀ {k : Nat}, k <= st.length -> ∀ {s : Ps}, s ∈ trF n B st k -> ∃ t ∈ st, s.c = t.c
 | 0, _, s, h => by simp [trF] at h
 | k + 1, hk, s, h => by
  unfold trF at h
  rcases List.mem_append.1 h with h | h
  ·exact trF_c (by omega) h
  ·split at h
   next =>
    rw [List.mem_singleton] at h
    subst h
    refine ⟨st[k], List.getElem_mem (by omega), ?_⟩
    rw [List.getD_eq_getElem?_getD, List.getElem?_eq_getElem (by omega)]; rfl
   next => simp at h
theorem W_len : ∀ {xs : List Ps} {M : Nat}, (∀ s ∈ xs, s.c.length <= M) -> zbw xs <= xs.length * (M + 1)
 | [], M, _ => by simp [zbw]
 | a :: xs, M, h => by
  have h1 := W_len (xs := xs) (M := M) fun s hs => h s (List.mem_cons_of_mem _ hs)
  have h2 := h a (by simp)
  unfold zbw at h1 ⊢
  rw [List.length_cons, List.map_cons, List.sum_cons, Nat.succ_mul, Ps.wt]
  omega
end Go.Proofs.Yteeaofpphmhjdaa
namespace Go.Proofs.Yteeaofpphmhjdaa
set_option linter.unusedSimpArgs false
set_option linter.unusedVariables false
set_option linter.unusedSectionVars false
set_option maxRecDepth 4000
open Go.RowKit
variable {P : Program} {N : Nat}
def zzw (E : List (Nat × Ev)) : V -> Bool
 | .one (.t t) => t.flat
 | .one (.ow e _) => (tbl E e).isSome
 | .one .any => true
 | _ => false
def zib (D : List Nat) (σ : St) (R : List (Nat × V)) (E : List (Nat × Ev)) : St :=
 ⟨fun i => if D.contains i = true then zdr R i else σ.sl i, σ.bx, fun e => match tbl E e with | some x => some x | none => σ.ev e⟩
theorem zi0 {E : List (Nat × Ev)} : ∀ {R : List (Nat × V)}, (R.all fun p => zzw E p.2) = true -> ∀ i, zzw E (zdr R i) = true
 | [], _, _ => rfl
 | (j, v) :: R, h, i => by
  rw [List.all_cons, Bool.and_eq_true] at h
  unfold zdr
  split
  ·exact h.1
  ·exact zi0 h.2 i
theorem zor {α : Type} {q : α -> Bool} : ∀ {l : List (Nat × α)} {i : Nat} {x : α}, (l.all fun p => q p.2) = true -> tbl l i = some x -> q x = true /\ ∃ p ∈ l, p.1 = i
 | [], i, x, _, h => by cases h
 | (j, y) :: l, i, x, hall, h => by
  rw [List.all_cons, Bool.and_eq_true] at hall
  unfold tbl at h
  split at h
  ·rename_i e
   obtain rfl := Option.some.inj h
   exact ⟨hall.1, (j, y), by simp, e.symm⟩
  ·obtain ⟨h1, p, h2, h3⟩ := zor hall.2 h
   exact ⟨h1, p, List.mem_cons_of_mem _ h2, h3⟩
theorem qfx {w : World} {A : Nat -> Prop} {x : Ev} {v : Value} {fp : List Nat} (hd : x.deep = true) (h : EvR w A x v fp) : zar w (.sl x.sz x.rows) v fp := by
 obtain ⟨ao, cap, h1, h2, h3, h4⟩ := h
 unfold zar
 refine ⟨ao, cap, h1, h2, h3, h4.imp (fun q => q) ?_⟩
 rintro ⟨b, cells, ty, fps, q1, q2, q3, q4, q5⟩
 rw [if_pos hd] at q5
 exact ⟨b, cells, ty, fps, q1, q2, q3, q4, q5⟩
set_option maxHeartbeats 1000000 in
theorem za4.lend {c : Code} {σ : St} {Q : Exit -> St -> Prop} (L R : List (Nat × V)) (E : List (Nat × Ev)) (hL : Wk σ (hd L [] [])) (hE : ∀ e, tbl E e ≠ none -> σ.ev e = none) (hE2 : (E.all fun p => p.2.deep && p.2.on && (p.2.gen == 0)) = true) (hR : (R.all fun p => zzw E p.2) = true)
  (hX : zdz P N (fun i => i ∈ zbk c) c (hd L [] []) (nkR (hd R [] E))) (hQ : Q .normal (zib (zbk c) σ R E)) : za4 P N c σ Q := fun n0 w0 A0 g a w hr h2 h3 h4 => by
 obtain ⟨g1, m1, m2, m3⟩ := hL _ _ _ _ _ hr
 have hG : Rel (fun b => b < w.heap.size) N (hd L [] []) g1 a w := by
  refine m1.turn (fun b hf => ⟨hf.2.2.2, rfl⟩) (Nat.le_refl _) (fun b hb => m1.anew b (h2.new (by omega))) (fun k hk => absurd rfl hk) fun e ho b hm => ?_
  obtain ⟨x, hx, _⟩ := ho
  cases hx
 have hac : { a with defers := [] } = a := by
  have := hr.defers
  cases a
  simp only at this
  rw [this]
 have run := hX none 0 [] (fun b => b < w.heap.size) w (g1.A0, g1.R0) a g1 a w hG (fun k hk => hk) (Bk.refl _ _) rfl (Ag.refl _ _)
 rw [hac] at run
 refine wp_mono ((wpIn_wide (n := 0)).1 run) ?_
 rintro e a' w' ⟨a1, rfl, hag, σ2, g2, q1, q2, q3, q4, q5⟩
 have hac1 : { a1 with defers := [] } = a1 := by
  have := q2.defers
  cases a1
  simp only at this
  rw [this]
 rw [hac1]
 cases e with
 | normal =>
  obtain ⟨g3, r1, r2, r3⟩ := q1 _ _ _ _ _ q2
  have e2 : g3.R0 = g.R0 := (r3.trans (Prod.mk.inj q5).2).trans m3
  have hbel : Below w.heap.size w w' := ⟨q4.os, q4.tape, q4.output, q4.size, fun k hk => q4.block k hk⟩
  have hev : ∀ e x, tbl E e = some x -> x.deep = true /\ x.on = true /\ x.gen = 0 := fun e x he => by
   have := (zor (q := fun x : Ev => x.deep && x.on && (x.gen == 0)) hE2 he).1
   simp only [Bool.and_eq_true, beq_iff_eq] at this
   exact ⟨this.1.1, this.1.2, this.2⟩
  have hon : ∀ e x, tbl E e = some x -> (hd R [] E).On e := fun e x he => ⟨x, he, (hev e x he).2.1⟩
  obtain ⟨g4, hg4⟩ : ∃ g4 : Gh, g4 = ⟨g.β, fun e => if tbl E e = none then g.ψ e else g3.ψ e, fun e => if tbl E e = none then g.φ e else g3.φ e, g.A0, g.R0⟩ := ⟨_, rfl⟩
  have hψ : ∀ e, tbl E e ≠ none -> g4.ψ e = g3.ψ e /\ g4.φ e = g3.φ e := fun e he => by rw [hg4]; simp [he]
  have hnw : New σ g (w.heap.size <= ·) w' (zib (zbk c) σ R E).ev g4 (E.flatMap fun p => g3.φ p.1) := by
   refine ⟨by rw [hg4], by rw [hg4], by rw [hg4], fun e he => ?_, fun e x h1 hx => ?_, fun e e' h1 h2' h5 h6 hne => ?_, fun e n => ?_⟩
   ·have hn : tbl E e = none := Classical.byContradiction fun h => he (hE e h)
    rw [hg4]
    simp [zib, hn]
   ·have hx : (match tbl E e with | some x => some x | none => σ.ev e) = some x := hx
    cases ht : tbl E e with
    | none => rw [ht] at hx; rw [h1] at hx; cases hx
    | some y =>
     rw [ht] at hx
     obtain rfl := Option.some.inj hx
     obtain ⟨f1, f2, f3⟩ := hev e y ht
     have hee := r1.evs e y ht f2
     rw [f3] at hee
     obtain ⟨k1, k2⟩ := hψ e (by rw [ht]; simp)
     rw [k1, k2]
     refine ⟨⟨f1, f2, f3⟩, qfx f1 hee, fun b hb => ⟨?_, ?_⟩, r1.nodup e (hon e y ht)⟩
     ·have := r1.etop e (hon e y ht) b hb
      exact Nat.le_of_not_lt this
     ·obtain ⟨_, p, hp, he⟩ := zor (q := fun _ => true) (by simp) ht
      rw [List.mem_flatMap]
      exact ⟨p, hp, by rw [he]; exact hb⟩
   ·have ne : ∀ e, σ.ev e = none -> (zib (zbk c) σ R E).ev e ≠ none -> ∃ x, tbl E e = some x := fun e h1 h2 => by
     cases ht : tbl E e with
     | none =>
      have : (zib (zbk c) σ R E).ev e = σ.ev e := by simp [zib, ht]
      rw [this] at h2; exact absurd h1 h2
     | some y => exact ⟨y, rfl⟩
    obtain ⟨x, hx⟩ := ne e h1 h5
    obtain ⟨x', hx'⟩ := ne e' h2' h6
    rw [(hψ e (by rw [hx]; simp)).2, (hψ e' (by rw [hx']; simp)).2]
    exact r1.apart e e' (hon e x hx) (hon e' x' hx') hne
   ·rw [hg4]
    show ∃ ao l c, (if tbl E e = none then g.ψ e else g3.ψ e) n = _
    split
    ·exact hr.slc e n
    ·exact r1.slc e n
  have hA := hr.after h2 hbel hnw
  refine ⟨_, g4, hQ, ?_, h2.mono q4.size, h3.trans (Bk.of_below hbel h2), by rw [hg4]; exact h4⟩
  refine hA.slots_of rfl rfl r1.defers r1.size fun i => ?_
  have hξ : g4.R0 = g.R0 := by rw [hg4]
  show VR _ g4 w' (if (zbk c).contains i = true then zdr R i else σ.sl i) _
  by_cases hi : (zbk c).contains i = true
  ·rw [if_pos hi]
   have hv := r1.slots i
   have hl := zi0 hR i
   rw [e2] at hv
   rw [hξ]
   have hv : VR (hd R [] E) g3 w' (zdr R i) (a1.tmps.getD i (g.R0.ξ i)) := hv
   generalize zdr R i = x at hv hl ⊢
   cases x with
   | agg _ => cases hl
   | tup _ => cases hl
   | one c' =>
    cases c' with
    | t t => exact zcg hl hv
    | ow e n =>
     obtain ⟨y, hy⟩ := Option.isSome_iff_exists.1 (show (tbl E e).isSome = true from hl)
     obtain ⟨k1, x, k2, k3⟩ := hv
     refine ⟨by rw [(hψ e (by rw [hy]; simp)).1]; exact k1, y, ?_, ?_⟩
     ·show (match tbl E e with | some x => some x | none => σ.ev e) = some y
      rw [hy]
     ·have : tbl E e = some x := k2
      rw [hy] at this
      obtain rfl := Option.some.inj this
      exact k3
    | any => trivial
    | _ => cases hl
  ·rw [if_neg hi]
   have hv := hA.slots i
   have hni : ¬ i ∈ zbk c := fun h => hi (by simpa using h)
   have h1 := hag i hni
   have e : a1.tmps.getD i (g4.R0.ξ i) = a.tmps.getD i (g4.R0.ξ i) := by
    rw [Array.getD_eq_getD_getElem?, Array.getD_eq_getD_getElem?] at h1 ⊢
    by_cases hlt : i < N
    ·have s1 : i < a.tmps.size := by rw [hr.size]; exact hlt
     have s2 : i < a1.tmps.size := by rw [r1.size]; exact hlt
     simp only [Array.getElem?_eq_getElem s1, Array.getElem?_eq_getElem s2, Option.getD_some] at h1 ⊢
     exact h1
    ·have s1 : ¬ i < a.tmps.size := by rw [hr.size]; exact hlt
     have s2 : ¬ i < a1.tmps.size := by rw [r1.size]; exact hlt
     simp [s1, s2]
   rw [e]
   exact hv
 | exit _ => exact (show False from q1).elim
 | goto _ => exact (show False from q1).elim
 | ret => exact (show False from q1).elim
 | panic _ => exact (show False from q1).elim
 | outgrown => exact (show False from q1).elim
theorem za4.lendA {c : Code} {σ : St} {Q : Exit -> St -> Prop} (D : List Nat) (hD : zbk c = D) (L R : List (Nat × V)) (E : List (Nat × Ev)) (hL : Wk σ (hd L [] [])) (hE : ∀ e, tbl E e ≠ none -> σ.ev e = none) (hE2 : (E.all fun p => p.2.deep && p.2.on && (p.2.gen == 0)) = true) (hR : (R.all fun p => zzw E p.2) = true)
  (hX : zdz P N (fun i => i ∈ zbk c) c (hd L [] []) (nkR (hd R [] E))) {l : List (Nat × V)} {bl : List (Nat × List C)} {el : List (Nat × Ev)} (hw : Wk (zib D σ R E) (hd l bl el)) (hK : ∀ σ', Wk σ' (hd l bl el) -> Q .normal σ') : za4 P N c σ Q := by
 subst hD
 exact za4.lend L R E hL hE hE2 hR hX (hK _ hw)
theorem zf7 (D : List Nat) (σ : St) (R : List (Nat × V)) (E : List (Nat × Ev)) (i : Nat) : (zib D σ R E).sl i = if D.contains i = true then zdr R i else σ.sl i := rfl
theorem zf9 (D : List Nat) (σ : St) (R : List (Nat × V)) (E : List (Nat × Ev)) : (zib D σ R E).bx = σ.bx := rfl
theorem zf2 (D : List Nat) (σ : St) (R : List (Nat × V)) (E : List (Nat × Ev)) (e : Nat) : (zib D σ R E).ev e = match tbl E e with | some x => some x | none => σ.ev e := rfl
theorem Wk.fzO {σ σ' : St} (e : Nat) (k : zal (σ.ev e) fun x => x.deep = true /\ x.on = true /\ Wk (σ.fz e x) σ') : Wk σ σ' := by
 obtain ⟨x, hx, h1, h2, h3⟩ := zai k
 exact (qf6 hx h1 h2).trans h3
theorem Wk.fbO {σ σ' : St} (j : Nat) (k : zal (σ.bx j) fun cs => zal (zzi cs) fun ts => Wk (σ.fb j ts) σ') : Wk σ σ' := by
 obtain ⟨cs, hb, k⟩ := zai k
 obtain ⟨ts, ht, k⟩ := zai k
 exact (fb_wk hb ht).trans k
theorem Wk.elP {σ σ' : St} (i : Nat) {cs : List T} (h : σ.sl i = .one (.el cs 0)) (k : Wk (σ.put (some i) (.one (.t (.ptr cs)))) σ') : Wk σ σ' := fun n0 N g a w hR => by
 refine k n0 N g a w (hR.slots_of rfl rfl hR.defers hR.size fun j => ?_)
 show VR σ g w (Go.Proofs.Yteeaofpphmhjdaa.upd σ.sl i _ j) _
 by_cases hj : j = i
 ·subst hj
  rw [zac]
  have hv := hR.slots j
  rw [h] at hv
  obtain ⟨b, q, h1, h2, h3⟩ := hv
  show zaf w (Fix σ g w) (.ptr cs) _
  unfold zaf
  exact ⟨b, q, h1, h2, h3⟩
 ·rw [zaj _ _ hj]
  exact hR.slots j
theorem za4.wkS {c : Code} {σ σ' : St} {Q : Exit -> St -> Prop} (h : Wk σ σ') (k : za4 P N c σ' Q) : za4 P N c σ Q := fun n0 w0 A0 g a w h1 h2 h3 h4 => by
 obtain ⟨g', r1, r2, r3⟩ := h _ _ _ _ _ h1
 exact k n0 w0 A0 g' a w r1 h2 h3 (by rw [r2, r3]; exact h4)
end Go.Proofs.Yteeaofpphmhjdaa
namespace Go.Proofs.Yteeaofpphmhjdaa
set_option linter.unusedSimpArgs false
set_option linter.unusedVariables false
set_option linter.unusedSectionVars false
set_option maxRecDepth 4000
open Go.RowKit
variable {P : Program}
def PCE {X : Type} (P : Program) (f : FuncId) (bx : Bxs) (l : List AF) (Pr : X -> Prop) (bx' : X -> Bxs) (res : X -> List (Bool × D)) : Prop := zaz P f /\ (∀ x, Pr x -> (bx' x).length = bx.length) /\ ∀ (w : World) (bs : Nat -> Nat) (bvs : List (List Value)) (dvs : List Value) (fp tp : List Nat) (A : Nat -> Prop),
 (∀ i j, i < bx.length -> j < bx.length -> bs i = bs j -> i = j) -> (∀ j, j < bx.length -> bs j ∉ fp) -> zmd w bs 0 bvs bx →
 zao w (fun k => (k < w.heap.size /\ k ∉ fp /\ ∀ j, j < bx.length -> k ≠ bs j) /\ A k) (AF.ds l ++ bxA bx.flatten) (dvs ++ bvs.flatten) fp tp -> fp.Nodup -> dvs.length = (AF.ds l).length →
 Calls P f ⟨AF.vals bs l dvs⟩ w fun e w' => ∃ x, Pr x /\ ∃ us bvs' fp' tp', e = .returned (zbd us) /\ zmd w' bs 0 bvs' (bx' x) /\ us.length = (res x).length ∧
  zao w' (fun k => (k < w'.heap.size /\ k ∉ fp' /\ ∀ j, j < bx.length -> k ≠ bs j) /\ (A k \/ w.heap.size <= k \/ k ∈ fp)) ((res x) ++ bxA (bx' x).flatten) (us ++ bvs'.flatten) fp' tp' /\ fp'.Nodup /\ (∀ b ∈ fp', b ∈ fp \/ w.heap.size <= b) ∧
  Bk (fun k => k < w.heap.size /\ k ∉ fp /\ ∀ j, j < bx.length -> k ≠ bs j) w w'
def PBE {X : Type} (P : Program) (rs : List ResultVar) (Pr : X -> Prop) (res : X -> List (Bool × D)) (bx : X -> Bxs) (e : Exit) (σ : St) : Prop := match e with
 | .normal => ∃ x, Pr x /\ (PB0 P rs (res x) (bx x) [] σ \/ ∃ pl, PB0 P rs (res x) (bx x) pl σ)
 | .ret => ∃ x, Pr x /\ (PB0 P rs (res x) (bx x) [] σ \/ ∃ pl, PB0 P rs (res x) (bx x) pl σ)
 | _ => False
theorem zrr {X : Type} {Pr : X -> Prop} {K : St -> Prop} {W : List Nat} {o : Oper} {σ : St} {τs : Nat -> V} {τe : Nat -> Option Ev} {τb : Nat -> Option (List C)} {x : Operand} {asx : Array Operand} {ts : Array TypeId} {f : FuncId} {cvs : List V} {d : Nat} {bx : Bxs} {bx' : X -> Bxs} {l : List AF} {res : X -> List (Bool × D)} {ps : List (Nat × Nat × Nat)} (ho : o.op = .call ⟨.value x, asx, ts⟩) (hd : o.dst = some d)
  (h : PCE P f bx l Pr bx' res) (hc : zau (σ.get P 0 x) = some (f, cvs)) (hK : ∀ x, Pr x -> KeptB W σ ⟨τs, zd4 d (za5 (res x)).length W (bx' x) τb, τe⟩) (hWn : W.Nodup)
  (hv : mtK W l (σ.gets P asx ts ++ cvs) fun us => qat σ W bx fun cs => gvA σ (fun u => ∀ s ∈ u, τe s.1 = none) [] ps (us ++ cs) (AF.ds l ++ bxA bx.flatten)) (hf : ∀ x, Pr x -> mF d 0 (za5 (res x) ++ (bx' x).flatten) τe) (hKs : ∀ x, Pr x -> K (St.callP ⟨τs, τb, τe⟩ d W (bx' x) (res x))) : zbo P o σ K := by
 intro n0 N g a w hR hn hdN
 obtain ⟨vs, h1, h2⟩ := zc7 hR ho hc h.1
 unfold Oper.wp
 rw [h1]
 obtain ⟨B, hB⟩ := hR.fam
 let bs : Nat -> Nat := fun j => g.β (W.getD j 0)
 have hbs : ∀ j b, W[j]? = some b -> bs j = g.β b := fun j b hj => by show g.β (W.getD j 0) = _; rw [List.getD_eq_getElem?_getD, hj]; rfl
 obtain ⟨us, dvs, a1, a2, a3, rfl⟩ := zd5 hbs hv h2
 obtain ⟨cs, bvs, b1, b2, b3, b4, b5⟩ := zf6 hR (bs := bs) (j := 0) (fun i b hi => by rw [Nat.zero_add]; exact hbs i b hi) a1
 obtain ⟨s, k1, ⟨tp, k2⟩, k3, k4⟩ := zc2 hR hB b1 (VRl.append a2 b2)
 rw [List.append_nil] at k1 k4
 have hsp : s.Pairwise okP := (List.pairwise_reverse.1 (k4 List.Pairwise.nil)).imp fun h => h.symm
 have hnd := zcw hR hB k3 hsp
 have hfp : ∀ b ∈ bks B s, ∃ e, σ.On e /\ τe e = none /\ b ∈ g.φ e := fun b hb => by
  obtain ⟨x, hx, hm⟩ := List.mem_flatMap.1 hb
  exact ⟨x.1, k3 x hx, k1 x (List.mem_reverse.2 hx), hB.sub x.1 x.2 b (k3 x hx) hm⟩
 have hfn : ∀ b, zby σ g w b -> b ∉ bks B s := fun b hb hm => by obtain ⟨e, h1, _, h3⟩ := hfp b hm; exact hb.2 e h1 h3
 have hWj : ∀ j, j < bx.length -> ∃ b, W[j]? = some b /\ b ∈ W /\ bs j = g.β b := fun j hj => by
  have hlt : j < W.length := by omega
  exact ⟨W[j], List.getElem?_eq_getElem hlt, List.getElem_mem hlt, hbs j _ (List.getElem?_eq_getElem hlt)⟩
 have hWb : ∀ b ∈ W, ∃ j, j < bx.length /\ bs j = g.β b := fun b hb => by
  obtain ⟨j, hj, rfl⟩ := List.getElem_of_mem hb
  exact ⟨j, by omega, hbs j _ (List.getElem?_eq_getElem hj)⟩
 have hinj : ∀ i j, i < bx.length -> j < bx.length -> bs i = bs j -> i = j := fun i j hi hj he => by
  obtain ⟨b, e1, e2, e3⟩ := hWj i hi
  obtain ⟨c, f1, f2, f3⟩ := hWj j hj
  have : b = c := hR.inj b c (b5 b e2) (b5 c f2) (by rw [<- e3, <- f3]; exact he)
  subst this
  have hi' : i < W.length := by omega
  have hj' : j < W.length := by omega
  rw [List.getElem?_eq_getElem hi'] at e1
  rw [List.getElem?_eq_getElem hj'] at f1
  exact (List.getElem_inj hWn).1 ((Option.some.inj e1).trans (Option.some.inj f1).symm)
 have hbf : ∀ j, j < bx.length -> bs j ∉ bks B s := fun j hj hm => by
  obtain ⟨b, _, e2, e3⟩ := hWj j hj
  obtain ⟨e, h1, _, h3⟩ := hfp _ hm
  exact hR.ebx e b h1 (b5 b e2) (e3 ▸ h3)
 have hfb : ∀ b, zby σ g w b -> ∀ j, j < bx.length -> b ≠ bs j := fun b hb j hj e => by
  obtain ⟨c, _, e2, e3⟩ := hWj j hj
  exact hb.1.1 c (b5 c e2) (by rw [<- e3, e])
 refine (h.2.2 w bs bvs dvs (bks B s) tp (zby σ g w) hinj hbf b3 (zao.keepA (fun b hb => ⟨⟨hb.1.2.2.1, hfn b hb, hfb b hb⟩, hb⟩) k2) hnd a3).mono ?_
 rintro e w' ⟨x0, hx0, us', bvs', fp', tp', rfl, hbx', hlu, o1, o2, o3, hbk⟩
 obtain ⟨v1, v2, f1, f2, t1, t2, ev, ef, et, p1, p2⟩ := zao.split o1
 obtain ⟨rfl, rfl⟩ := List.append_inj ev (by rw [hlu, zao.len p1])
 subst ef
 obtain ⟨t1', p1'⟩ := p1.flat
 have pp := zao.append p1' p2
 rw [<- zeq] at pp
 have hnew := New.refl ⟨τs, zd4 d (za5 (res x0)).length W (bx' x0) τb, τe⟩ g (fun b => b ∈ bks B s \/ w.heap.size <= b) w' hR.slc
 obtain ⟨g', q1, q2, q3⟩ := New.mix (τ := ⟨τs, zd4 d (za5 (res x0)).length W (bx' x0) τb, τe⟩) (g := g) (NB := fun b => b ∈ bks B s \/ w.heap.size <= b) (w' := w') d (za5 (res x0) ++ (bx' x0).flatten) _ (f1 ++ f2) _ 0 τe g [] hnew (hf x0 hx0) pp o2 (fun b hb' => ⟨o3 b hb', by simp⟩)
 have hbk' : Bk (fun k => k < w.heap.size /\ k ∉ bks B s /\ ∀ b ∈ W, k ≠ g.β b) w w' := ⟨hbk.os, hbk.tape, hbk.output, hbk.size, fun k hk => hbk.block k ⟨hk.1, hk.2.1, fun j hj e => by
  obtain ⟨c, _, e2, e3⟩ := hWj j hj
  exact hk.2.2 c e2 (by rw [<- e3, e])⟩⟩
 have hfree : ∀ k, ((k < w'.heap.size /\ k ∉ f1 ++ f2 /\ ∀ j, j < bx.length -> k ≠ bs j) /\ (zby σ g w k \/ w.heap.size <= k \/ k ∈ bks B s)) -> zby ⟨τs, zd4 d (za5 (res x0)).length W (bx' x0) τb, mE d 0 (za5 (res x0) ++ (bx' x0).flatten) τe⟩ g' w' k := fun k hk => by
  have hOnσ : ∀ e, St.On ⟨τs, zd4 d (za5 (res x0)).length W (bx' x0) τb, τe⟩ e -> σ.On e := fun e ⟨x, hx, ho⟩ => ⟨x, ((hK x0 hx0).ev e x hx).1, ho⟩
  have hno : ∀ e, St.On ⟨τs, zd4 d (za5 (res x0)).length W (bx' x0) τb, mE d 0 (za5 (res x0) ++ (bx' x0).flatten) τe⟩ e -> k ∉ g'.φ e := fun e ho' hm => by
   by_cases hee : τe e = none
   ·obtain ⟨x, hx, _⟩ := ho'
    have := ((q1.new e x hee hx).2.2.1 k hm).2
    rw [List.nil_append] at this
    exact hk.1.2.1 this
   ·rw [(q1.old e hee).2.2] at hm
    obtain ⟨x, hx, hon⟩ := ho'
    have ho2 : St.On ⟨τs, zd4 d (za5 (res x0)).length W (bx' x0) τb, τe⟩ e := ⟨x, (q1.old e hee).1.symm.trans hx, hon⟩
    rcases hk.2 with h | h | h
    ·exact h.2 e (hOnσ e ho2) hm
    ·obtain ⟨y, hy, hyo⟩ := hOnσ e ho2
     have := (hR.evs e y hy hyo).lt k hm; omega
    ·obtain ⟨e', h1, h2, h3⟩ := hfp k h
     refine hR.apart e e' (hOnσ e ho2) h1 (fun ee => ?_) k hm h3
     subst ee
     obtain ⟨y, hy, _⟩ := ho2
     have hy : τe e = some y := hy
     rw [h2] at hy; cases hy
  have hbne : ∀ b, zd4 d (za5 (res x0)).length W (bx' x0) τb b ≠ none -> σ.bx b ≠ none := fun b hb => by
   by_cases hbW : b ∈ W
   ·exact ((hK x0 hx0).bxW b hbW).1
   obtain ⟨cs, hcs⟩ := Option.ne_none_iff_exists'.1 hb
   rw [((hK x0 hx0).bx b cs hbW hcs).1]; simp
  refine ⟨⟨fun j hj e => ?_, fun e x hx hon hh => hno e ⟨x, hx, hon⟩ (List.mem_of_mem_head? hh), hk.1.1, ?_⟩, hno⟩
  ·have hj' := hbne j hj
   rw [q1.β] at e
   rcases hk.2 with h | h | h
   ·exact h.1.1 j hj' e
   ·have := hR.lt hj'; omega
   ·obtain ⟨e', h1, _, h3⟩ := hfp k h
    exact hR.ebx e' j h1 hj' (e ▸ h3)
  ·rw [q1.A0]
   rcases hk.2 with h | h | h
   ·exact h.1.2.2.2
   ·exact (hR.anew k (hn.new h)).1
   ·obtain ⟨e', h1, _, h3⟩ := hfp k h
    exact (hR.ebase e' h1 k h3).1
 have hcr := q3 ⟨τs, zd4 d (za5 (res x0)).length W (bx' x0) τb, mE d 0 (za5 (res x0) ++ (bx' x0).flatten) τe⟩ w' rfl fun t v h => zaf.keep (fun _ _ => rfl) hfree t v h
 obtain ⟨hc1, hc2⟩ := hcr.split_flat (A := fun _ => True) (w' := w') (m := 0) (zao.one_vals p1)
 have hR' := hR.givenB hn (hK x0 hx0) (fun b hb => by obtain ⟨e, x1, x2, x3⟩ := hfp b hb; exact ⟨e, x1, x2, x3⟩) hbk' q1 (zgb d W (bx' x0) bvs' 0 (za5 (res x0)).length τb (fun i b hi => by rw [Nat.zero_add]; exact hbs i b hi) hbx' hc2 (by rw [h.2.1 x0 hx0]; omega))
 have hBk : Bk n0 w w' := ⟨hbk.os, hbk.tape, hbk.output, hbk.size, fun k hk => hbk.block k ⟨hn k hk, fun hm => by
  obtain ⟨e, h1, _, h3⟩ := hfp k hm
  exact hR.etop e h1 k h3 hk, fun j hj e => by
  obtain ⟨c, _, e2, e3⟩ := hWj j hj
  exact hR.base c (b5 c e2) (by rw [<- e3, <- e]; exact hk)⟩⟩
 refine ⟨_, g', hKs x0 hx0, ?_, hBk, q1.A0, q1.R0⟩
 have hp := hR'.put (some d) (x := znd (mD d 0 (res x0))) (v := zbd us') (zey (zsq d 0 p1 hc1) (zqr d (res x0) 0)) (fun i hi => by cases hi; exact hdN d hd)
 rw [hd]
 exact hp
theorem qe4 {X : Type} {Pr : X -> Prop} {f : FuncId} {fn : Func} {c : Code} {bx : Bxs} {bx' : X -> Bxs} {l : List AF} {res : X -> List (Bool × D)} (hc : zaz P f) (hf : P.funcs[f]? = some fn) (hb : fn.body = some c) (hN : l.length <= fn.ntmps) (hN2 : fn.ntmps <= 1000000) (hbl : ∀ x, Pr x -> (bx' x).length = bx.length) (hj : AF.okJ bx.length l = true) (hs : za8 (AF.ds l ++ bxA bx.flatten)) (hfs : gFS (AF.ds l ++ bxA bx.flatten) = true) (hrl : ∀ x, Pr x -> fn.results.toList.length = (res x).length)
  (h : za4 P fn.ntmps c (ze3 l bx) (PBE P fn.results.toList Pr res bx')) : PCE P f bx l Pr bx' res := by
 refine ⟨hc, hbl, fun w bs bvs dvs fp tp A hinj hbf hbx hv hn hl => ?_⟩
 refine calls_of_wp hf hb ?_
 obtain ⟨g, hg, hR⟩ := zhe (N := fn.ntmps) hinj hbf hbx hv hn hl hj hN hN2 hs hfs (ξ := fun i => if 1000000 <= i then zne (bs (i - 1000000)) else undef) (fun i hi => if_neg (by omega)) (fun i b => by
  by_cases h : 1000000 <= i
  ·rw [if_pos h]; exact fun e => by cases e
  ·rw [if_neg h]; exact fun e => by cases e) (fun j hj => by
  rw [if_pos (by omega), show 1000000 + j - 1000000 = j by omega])
 refine wp_mono (h _ w _ g _ w hR (fun k hk => hk.1) (Bk.refl _ _) hg) fun e a' w' hq => ?_
 obtain ⟨σ', g', h1, h2, h3, h4, h5⟩ := hq
 have hξ : ∀ x0, Pr x0 -> ∀ q, q < (bx' x0).length -> g'.R0.ξ (1000000 + (0 + q)) = zne (bs (0 + q))   := fun x0 hx0 q hq => by
  rw [(Prod.mk.inj h5).2, Nat.zero_add]
  show (if 1000000 <= 1000000 + q then zne (bs (1000000 + q - 1000000)) else undef) = _
  rw [if_pos (by omega), show 1000000 + q - 1000000 = q by omega]
 have key : ∀ x0, Pr x0 -> (∃ pl, PB0 P fn.results.toList (res x0) (bx' x0) pl σ') -> ∃ v, (results fn a'.tmps).run P w' = .ok v w' /\ ∃ us bvs' fp' tp', Ending.returned v = .returned (zbd us) /\ zmd w' bs 0 bvs' (bx' x0) /\ us.length = (res x0).length ∧
   zao w' (fun k => (k < w'.heap.size /\ k ∉ fp' /\ ∀ j, j < bx.length -> k ≠ bs j) /\ (A k \/ w.heap.size <= k \/ k ∈ fp)) ((res x0) ++ bxA (bx' x0).flatten) (us ++ bvs'.flatten) fp' tp' /\ fp'.Nodup /\ (∀ b ∈ fp', b ∈ fp \/ w.heap.size <= b) /\ Bk (fun k => k < w.heap.size /\ k ∉ fp /\ ∀ j, j < bx.length -> k ≠ bs j) w w' := by
  rintro x0 hx0 ⟨pl, hk⟩
  obtain ⟨vs, hvs, hk⟩ := zai hk
  obtain ⟨us, r1, r2⟩ := zba h2 fn hvs
  obtain ⟨cs, bvs', k0, b1, b2, b3⟩ := zfj (bs := bs) h2 hN2 (hξ x0 hx0) hk
  obtain ⟨B, hB⟩ := h2.fam
  obtain ⟨s, k1, ⟨tp', k2⟩, k3, k4⟩ := zc2 h2 hB k0 (VRl.append r2 b2)
  rw [List.append_nil] at k4
  have hsp : s.Pairwise okP := (List.pairwise_reverse.1 (k4 List.Pairwise.nil)).imp fun h => h.symm
  have hin : ∀ b ∈ bks B s, ∃ e, σ'.On e /\ b ∈ g'.φ e := fun b hb => by
   obtain ⟨x, hx, hm⟩ := List.mem_flatMap.1 hb
   exact ⟨x.1, k3 x hx, hB.sub x.1 x.2 b (k3 x hx) hm⟩
  have hbβ : ∀ j, j < bx.length -> σ'.bx (1000000 + j) ≠ none /\ g'.β (1000000 + j) = bs j := fun j hj => by
   have := b3 j (by rw [hbl x0 hx0]; exact hj)
   rwa [Nat.zero_add] at this
  have hA : ∀ b, zby σ' g' w' b -> (b < w'.heap.size /\ b ∉ bks B s /\ ∀ j, j < bx.length -> b ≠ bs j) /\ (A b \/ w.heap.size <= b \/ b ∈ fp) := fun b hb => by
   have hnb : ∀ j, j < bx.length -> b ≠ bs j := fun j hj e => hb.1.1 _ (hbβ j hj).1 (by rw [(hbβ j hj).2, e])
   refine ⟨⟨hb.1.2.2.1, fun hm => ?_, hnb⟩, ?_⟩
   ·obtain ⟨e, ho, hm⟩ := hin b hm
    exact hb.2 e ho hm
   ·have h0 := hb.1.2.2.2
    rw [(Prod.mk.inj h5).1] at h0
    rcases h0 with h0 | h0 | h0 | ⟨j, hj, h0⟩
    ·exact Or.inl h0
    ·exact Or.inr (Or.inl h0)
    ·exact Or.inr (Or.inr h0)
    ·exact absurd h0 (hnb j hj)
  refine ⟨_, r1, us, bvs', bks B s, tp', rfl, b1, by rw [r2.len, <- hrl x0 hx0]; exact zdo hvs, zao.keepA hA k2, zcw h2 hB k3 hsp, fun b hb => ?_, h4⟩
  obtain ⟨e, ho, hm⟩ := hin b hb
  have h0 := (h2.ebase e ho b hm).2
  rw [(Prod.mk.inj h5).2] at h0
  rcases h0 with h0 | h0 | ⟨j, hj, h0⟩
  ·exact Or.inl h0
  ·exact Or.inr h0
  ·have := h2.ebx e _ ho (hbβ j hj).1
   rw [(hbβ j hj).2] at this
   exact absurd (h0 ▸ hm) this
 have fin : (∃ x0, Pr x0 /\ (PB0 P fn.results.toList (res x0) (bx' x0) [] σ' \/ ∃ pl, PB0 P fn.results.toList (res x0) (bx' x0) pl σ')) -> ∃ v, (results fn a'.tmps).run P w' = .ok v w' /\ ∃ x0, Pr x0 /\ ∃ us bvs' fp' tp', Ending.returned v = .returned (zbd us) /\ zmd w' bs 0 bvs' (bx' x0) /\ us.length = (res x0).length ∧
   zao w' (fun k => (k < w'.heap.size /\ k ∉ fp' /\ ∀ j, j < bx.length -> k ≠ bs j) /\ (A k \/ w.heap.size <= k \/ k ∈ fp)) (res x0 ++ bxA (bx' x0).flatten) (us ++ bvs'.flatten) fp' tp' /\ fp'.Nodup /\ (∀ b ∈ fp', b ∈ fp \/ w.heap.size <= b) /\ Bk (fun k => k < w.heap.size /\ k ∉ fp /\ ∀ j, j < bx.length -> k ≠ bs j) w w' := by
  rintro ⟨x0, hx0, hk⟩
  obtain ⟨v, k1, k2⟩ := key x0 hx0 (hk.elim (fun h => ⟨[], h⟩) fun h => h)
  exact ⟨v, k1, x0, hx0, k2⟩
 cases e with
 | normal => exact ⟨h2.defers, fin h1⟩
 | ret => exact ⟨h2.defers, fin h1⟩
 | exit _ => exact h1.elim
 | goto _ => exact h1.elim
 | panic _ => exact h1.elim
 | outgrown => exact h1.elim
section
variable {ks : List Fr} {Q : Exit -> St -> Prop} {σ : St} {ops : Array Oper} {os : List Oper} {ty : TypeId} {ps : String} {af : Array Edge} {d : Nat} {x : Operand} {asx : Array Operand} {ts : Array TypeId} {f : FuncId} {bx : Bxs} {l : List AF}
theorem zov {X : Type} {Pr : X -> Prop} {bx' : X -> Bxs} {res : X -> List (Bool × D)} (L A W : List Nat) (pl : List (Nat × Nat × Nat)) (h : PCE P f bx l Pr bx' res) (hWn : W.Nodup) (hWl : ∀ x, Pr x -> W.length = (bx' x).length) (hw : wkK σ (A ++ L))
  (hk : ∀ x, Pr x -> qa0 (σ.BW L W) (σ.KB (A ++ L)) /\ qa0 W (σ.KB (A ++ L)) /\ qa0 (σ.EW L W) (σ.KE (A ++ L)) /\ okL ⟨zdr (σ.lL L), zd4 d (za5 (res x)).length W (bx' x) (tbl (σ.lB (σ.BW L W))), tbl (σ.lE (σ.EW L W))⟩ (σ.lL L) /\ okB ⟨zdr (σ.lL L), zd4 d (za5 (res x)).length W (bx' x) (tbl (σ.lB (σ.BW L W))), tbl (σ.lE (σ.EW L W))⟩ (σ.lB (σ.BW L W)) /\ okE (σ.lE (σ.EW L W)))
  (hp : zal (zau ((σ.hL (A ++ L)).get P 0 x)) fun p => p.1 = f /\ mtK W l ((σ.hL (A ++ L)).gets P asx ts ++ p.2) fun us => qat (σ.hL (A ++ L)) W bx fun cs => gvA (σ.hL (A ++ L)) (zue (σ.lE (σ.EW L W))) [] pl (us ++ cs) (AF.ds l ++ bxA bx.flatten))
  (hf : ∀ x, Pr x -> mF d 0 (za5 (res x) ++ (bx' x).flatten) (tbl (σ.lE (σ.EW L W))))
  (k : ∀ x, Pr x -> exo P ops os ks Q ((σ.hW L W).callP d W (bx' x) (res x))) : exo P ops (⟨some d, .call ⟨.value x, asx, ts⟩, ty, ps, af, none⟩ :: os) ks Q σ := by
 obtain ⟨⟨f', cvs⟩, h1, rfl, h2⟩ := zai hp
 have hK : ∀ x, Pr x -> KeptB W (σ.hL (A ++ L)) ⟨zdr (σ.lL L), zd4 d (za5 (res x)).length W (bx' x) (tbl (σ.lB (σ.BW L W))), tbl (σ.lE (σ.EW L W))⟩ := by
  intro x0 hx0
  obtain ⟨k1, k2, k3, k4, k5, k6⟩ := hk x0 hx0
  refine ⟨fun i => ?_, fun b cs hb hcs => ?_, fun b hb => ⟨?_, znu d W (bx' x0) _ _ b (hWl x0 hx0) hb⟩, fun e x he => ?_⟩
  ·by_cases hi : i ∈ L
   ·refine Or.inr ⟨?_, zo7 k4 i⟩
    show zdr (σ.lL L) i = zdr (σ.lL (A ++ L)) i
    rw [(zd9 L i).1 hi, (zd9 (A ++ L) i).1 (List.mem_append_right _ hi)]
   ·exact Or.inl ((zd9 L i).2 hi)
  ·have hcs : zd4 d (za5 (res x0)).length W (bx' x0) (tbl (σ.lB (σ.BW L W))) b = some cs := hcs
   rw [zkv d W (bx' x0) _ _ b hb] at hcs
   by_cases hm : b ∈ σ.BW L W
   ·refine ⟨?_, zod k5 b cs hcs⟩
    have e1 := (zb0 (fun b => (σ.bx b).getD []) (σ.BW L W) b).1 hm
    have e2 := (zb0 (fun b => (σ.bx b).getD []) (σ.KB (A ++ L)) b).1 (zdp k1 b hm)
    have e1 : tbl (σ.lB (σ.BW L W)) b = some ((σ.bx b).getD []) := e1
    rw [e1] at hcs
    cases hcs
    exact e2
   ·have e1 := (zb0 (fun b => (σ.bx b).getD []) (σ.BW L W) b).2 hm
    have e1 : tbl (σ.lB (σ.BW L W)) b = none := e1
    rw [e1] at hcs; cases hcs
  ·have e2 := (zb0 (fun b => (σ.bx b).getD []) (σ.KB (A ++ L)) b).1 (zdp k2 b hb)
   have e2 : (σ.hL (A ++ L)).bx b = some ((σ.bx b).getD []) := e2
   rw [e2]; simp
  ·have he : tbl (σ.lE (σ.EW L W)) e = some x := he
   by_cases hm : e ∈ σ.EW L W
   ·refine ⟨?_, zno k6 e x he⟩
    have e1 := (zb0 (fun e => (σ.ev e).getD ⟨false, 0, [], 0, false⟩) (σ.EW L W) e).1 hm
    have e2 := (zb0 (fun e => (σ.ev e).getD ⟨false, 0, [], 0, false⟩) (σ.KE (A ++ L)) e).1 (zdp k3 e hm)
    have e1 : tbl (σ.lE (σ.EW L W)) e = some ((σ.ev e).getD ⟨false, 0, [], 0, false⟩) := e1
    rw [e1] at he
    cases he
    exact e2
   ·have e1 := (zb0 (fun e => (σ.ev e).getD ⟨false, 0, [], 0, false⟩) (σ.EW L W) e).2 hm
    have e1 : tbl (σ.lE (σ.EW L W)) e = none := e1
    rw [e1] at he; cases he
 refine zq2 rfl rfl (zbo.pre (qeh hw) (zrr (P := P) (o := ⟨some d, .call ⟨.value x, asx, ts⟩, ty, ps, af, none⟩) rfl rfl h h1 hK hWn (ps := pl) ?_ hf k))
 exact zpj (fun us hu => zmm (fun cs hc => zfq (fun u hu => zhs hu) hc) hu) h2
end
end Go.Proofs.Yteeaofpphmhjdaa
namespace Go.Proofs.Yteeaofpphmhjdaa
set_option linter.unusedSimpArgs false
set_option linter.unusedVariables false
set_option linter.unusedSectionVars false
set_option maxRecDepth 4000
open Go.RowKit
variable {P : Program} {N : Nat}
inductive HasPin (u : Value) (t : T) : T -> Prop
 | here : HasPin u t (.pin u t)
 | sl {sz : Nat} {rows : List (List T)} {r : List T} {c : T} (hr : r ∈ rows) (hc : c ∈ r) (h : HasPin u t c) : HasPin u t (.sl sz rows)
 | ptr {cells : List T} {c : T} (hc : c ∈ cells) (h : HasPin u t c) : HasPin u t (.ptr cells)
theorem zat.mem {w : World} {A : Nat -> Prop} {b : Nat} : ∀ {cs : List T} {o : Nat} {c : T}, zat w A b o cs -> c ∈ cs -> ∃ v, zaf w A c v
 | d :: cs, o, c, h, hc => by
  unfold zat at h
  rcases List.mem_cons.1 hc with rfl | hc
  ·obtain ⟨⟨v, _, h1⟩, _⟩ := h; exact ⟨v, h1⟩
  ·exact zat.mem h.2 hc
theorem zah.mem {w : World} {A : Nat -> Prop} {b sz : Nat} : ∀ {rows : List (List T)} {o : Nat} {r : List T} {c : T}, zah w A b o sz rows -> r ∈ rows -> c ∈ r -> ∃ v, zaf w A c v
 | q :: rows, o, r, c, h, hr, hc => by
  unfold zah at h
  rcases List.mem_cons.1 hr with rfl | hr
  ·exact zat.mem h.2.1 hc
  ·exact zah.mem h.2.2 hr hc
theorem HasPin.rep {u : Value} {t d : T} (h : HasPin u t d) : ∀ {w : World} {A : Nat -> Prop} {v : Value}, zaf w A d v -> zaf w A t u := by
 induction h with
 | here =>
  intro w A v hv
  unfold zaf at hv
  rw [<- hv.1]; exact hv.2
 | sl hr hc _ ih =>
  intro w A v hv
  unfold zaf at hv
  obtain ⟨ao, cap, _, _, _, h4⟩ := hv
  rcases h4 with h4 | ⟨b, o, _, _, h6⟩
  ·rw [h4] at hr; cases hr
  ·obtain ⟨v', h7⟩ := zah.mem h6 hr hc
   exact ih h7
 | ptr hc _ ih =>
  intro w A v hv
  unfold zaf at hv
  obtain ⟨b, o, _, _, h3⟩ := hv
  obtain ⟨v', h7⟩ := zat.mem h3 hc
  exact ih h7
theorem Wk.slot {σ σ' : St} (i : Nat) {x : V} (h : ∀ (n0 : Nat -> Prop) (N : Nat) (g : Gh) (a : Act) (w : World), Rel n0 N σ g a w -> VR σ g w x (a.tmps.getD i (g.R0.ξ i))) (k : Wk (σ.put (some i) x) σ') : Wk σ σ' := fun n0 N g a w hR => by
 refine k n0 N g a w (hR.slots_of rfl rfl hR.defers hR.size fun j => ?_)
 show VR σ g w (Go.Proofs.Yteeaofpphmhjdaa.upd σ.sl i _ j) _
 by_cases hj : j = i
 ·subst hj
  rw [zac]
  exact h n0 N g a w hR
 ·rw [zaj _ _ hj]
  exact hR.slots j
theorem Wk.pinV {σ σ' : St} (i : Nat) {ao : Option Addr} {l n : Nat} {t : T} (h : σ.sl i = .one (.rn (.pin (.slice ao l n) t)) \/ σ.sl i = .one (.t (.pin (.slice ao l n) t))) (k : Wk (σ.put (some i) (.one (.t (.vs ao l n)))) σ') : Wk σ σ' :=
 Wk.slot i (fun n0 N g a w hR => by
  have hv := hR.slots i
  rcases h with h | h <;> rw [h] at hv
  ·have hv : zaf w (zby σ g w) (.pin (.slice ao l n) t) (a.tmps.getD i (g.R0.ξ i)) := hv
   unfold zaf at hv
   show zaf w (Fix σ g w) (.vs ao l n) _
   unfold zaf; exact hv.1
  ·have hv : zaf w (Fix σ g w) (.pin (.slice ao l n) t) (a.tmps.getD i (g.R0.ξ i)) := hv
   unfold zaf at hv
   show zaf w (Fix σ g w) (.vs ao l n) _
   unfold zaf; exact hv.1) k
theorem Wk.alias {σ σ' : St} (i j : Nat) {ao : Option Addr} {l n : Nat} {t d : T} (h : σ.sl i = .one (.t (.vs ao l n))) (hj : σ.sl j = .one (.t d)) (hp : HasPin (.slice ao l n) t d) (k : Wk (σ.put (some i) (.one (.t t))) σ') : Wk σ σ' :=
 Wk.slot i (fun n0 N g a w hR => by
  have hv := hR.slots i
  have hd := hR.slots j
  rw [h] at hv
  rw [hj] at hd
  have hv : zaf w (Fix σ g w) (.vs ao l n) (a.tmps.getD i (g.R0.ξ i)) := hv
  unfold zaf at hv
  have hd : zaf w (Fix σ g w) d (a.tmps.getD j (g.R0.ξ j)) := hd
  show zaf w (Fix σ g w) t _
  rw [hv]
  exact hp.rep hd) k
end Go.Proofs.Yteeaofpphmhjdaa
namespace Go.Proofs.Yteeaofpphmhjdaa
set_option linter.unusedSimpArgs false
set_option linter.unusedVariables false
set_option linter.unusedSectionVars false
set_option maxRecDepth 4000
open Go.RowKit
variable {P : Program} {N : Nat}
def pinAt (u : Value) (e n : Nat) : C -> T -> T
 | .ow e' n', t => if e' = e /\ n' = n then .pin u t else t
 | _, t => t
def zjr (u : Value) (e n : Nat) : List C -> List T -> List T
 | c :: cs, t :: ts => pinAt u e n c t :: zjr u e n cs ts
 | _, ts => ts
def zgz (u : Value) (e n : Nat) : List (List C) -> List (List T) -> List (List T)
 | r :: rs, t :: ts => zjr u e n r t :: zgz u e n rs ts
 | _, ts => ts
theorem zmf (u : Value) (e n : Nat) : ∀ (cs : List C) (ts : List T), (zjr u e n cs ts).length = ts.length
 | [], ts => by unfold zjr; rfl
 | c :: cs, [] => rfl
 | c :: cs, t :: ts => by unfold zjr; rw [List.length_cons, List.length_cons, zmf u e n cs ts]
theorem zit (u : Value) (e n : Nat) : ∀ (rs : List (List C)) (ts : List (List T)), (zgz u e n rs ts).map List.length = ts.map List.length
 | [], ts => by unfold zgz; rfl
 | r :: rs, [] => rfl
 | r :: rs, t :: ts => by unfold zgz; rw [List.map_cons, List.map_cons, zmf, zit u e n rs ts]
theorem zna {σ : St} {g : Gh} {w : World} {e n : Nat} {u : Value} (hu : g.ψ e n = u) : ∀ {cs : List C} {vs : List Value} {ts : List T} {fp : List Nat}, CRs σ g w cs vs -> zaq w ts vs fp -> zaq w (zjr u e n cs ts) vs fp
 | [], vs, ts, fp, _, h => by unfold zjr; exact h
 | c :: cs, vs, [], fp, _, h => h
 | c :: cs, vs, t :: ts, fp, hc, h => by
  obtain ⟨v, vs', rfl, h1, h2⟩ := hc
  unfold zaq at h
  obtain ⟨v1, vs1, f1, f2, e1, e2, h3, h4⟩ := h
  obtain ⟨rfl, rfl⟩ := List.cons.inj e1
  unfold zjr zaq
  refine ⟨v, vs', f1, f2, rfl, e2, ?_, zna hu h2 h4⟩
  cases c with
  | ow e' n' =>
   show zar w (if e' = e /\ n' = n then .pin u t else t) v f1
   by_cases hh : e' = e /\ n' = n
   ·rw [if_pos hh]
    obtain ⟨rfl, rfl⟩ := hh
    unfold zar
    exact ⟨h1.1.trans hu, h3⟩
   ·rw [if_neg hh]; exact h3
  | _ => exact h3
theorem zmp {σ : St} {g : Gh} {w : World} {e n : Nat} {u : Value} (hu : g.ψ e n = u) : ∀ {rs : List (List C)} {rows : List (List T)} {vs : List Value} {fp : List Nat}, rows.map List.length = rs.map List.length -> CRs σ g w rs.flatten vs -> zaq w rows.flatten vs fp -> zaq w (zgz u e n rs rows).flatten vs fp
 | [], rows, vs, fp, _, _, h => by unfold zgz; exact h
 | r :: rs, [], vs, fp, hl, _, h => by simp at hl
 | r :: rs, t :: rows, vs, fp, hl, hc, h => by
  rw [List.map_cons, List.map_cons] at hl
  obtain ⟨l1, l2⟩ := List.cons.inj hl
  rw [List.flatten_cons] at hc h
  obtain ⟨v1, v2, rfl, c1, c2⟩ := hc.split
  obtain ⟨u1, u2, f1, f2, e1, rfl, o1, o2⟩ := h.split
  have hl1 : v1.length = u1.length := by rw [c1.len, o1.len, l1]
  obtain ⟨rfl, rfl⟩ := List.append_inj e1 hl1
  unfold zgz
  rw [List.flatten_cons]
  exact zaq.append (zna hu c1 o1) (zmp hu l2 c2 o2)
theorem vr_vs (σ : St) (g : Gh) (w : World) {ao : Option Addr} {l c : Nat} {v : Value} (h : v = .slice ao l c) : VR σ g w (.one (.t (.vs ao l c))) v := by
 show zaf w (Fix σ g w) (.vs ao l c) v
 unfold zaf
 exact h
def blX (P : Program) (σ : St) (t : TypeId) (len : Nat) (parts : Array (Nat × Operand)) (u : Value) (e n : Nat) : Option (Ev × List (Nat × Ev)) :=
 (zon P (σ.get P) t len parts).bind fun p => (zr1 σ p.2).map fun q => (⟨true, p.1, zgz u e n p.2 q.1, 0, true⟩, q.2)
section
variable {ks : List Fr} {Q : Exit -> St -> Prop} {σ : St} {ops : Array Oper} {os : List Oper} {d : Nat} {t : TypeId} {ty : TypeId} {ps : String} {af : Array Edge} {len : Nat} {parts : Array (Nat × Operand)}
theorem qgn {K : St -> Prop} (i e n : Nat) (hi : σ.sl i = .one (.ow e n)) (hid : i ≠ d) (h : zal (blD P σ t len parts) fun r => σ.ev (d * 32) = none /\ (r.2.map (·.1)).Nodup)
  (k : ∀ ao l c, K (((σ.bl d (blX P σ t len parts (.slice ao l c) e n)).put (some d) (.one (.ow (d * 32) 0))).put (some i) (.one (.t (.vs ao l c))))) : zbo P ⟨some d, .buildSlice t len parts, ty, ps, af, none⟩ σ K := by
 obtain ⟨⟨x, cons⟩, h1, h3, h4⟩ := zai h
 unfold blD at h1
 obtain ⟨⟨m, rs⟩, e1, h1⟩ := Option.bind_eq_some_iff.1 h1
 obtain ⟨⟨rows, cons'⟩, e2, h1⟩ := Option.map_eq_some_iff.1 h1
 simp only [Prod.mk.injEq] at h1
 obtain ⟨rfl, rfl⟩ := h1
 simp only at e2 h3 h4
 intro n0 N g a w hR hn hdN
 obtain ⟨ao, l, c, hu⟩ := hR.slc e n
 have k := k ao l c
 have hbx : blX P σ t len parts (.slice ao l c) e n = some (⟨true, m, zgz (.slice ao l c) e n rs rows, 0, true⟩, cons') := by
  unfold blX
  rw [e1, Option.bind_some, e2]
  rfl
 rw [hbx] at k
 obtain ⟨cells, el, c1, c2, c3, c4, c5, c6⟩ := zkn e1 hR
 obtain ⟨o1, o2, o3⟩ := zjo hR c2 e2
 have o1' := zmp hu o3 c2 o1
 have o3' : (zgz (.slice ao l c) e n rs rows).map List.length = rs.map List.length := (zit _ _ _ _ _).trans o3
 generalize zgz (.slice ao l c) e n rs rows = rows' at o1' o3' k
 have hlen : rows'.length = len := by rw [<- c3]; simpa using congrArg List.length o3'
 have hl := zow o3' c4
 have hvl := o1'.len
 have hfl : rows'.flatten.length = len * m := by rw [zfg hl, hlen]
 obtain ⟨g', r1, r2, r3, r4⟩ := hR.newown hn (e := d * 32) h3 (cons := cons') (fun p hp => ⟨(o2 p hp).1, (o2 p hp).2, fun e => by have := (o2 p hp).1; rw [e, h3] at this; cases this⟩) (sz := m) (rows := rows') (vs := cells.toList) hl (dp := true) (by simp) (fun _ => o1') (by simp) (zfd hR o2 h4) (fun b hb => by
  unfold fpL at hb
  obtain ⟨p, hp, hbp⟩ := List.mem_flatMap.1 hb
  exact ⟨p, hp, hbp⟩) cells el len (by rw [c5]) (by omega) (by unfold zd0; omega) (List.take_of_length_le (by rw [hlen, Array.length_toList, c5]; omega))
 rw [hlen] at r2
 have hrun : (execOp a.eval ⟨some d, .buildSlice t len parts, ty, ps, af, none⟩).run P w = .ok (.value (.slice (some ⟨w.heap.size, 0, none⟩) len len)) (w.alloc (.cells cells el)) := by
  unfold execOp
  simp only [Sem.run_bind, c1, Result.andThen_ok, Sem.run_pure]
 unfold Oper.wp
 rw [hrun]
 have hv0 := hR.slots i
 rw [hi] at hv0
 have hv0 : a.tmps.getD i (g.R0.ξ i) = .slice ao l c := hv0.1.trans hu
 have hR2 := r1.put (some d) (x := .one (.ow (d * 32) 0)) (v := .slice (some ⟨w.heap.size, 0, none⟩) len len) ⟨r2, ⟨true, m, rows', 0, true⟩, by simp [St.apd, zac], Nat.le_refl _⟩ hdN
 refine ⟨_, g', k, ?_, ⟨rfl, rfl, rfl, by simp, fun k hk => Below.heap_alloc w _ k (hn k hk)⟩, r3, r4⟩
 refine hR2.slots_of rfl rfl hR2.defers hR2.size fun j => ?_
 show VR _ g' _ (Go.Proofs.Yteeaofpphmhjdaa.upd _ i _ j) _
 by_cases hj : j = i
 ·subst hj
  rw [zac]
  have hs := hR2.size
  have hN := hdN d rfl
  rw [r4]
  have : (a.put (some d) (.slice (some ⟨w.heap.size, 0, none⟩) len len)).tmps.getD j (g.R0.ξ j) = a.tmps.getD j (g.R0.ξ j) := by
   simp only [Act.put, Array.getD_eq_getD_getElem?]
   first
    | rw [Array.getElem?_setIfInBounds_ne (Ne.symm hid)]
    | rw [Array.getElem?_set_ne (Ne.symm hid)]
  exact vr_vs _ _ _ (this.trans hv0)
 ·rw [zaj _ _ hj]
  exact hR2.slots j
theorem qbp (i e n : Nat) (hi : σ.sl i = .one (.ow e n)) (hid : i ≠ d) (h : zal (blD P σ t len parts) fun r => σ.ev (d * 32) = none /\ (r.2.map (·.1)).Nodup)
  (k : ∀ ao l c, exo P ops os ks Q (((σ.bl d (blX P σ t len parts (.slice ao l c) e n)).put (some d) (.one (.ow (d * 32) 0))).put (some i) (.one (.t (.vs ao l c))))) :
  exo P ops (⟨some d, .buildSlice t len parts, ty, ps, af, none⟩ :: os) ks Q σ := zq2 rfl rfl (qgn i e n hi hid h k)
end
def wkQ (Q : Exit -> St -> Prop) (e : Exit) (σ : St) : Prop := ∃ σ', Wk σ σ' /\ Q e σ'
theorem za4.wkq {c : Code} {σ : St} {Q : Exit -> St -> Prop} (h : za4 P N c σ (wkQ Q)) : za4 P N c σ Q := fun n0 w0 A0 g a w h1 h2 h3 h4 => wp_mono (h n0 w0 A0 g a w h1 h2 h3 h4) fun e a' w' hq => by
 obtain ⟨σ1, g1, ⟨σ2, hw, hQ⟩, k2, k3, k4, k5⟩ := hq
 obtain ⟨g2, r1, r2, r3⟩ := hw _ _ _ _ _ k2
 exact ⟨σ2, g2, hQ, r1, k3, k4, by rw [r2, r3]; exact k5⟩
theorem za4.preX {c : Code} {σ : St} {Q : Exit -> St -> Prop} (h : WkX σ fun σ' => za4 P N c σ' Q) : za4 P N c σ Q := fun n0 w0 A0 g a w h1 h2 h3 h4 => by
 obtain ⟨σ1, g1, k, r1, r2, r3⟩ := h n0 N g a w h1 h2
 exact k n0 w0 A0 g1 a w r1 h2 h3 (by rw [r2, r3]; exact h4)
theorem FC.args {f : FuncId} {args args' res : List D} (h : FC P f args res) (hh : ∀ (w : World) (A : Nat -> Prop) (vs : List Value), zbc w A args' vs -> zbc w A args vs) : FC P f args' res := by
 refine ⟨h.1, fun w vs fp tp hv hn => ?_⟩
 obtain ⟨h1, rfl, rfl⟩ := zbq hv
 exact h.2 w vs [] [] (zka (hh w _ vs h1)) hn
theorem zaf.unpin {w : World} {A : Nat -> Prop} {u v : Value} {t : T} (h : zaf w A (.pin u t) v) : zaf w A t v := by
 unfold zaf at h; exact h.2
theorem FC.pin1 {f : FuncId} {t : T} {ds res : List D} (u : Value) (h : FC P f (.one t :: ds) res) : FC P f (.one (.pin u t) :: ds) res :=
 h.args fun w A vs hr => by
  obtain ⟨v, vs', rfl, h1, h2⟩ := hr
  exact ⟨v, vs', rfl, zaf.unpin h1, h2⟩
theorem zqn {w : World} {A : Nat -> Prop} {b : Nat} : ∀ {ts : List T} {o : Nat}, (∀ t ∈ ts, ∃ sz rows, t = .sl sz rows) -> zah w A b o 1 (ts.map fun t => [t]) →
  ∃ V : List (Option Addr × Nat × Nat), V.length = ts.length /\ zah w A b o 1 (List.zipWith (fun t v => [T.pin (.slice v.1 v.2.1 v.2.2) t]) ts V)
 | [], o, _, h => ⟨[], rfl, by unfold zah; trivial⟩
 | t :: ts, o, hs, h => by
  rw [List.map_cons] at h
  unfold zah at h
  obtain ⟨_, h2, h3⟩ := h
  obtain ⟨V, hV, hr⟩ := zqn (fun x hx => hs x (List.mem_cons_of_mem _ hx)) h3
  obtain ⟨sz, rows, rfl⟩ := hs t (by simp)
  unfold zat at h2
  obtain ⟨⟨v, c1, c2⟩, c3⟩ := h2
  obtain ⟨ao, cap, e, _⟩ := (by unfold zaf at c2; exact c2 : ∃ ao cap, v = .slice ao rows.length cap /\ _)
  refine ⟨(ao, rows.length, cap) :: V, by simp [hV], ?_⟩
  rw [List.zipWith_cons_cons]
  unfold zah zat
  refine ⟨rfl, ⟨⟨v, c1, ?_⟩, c3⟩, hr⟩
  unfold zaf
  exact ⟨e, c2⟩
theorem zz4 {w : World} {A : Nat -> Prop} {ts : List T} {v : Value} (hs : ∀ t ∈ ts, ∃ sz rows, t = .sl sz rows) (h : zaf w A (.sl 1 (ts.map fun t => [t])) v) :
  ∃ V : List (Option Addr × Nat × Nat), V.length = ts.length /\ zaf w A (.sl 1 (List.zipWith (fun t v => [T.pin (.slice v.1 v.2.1 v.2.2) t]) ts V)) v := by
 unfold zaf at h
 obtain ⟨ao, cap, e, h1, h2, h3⟩ := h
 rcases h3 with h3 | ⟨b, o, q1, q2, q3⟩
 ·have : ts = [] := by simpa using h3
  subst this
  refine ⟨[], rfl, ?_⟩
  unfold zaf
  exact ⟨ao, cap, e, h1, h2, Or.inl rfl⟩
 ·obtain ⟨V, hV, hr⟩ := zqn hs q3
  refine ⟨V, hV, ?_⟩
  have hl : (List.zipWith (fun t (v : Option Addr × Nat × Nat) => [T.pin (.slice v.1 v.2.1 v.2.2) t]) ts V).length = (ts.map fun t => [t]).length := by simp [hV]
  unfold zaf
  rw [<- hl] at e h1
  exact ⟨ao, cap, e, h1, h2, Or.inr ⟨b, o, q1, q2, hr⟩⟩
theorem WkX.pins {σ : St} {K : St -> Prop} (i : Nat) {ts : List T} (hs : ∀ t ∈ ts, ∃ sz rows, t = .sl sz rows) (h : σ.sl i = .one (.rn (.sl 1 (ts.map fun t => [t]))))
  (k : ∀ V : List (Option Addr × Nat × Nat), V.length = ts.length -> K (σ.put (some i) (.one (.rn (.sl 1 (List.zipWith (fun t v => [T.pin (.slice v.1 v.2.1 v.2.2) t]) ts V)))))) : WkX σ K := fun n0 N g a w hR hn => by
 have hv := hR.slots i
 rw [h] at hv
 obtain ⟨V, hV, hr⟩ := zz4 hs hv
 refine ⟨_, g, k V hV, hR.slots_of rfl rfl hR.defers hR.size fun j => ?_, rfl, rfl⟩
 show VR _ g w (Go.Proofs.Yteeaofpphmhjdaa.upd _ i _ j) _
 by_cases hj : j = i
 ·subst hj
  rw [zac]
  exact hr
 ·rw [zaj _ _ hj]
  exact hR.slots j
attribute [go_sem] pinAt zjr zgz blX
end Go.Proofs.Yteeaofpphmhjdaa
namespace Go.Proofs.Yteeaofpphmhjdaa
set_option linter.unusedSimpArgs false
set_option linter.unusedVariables false
set_option linter.unusedSectionVars false
set_option maxRecDepth 4000
open Go.RowKit
abbrev Cv := Option Addr × Nat × Nat
def zjl (S : List (List Int)) (V : List Cv) : List (List T) := List.zipWith (fun t v => [T.pin (.slice v.1 v.2.1 v.2.2) t]) (S.map fun c => zas c) V
abbrev zt7 (S : List (List Int)) (V : List Cv) : T := .sl 1 (zjl S V)
def zry (s : Ps) (v : Cv) : List T := [.int .i64 s.l, .int .i64 s.r, .int .i64 s.p, .pin (.slice v.1 v.2.1 v.2.2) (zas s.c)]
def zij (st : List Ps) (V : List Cv) : List (List T) := List.zipWith zry st V
abbrev bxY (S : List (List Int)) (SV : List Cv) (st : List Ps) (V : List Cv) : Bxs := [[(false, zt7 S SV), (true, .sl 4 (zij st V))]]
def vAt (SV W : List Cv) (n i : Nat) (v : Cv) : Prop := if i < n then SV[i]? = some v else W[i - n]? = some v
def PrY (S : List (List Int)) (SV V : List Cv) (y : (Nat × List Int) × List Ps) (x : List Cv × Cv) : Prop := x.1.length = y.2.length /\ (∃ e, x.1 = V ++ e) /\ vAt SV x.1 S.length y.1.1 x.2
theorem zty {S : List (List Int)} {V : List Cv} (h : V.length = S.length) : (zjl S V).length = S.length := by unfold zjl; simp [h]
theorem zjx {st : List Ps} {V : List Cv} (h : V.length = st.length) : (zij st V).length = st.length := by unfold zij; simp [h]
theorem zpy {S : List (List Int)} {V : List Cv} {k : Nat} {v : Cv} (hk : k < S.length) (hv : V[k]? = some v) : (zjl S V).getD k [] = [T.pin (.slice v.1 v.2.1 v.2.2) (zas S[k])] := by
 unfold zjl
 rw [List.getD_eq_getElem?_getD, List.getElem?_zipWith, List.getElem?_map, List.getElem?_eq_getElem hk, hv]; rfl
theorem zoq {st : List Ps} {V : List Cv} (h : V.length = st.length) (s : Ps) (v : Cv) : zij (st ++ [s]) (V ++ [v]) = zij st V ++ [zry s v] := by
 unfold zij
 rw [List.zipWith_append h.symm]; rfl
theorem zvs {S : List (List Int)} {SV W : List Cv} {st : List Ps} {i : Nat} {v : Cv} (hW : W.length = st.length) (h : vAt SV W S.length i v) (hi : i < S.length + st.length) : HasPin (.slice v.1 v.2.1 v.2.2) (zas (clA S st i)) (.ptr [zt7 S SV, .sl 4 (zij st W)]) := by
 unfold vAt at h
 by_cases hn : i < S.length
 ·rw [if_pos hn] at h
  have hc : clA S st (i : Int) = S[i] := by
   unfold clA
   rw [if_pos (by omega), Int.toNat_natCast, List.getD_eq_getElem?_getD, List.getElem?_eq_getElem hn]; rfl
  rw [hc]
  refine HasPin.ptr (c := zt7 S SV) (by simp) (HasPin.sl (r := [T.pin (.slice v.1 v.2.1 v.2.2) (zas S[i])]) ?_ (List.mem_singleton.2 rfl) HasPin.here)
  rw [<- zpy hn h, List.getD_eq_getElem?_getD]
  have hl : i < (zjl S SV).length := by
   unfold zjl
   obtain ⟨h1, _⟩ := List.getElem?_eq_some_iff.1 h
   simp; omega
  rw [List.getElem?_eq_getElem hl]
  exact List.getElem_mem hl
 ·rw [if_neg hn] at h
  have hj : i - S.length < st.length := by omega
  have hc : clA S st (i : Int) = (st[i - S.length]).c := by
   unfold clA
   rw [if_neg (by omega), Int.toNat_natCast, List.getD_eq_getElem?_getD, List.getElem?_eq_getElem hj]; rfl
  rw [hc]
  have hr : (zij st W)[i - S.length]? = some (zry st[i - S.length] v) := by
   unfold zij
   rw [List.getElem?_zipWith, List.getElem?_eq_getElem hj, h]
  refine HasPin.ptr (c := .sl 4 (zij st W)) (by simp) (HasPin.sl (r := zry st[i - S.length] v) (List.mem_of_getElem? hr) ?_ HasPin.here)
  unfold zry; simp
theorem qg0 {SV W e : List Cv} {n i : Nat} {v : Cv} (h : vAt SV W n i v) : vAt SV (W ++ e) n i v := by
 unfold vAt at h ⊢
 split
 ·next hn => rwa [if_pos hn] at h
 ·next hn =>
  rw [if_neg hn] at h
  obtain ⟨h1, _⟩ := List.getElem?_eq_some_iff.1 h
  rw [List.getElem?_append_left h1]; exact h
theorem zvh {S : List (List Int)} {a : List Int} {k : Nat} (hk : k < S.length) (hb : ∀ j, j < k -> fal a (S.getD j []) = false) (h : fal a S[k] = true) : S.findIdx? (fal a) = some k := by
 rw [List.findIdx?_eq_some_iff_getElem]
 refine ⟨hk, h, fun j hj => ?_⟩
 have := hb j hj
 rw [List.getD_eq_getElem?_getD, List.getElem?_eq_getElem (by omega)] at this
 simpa using this
theorem qf5 {S : List (List Int)} {a : List Int} (hb : ∀ j, j < S.length -> fal a (S.getD j []) = false) : S.findIdx? (fal a) = none := by
 rw [List.findIdx?_eq_none_iff]
 intro x hx
 obtain ⟨j, hj, rfl⟩ := List.getElem_of_mem hx
 have := hb j hj
 rw [List.getD_eq_getElem?_getD, List.getElem?_eq_getElem hj] at this
 exact this
end Go.Proofs.Yteeaofpphmhjdaa
namespace Go.Proofs.Yteeaofpphmhjdaa
set_option linter.unusedSimpArgs false
set_option linter.unusedVariables false
set_option linter.unusedSectionVars false
set_option maxRecDepth 4000
open Go.RowKit
theorem qa8 {σ : St} : Wk σ σ := fun _ _ g _ _ h => ⟨g, h, rfl, rfl⟩
set_option maxHeartbeats 4000000 in
theorem znl (HRs : ∀ (a b : List Int) (v : Int), pcl a = true -> pcl b = true -> 1 <= v -> v <= 12 -> FC Try.prog 82 [.one (zas a), .one (zas b), iD v] [.one (zas (zdb a b v).1), bD (zdb a b v).2])
  (S : List (List Int)) (SV : List Cv) (hSV : SV.length = S.length) (hS : ∀ c ∈ S, pcl c = true) (hSl : S.length <= 40) : ∀ (m : Nat) (a : List Int) (st : List Ps) (V : List Cv), V.length = st.length -> m <= 12 -> Pre a (a.length + 1) -> a.length + m <= 12 -> (∀ c ∈ S, ∀ l ∈ c, 0 < ab l /\ ab l < (a.length : Int) + 1 + m) -> (∀ t ∈ sfx (a.length + 1) m, isM S (a ++ t) = false) -> (∀ j < st.length, zbe S st j = true) -> st.length + 2 ^ m <= 100000 →
  PCE Try.prog 78 (bxY S SV st V) [.p 0, .d true (.one (zas a))] (PrY S SV V (yl S m a st)) (fun x => bxY S SV (yl S m a st).2 x.1) (fun x => [(true, iD (yl S m a st).1.1), (true, .one (.vs x.2.1 x.2.2.1 x.2.2.2))])
 | m, a, st, V, hV, hm, hp, hal, hv, hu, hst, hsz => by
  have hys := fun (i : Nat) (h : S.findIdx? (fal a) = some i) => zki (m := m) (st := st) h
  have hrl := zty hSV
  have hpl := zjx hV
  refine qe4 Try.call78 Try.func78 rfl (by simp only [List.length_cons, List.length_nil, Try.ntmps78]; omega) (by simp only [Try.ntmps78]; omega) (fun _ _ => rfl) rfl (by simp [za8, T.isPin, AF.ds, bxA]) (by simp [gFS, T.fs, T.flat, AF.ds, bxA]) (fun _ _ => rfl) ?_
  refine za4.wkq ?_
  refine za4.cut 1 rfl (by kernel_rfl) ?_
  simp -implicitDefEqProofs only [go_sem, Try.results78, hrl]
  refine zak (fun k : Nat => hd [(0, .one (.bx 1000000 0)), (1, .one (.ow 0 0)), (18, .one (.rn (zt7 S SV))), (19, vI S.length), (20, vI k), (1000000, .one (.bx 1000000 0))] [(1000000, [.rn (zt7 S SV), .ow 64 0])] [(0, ⟨true, 1, a.map fun s => [.int .i64 s], 0, true⟩), (64, ⟨true, 4, zij st V, 0, true⟩)])
   (fun k => k <= S.length /\ ∀ j, j < k -> fal a (S.getD j []) = false) (fun k => S.length - k) 0 (zaa ?_) ⟨Nat.zero_le _, fun j hj => absurd hj (by omega)⟩ ?_
  ·simp -implicitDefEqProofs only [go_sem]
   skip
  ·rintro k ⟨hk, hb⟩
   by_cases hlt : k < S.length
   ·have hvk : SV[k]? = some (SV[k]'(by omega)) := List.getElem?_eq_getElem (by omega)
    generalize SV[k]'(by omega) = v at hvk
    have hrow := zpy hlt hvk
    have hlt2 : k < (zjl S SV).length := by omega
    have hpc := hS S[k] (List.getElem_mem hlt)
    have HF := FC.pin1 (.slice v.1 v.2.1 v.2.2) (zk5 S[k] a (fun l hl => by have := qbe (zcx hpc hl); omega) (by have := zcn hpc; omega))
    have hg : S.getD k [] = S[k] := by rw [List.getD_eq_getElem?_getD, List.getElem?_eq_getElem hlt]; rfl
    simp -implicitDefEqProofs only [go_sem, hlt, hlt2, hrow, hrl]
    refine callF (HF) (by simp -implicitDefEqProofs only [go_sem]) ?_
    simp -implicitDefEqProofs only [go_sem]
    refine ⟨fun ht => ?_, fun hf => ?_⟩
    ·refine ⟨_, Wk.pinV 5 (ao := v.1) (l := v.2.1) (n := v.2.2) (t := zas S[k]) (Or.inl (by simp -implicitDefEqProofs only [go_sem])) qa8, (V, v), ?_, ?_⟩
     ·rw [hys k (zvh hlt hb ht)]
      exact ⟨hV, ⟨[], by simp⟩, by unfold vAt; rw [if_pos hlt]; exact hvk⟩
     ·rw [hys k (zvh hlt hb ht)]
      refine Or.inl ?_
      simp -implicitDefEqProofs only [go_sem]
      skip
    ·refine ⟨k + 1, ⟨by omega, fun j hj => ?_⟩, by omega, zaa ?_⟩
     ·by_cases hjk : j < k
      ·exact hb j hjk
      ·rw [show j = k by omega, hg]; exact hf
     ·rw [show IntKind.i64.wrap ((k : Int) + 1) = ((k + 1 : Nat) : Int) from zaw (by omega)]
      simp -implicitDefEqProofs only [go_sem]
      skip
   ·have hek : k = S.length := by omega
    subst hek
    have hf := qf5 hb
    cases m with
    | zero =>
     exfalso
     have h1 := hu [] (by simp [sfx])
     rw [List.append_nil, zdm hp (fun c hc l hl => by have := hv c hc l hl; simpa using this) (by rw [<- Bool.not_eq_true, <- List.findIdx?_isSome, hf]; simp)] at h1
     cases h1
    | succ m =>
     have hv1 : ((a ++ [(a.length : Int) + 1]).length : Int) + 1 = (a.length : Int) + 1 + 1 := by simp
     have hp1 : Pre (a ++ [(a.length : Int) + 1]) ((a.length : Int) + 1 + 1) := hp.put (zcj (by omega))
     have hp2 : Pre (a ++ [-((a.length : Int) + 1)]) ((a.length : Int) + 1 + 1) := hp.put (by rw [zc3, zcj (by omega)])
     have hv2 : ((a ++ [-((a.length : Int) + 1)]).length : Int) + 1 = (a.length : Int) + 1 + 1 := by simp
     have hu1 : ∀ t ∈ sfx (((a ++ [(a.length : Int) + 1]).length : Int) + 1) m, isM S (a ++ [(a.length : Int) + 1] ++ t) = false := fun t ht => by
      rw [hv1] at ht
      have := hu (((a.length : Int) + 1) :: t) (by rw [sfx]; exact List.mem_append_left _ (List.mem_map.2 ⟨t, ht, rfl⟩))
      rwa [List.append_assoc]
     have hu2 : ∀ t ∈ sfx (((a ++ [-((a.length : Int) + 1)]).length : Int) + 1) m, isM S (a ++ [-((a.length : Int) + 1)] ++ t) = false := fun t ht => by
      rw [hv2] at ht
      have := hu ((-((a.length : Int) + 1)) :: t) (by rw [sfx]; exact List.mem_append_right _ (List.mem_map.2 ⟨t, ht, rfl⟩))
      rwa [List.append_assoc]
     have hvb : ∀ c ∈ S, ∀ l ∈ c, 0 < ab l /\ ab l < (a.length : Int) + 1 + 1 + m := fun c hc l hl => by have := hv c hc l hl; omega
     have hvb1 : ∀ c ∈ S, ∀ l ∈ c, 0 < ab l /\ ab l < ((a ++ [(a.length : Int) + 1]).length : Int) + 1 + m := by rw [hv1]; exact hvb
     have hvb2 : ∀ c ∈ S, ∀ l ∈ c, 0 < ab l /\ ab l < ((a ++ [-((a.length : Int) + 1)]).length : Int) + 1 + m := by rw [hv2]; exact hvb
     have hlen1 : (a ++ [(a.length : Int) + 1]).length + m <= 12 := by simp; omega
     have hlen2 : (a ++ [-((a.length : Int) + 1)]).length + m <= 12 := by simp; omega
     have hm12 : m <= 12 := by omega
     have hvv : 1 <= (a.length : Int) + 1 /\ (a.length : Int) + 1 <= 12 := by omega
     have hol : a.length <= 4294967295 := by omega
     have hwe : ∀ q : Nat, q <= 100000 -> IntKind.i64.wrap (IntKind.i64.wrap ((S.length : Int) + ((q + 1 : Nat) : Int)) - 1) = ((S.length + q : Nat) : Int) := fun q hq => by rw [zam (n := (S.length : Int) + ((q + 1 : Nat) : Int)) (by omega) (by omega), zam (by omega) (by omega)]; omega
     have hsz' : st.length + 2 ^ m * 2 <= 100000 := by rw [<- Nat.pow_succ]; exact hsz
     have hsz1 : st.length + 2 ^ m <= 100000 := by omega
     have hw1 : IntKind.i64.wrap ((a.length : Int) + 1) = (a.length : Int) + 1 := zam (by omega) (by omega)
     have hwn : IntKind.i64.wrap (0 - ((a.length : Int) + 1)) = -((a.length : Int) + 1) := by rw [zam (by omega) (by omega)]; omega
     have hm1 : (a.map fun s => [T.int .i64 s]) ++ [[T.int .i64 ((a.length : Int) + 1)]] = (a ++ [(a.length : Int) + 1]).map fun s => [T.int .i64 s] := by rw [List.map_append]; rfl
     have hm2 : (a.map fun s => [T.int .i64 s]) ++ [[T.int .i64 (-((a.length : Int) + 1))]] = (a ++ [-((a.length : Int) + 1)]).map fun s => [T.int .i64 s] := by rw [List.map_append]; rfl
     have HC1 := znl HRs S SV hSV hS hSl m (a ++ [(a.length : Int) + 1]) st V hV hm12 (by rw [hv1]; exact hp1) hlen1 hvb1 hu1 hst hsz1
     have X := zsx S hS m (a ++ [(a.length : Int) + 1]) st (by rw [hv1]; exact hp1) hvb1 hu1 hst
     have HCl := zi6 a (Nat.le_trans hol (by decide))
     rw [zof hf]
     clear hys hb hsz hu
     dsimp only
     generalize yl S m (a ++ [(a.length : Int) + 1]) st = x at HC1 X ⊢
     obtain ⟨⟨xn, xc⟩, xs⟩ := x
     simp only at HC1 ⊢
     simp -implicitDefEqProofs only [go_sem, Int.lt_irrefl]
     refine za4.cut 1 rfl (by kernel_rfl) ?_
     simp -implicitDefEqProofs only [go_sem]
     rw [hw1]
     refine callF (HCl) (by simp -implicitDefEqProofs only [go_sem]) ?_
     simp -implicitDefEqProofs only [go_sem]
     refine zan (by simp -implicitDefEqProofs only [go_sem]) ?_
     simp -implicitDefEqProofs only [go_sem]
     refine apD true (by simp -implicitDefEqProofs only [go_sem, ne_eq, List.length_map, hol]) ?_
     simp -implicitDefEqProofs only [go_sem, ne_eq, List.length_map, hol]
     rw [hm1]
     refine zov [0, 1, 8, 1000000] [35, 40] [1000000] [] HC1 (by decide) (fun _ _ => rfl) (by simp -implicitDefEqProofs only [go_sem]) (fun x hx => by simp -implicitDefEqProofs only [go_sem]) (by simp -implicitDefEqProofs only [go_sem]) (fun x hx => by simp -implicitDefEqProofs only [go_sem]) fun x hx => ?_
     obtain ⟨W1, v1⟩ := x
     obtain ⟨hW1, hWe, hva1⟩ := hx
     simp only at hW1 hWe hva1
     simp -implicitDefEqProofs only [go_sem]
     have xl : xs.length + 1 <= st.length + 2 ^ m := X.len
     have xt : xn < S.length + xs.length := X.lt
     have hxs2 : xs.length + 2 ^ m <= 100000 := by omega
     have hpin := zvs hW1 hva1 xt
     have hxcl : clA S xs xn = xc := X.cl
     rw [hxcl] at hpin
     have HH := zbh xc (-((a.length : Int) + 1))
     refine za4.seq (za4.seq (za4.lendA [44, 45, 46, 47, 48] rfl [(8, vI ((a.length : Int) + 1)), (10, .one (.t (zas xc)))] [(48, .one (.t (.bool (!xc.contains (-((a.length : Int) + 1))))))] [] ?_ (fun e h => absurd rfl h) rfl rfl (zdz.ofEx (by kernel_rfl) (fun d h => h) ?_) (l := [(0, .one (.bx 1000000 0)), (1, .one (.ow 0 0)), (8, vI ((a.length : Int) + 1)), (9, vI xn), (10, .one (.t (.vs v1.1 v1.2.1 v1.2.2))), (48, .one (.t (.bool (!xc.contains (-((a.length : Int) + 1)))))), (1000000, .one (.bx 1000000 0))]) (bl := [(1000000, [.rn (zt7 S SV), .ow 1315 0])]) (el := [(0, ⟨true, 1, a.map fun s => [.int .i64 s], 0, true⟩), (1315, ⟨true, 4, zij xs W1, 0, true⟩)]) (zaa ?_) ?_))
     ·refine Wk.fzO 1315 ?_
      simp -implicitDefEqProofs only [go_sem]
      refine Wk.fbO 1000000 ?_
      simp -implicitDefEqProofs only [go_sem]
      refine Wk.elP 0 (cs := [zt7 S SV, .sl 4 (zij xs W1)]) (by simp -implicitDefEqProofs only [go_sem]) ?_
      refine Wk.alias 10 0 (by simp -implicitDefEqProofs only [go_sem]) (by simp -implicitDefEqProofs only [go_sem]) hpin (zaa ?_)
      simp -implicitDefEqProofs only [go_sem]
      skip
     ·simp -implicitDefEqProofs only [go_sem]
      rw [hwn]
      refine callF (HH) (by simp -implicitDefEqProofs only [go_sem]) ?_
      simp -implicitDefEqProofs only [go_sem]
      refine zaa ?_
      simp -implicitDefEqProofs only [go_sem]
      skip
     ·simp -implicitDefEqProofs only [go_sem, zf7, zf9, zf2, List.contains_cons, List.contains_nil, Nat.reduceBEq, Bool.or_false, Bool.false_or, Bool.or_true, Bool.true_or]
      skip
     ·intro σ' hσ'
      rw [zbv]
      refine za4.wkS hσ' ?_
      clear hσ'
      cases hxc : xc.contains (-((a.length : Int) + 1))
      ·rw [if_pos rfl]
       refine za4.condT (by simp -implicitDefEqProofs only [go_sem, Bool.not_false]) ?_
       refine za4.ofEx (by kernel_rfl) ?_
       simp -implicitDefEqProofs only [go_sem]
       refine ⟨_, qa8, (W1, v1), ⟨hW1, hWe, hva1⟩, Or.inl ?_⟩
       simp -implicitDefEqProofs only [go_sem]
       skip
      ·rw [if_neg (by simp)]
       refine za4.cond (b := false) (by simp -implicitDefEqProofs only [go_sem, Bool.not_true]) (fun h => by cases h) fun _ => ?_
       refine za4.ofEx (by kernel_rfl) ?_
       simp -implicitDefEqProofs only [go_sem]
       refine za4.cut 0 rfl (by kernel_rfl) ?_
       have HC2 := znl HRs S SV hSV hS hSl m (a ++ [-((a.length : Int) + 1)]) xs W1 hW1 hm12 (by rw [hv2]; exact hp2) hlen2 hvb2 hu2 X.val hxs2
       have Y := zsx S hS m (a ++ [-((a.length : Int) + 1)]) xs (by rw [hv2]; exact hp2) hvb2 hu2 X.val
       generalize yl S m (a ++ [-((a.length : Int) + 1)]) xs = y at HC2 Y ⊢
       obtain ⟨⟨yn, yc⟩, ys⟩ := y
       simp only at HC2 ⊢
       simp -implicitDefEqProofs only [go_sem]
       refine callF (HCl) (by simp -implicitDefEqProofs only [go_sem]) ?_
       simp -implicitDefEqProofs only [go_sem]
       rw [hwn]
       refine zan (by simp -implicitDefEqProofs only [go_sem]) ?_
       simp -implicitDefEqProofs only [go_sem]
       refine apD true (by simp -implicitDefEqProofs only [go_sem, ne_eq, List.length_map, hol]) ?_
       simp -implicitDefEqProofs only [go_sem, ne_eq, List.length_map, hol]
       rw [hm2]
       refine zov [0, 8, 9, 10, 1000000] [52, 58] [1000000] [] HC2 (by decide) (fun _ _ => rfl) (by simp -implicitDefEqProofs only [go_sem]) (fun x hx => by simp -implicitDefEqProofs only [go_sem]) (by simp -implicitDefEqProofs only [go_sem]) (fun x hx => by simp -implicitDefEqProofs only [go_sem]) fun x hx => ?_
       obtain ⟨W2, v2⟩ := x
       obtain ⟨hW2, hWe2, hva2⟩ := hx
       simp only at hW2 hWe2 hva2
       simp -implicitDefEqProofs only [go_sem]
       have yl' : ys.length + 1 <= xs.length + 2 ^ m := Y.len
       have yt : yn < S.length + ys.length := Y.lt
       have hpiny := zvs hW2 hva2 yt
       have hycl : clA S ys yn = yc := Y.cl
       rw [hycl] at hpiny
       obtain ⟨ext, hext⟩ : ∃ e, ys = xs ++ e := Y.ext
       have hclx : clA S ys xn = xc := by
        rw [hext, zbr (by omega)]; exact X.cl
       have hxy : xs.length <= ys.length := by rw [hext, List.length_append]; exact Nat.le_add_right _ _
       have hva1' : vAt SV W2 S.length xn v1 := by
        obtain ⟨e2, rfl⟩ := hWe2
        exact qg0 hva1
       have hpinx := zvs hW2 hva1' (Nat.lt_of_lt_of_le xt (Nat.add_le_add_left hxy _))
       rw [hclx] at hpinx
       have HH2 := zbh yc ((a.length : Int) + 1)
       refine za4.seq (za4.seq (za4.lendA [62, 63, 64, 65] rfl [(8, vI ((a.length : Int) + 1)), (12, .one (.t (zas yc)))] [(65, .one (.t (.bool (!yc.contains ((a.length : Int) + 1)))))] [] ?_ (fun e h => absurd rfl h) rfl rfl (zdz.ofEx (by kernel_rfl) (fun d h => h) ?_) (l := [(0, .one (.bx 1000000 0)), (8, vI ((a.length : Int) + 1)), (9, vI xn), (10, .one (.t (.vs v1.1 v1.2.1 v1.2.2))), (11, vI yn), (12, .one (.t (.vs v2.1 v2.2.1 v2.2.2))), (65, .one (.t (.bool (!yc.contains ((a.length : Int) + 1))))), (1000000, .one (.bx 1000000 0))]) (bl := [(1000000, [.rn (zt7 S SV), .ow 1891 0])]) (el := [(1891, ⟨true, 4, zij ys W2, 0, true⟩)]) (zaa ?_) ?_))
       ·refine Wk.fzO 1891 ?_
        simp -implicitDefEqProofs only [go_sem]
        refine Wk.fbO 1000000 ?_
        simp -implicitDefEqProofs only [go_sem]
        refine Wk.elP 0 (cs := [zt7 S SV, .sl 4 (zij ys W2)]) (by simp -implicitDefEqProofs only [go_sem]) ?_
        refine Wk.alias 12 0 (by simp -implicitDefEqProofs only [go_sem]) (by simp -implicitDefEqProofs only [go_sem]) hpiny (zaa ?_)
        simp -implicitDefEqProofs only [go_sem]
        skip
       ·simp -implicitDefEqProofs only [go_sem]
        refine callF (HH2) (by simp -implicitDefEqProofs only [go_sem]) ?_
        simp -implicitDefEqProofs only [go_sem]
        refine zaa ?_
        simp -implicitDefEqProofs only [go_sem]
        skip
       ·simp -implicitDefEqProofs only [go_sem, zf7, zf9, zf2, List.contains_cons, List.contains_nil, Nat.reduceBEq, Bool.or_false, Bool.false_or, Bool.or_true, Bool.true_or]
        skip
       ·intro σ' hσ'
        rw [zbv]
        refine za4.wkS hσ' ?_
        clear hσ'
        cases hyc : yc.contains ((a.length : Int) + 1)
        ·rw [if_pos rfl]
         refine za4.condT (by simp -implicitDefEqProofs only [go_sem, Bool.not_false]) ?_
         refine za4.ofEx (by kernel_rfl) ?_
         simp -implicitDefEqProofs only [go_sem]
         refine ⟨_, qa8, (W2, v2), ⟨hW2, ?_, hva2⟩, Or.inl ?_⟩
         ·obtain ⟨e1, rfl⟩ := hWe
          obtain ⟨e2, rfl⟩ := hWe2
          exact ⟨e1 ++ e2, by simp⟩
         ·simp -implicitDefEqProofs only [go_sem]
          skip
        ·rw [if_neg (by simp)]
         refine za4.cond (b := false) (by simp -implicitDefEqProofs only [go_sem, Bool.not_true]) (fun h => by cases h) fun _ => ?_
         refine za4.ofEx (by kernel_rfl) ?_
         simp -implicitDefEqProofs only [go_sem]
         have HR := HRs yc xc ((a.length : Int) + 1) Y.pc X.pc hvv.1 hvv.2
         generalize zdb yc xc ((a.length : Int) + 1) = z at HR ⊢
         obtain ⟨zc, zb⟩ := z
         simp only at HR ⊢
         have hol2 : ys.length <= 4294967295 := by omega
         refine za4.seq (za4.lendA [69, 70, 71, 72, 68, 73, 74, 13, 14] rfl [(8, vI ((a.length : Int) + 1)), (10, .one (.t (zas xc))), (12, .one (.t (zas yc)))] [(13, .one (.ow 2304 0))] [(2304, ⟨true, 1, zc.map fun s => [.int .i64 s], 0, true⟩)] ?_ (fun e h => ?_) rfl rfl (zdz.ofEx (by kernel_rfl) (fun d h => h) ?_) (l := [(0, .one (.bx 1000000 0)), (8, vI ((a.length : Int) + 1)), (9, vI xn), (11, vI yn), (13, .one (.ow 2304 0)), (1000000, .one (.bx 1000000 0))]) (bl := [(1000000, [.rn (zt7 S SV), .ow 1891 0])]) (el := [(1891, ⟨true, 4, zij ys W2, 0, true⟩), (2304, ⟨true, 1, zc.map fun s => [.int .i64 s], 0, true⟩)]) (zaa ?_) ?_)
         ·refine Wk.fzO 1891 ?_
          simp -implicitDefEqProofs only [go_sem]
          refine Wk.fbO 1000000 ?_
          simp -implicitDefEqProofs only [go_sem]
          refine Wk.elP 0 (cs := [zt7 S SV, .sl 4 (zij ys W2)]) (by simp -implicitDefEqProofs only [go_sem]) ?_
          refine Wk.alias 12 0 (by simp -implicitDefEqProofs only [go_sem]) (by simp -implicitDefEqProofs only [go_sem]) hpiny ?_
          refine Wk.alias 10 0 (by simp -implicitDefEqProofs only [go_sem]) (by simp -implicitDefEqProofs only [go_sem]) hpinx (zaa ?_)
          simp -implicitDefEqProofs only [go_sem]
          skip
         ·by_cases he : e = 2304
          ·subst he; simp -implicitDefEqProofs only [go_sem]
          ·exact absurd (by simp [tbl, he]) h
         ·simp -implicitDefEqProofs only [go_sem]
          refine callF (HR) (by simp -implicitDefEqProofs only [go_sem]) ?_
          simp -implicitDefEqProofs only [go_sem]
          refine zaa ?_
          simp -implicitDefEqProofs only [go_sem]
          skip
         ·simp -implicitDefEqProofs only [go_sem, zf7, zf9, zf2, List.contains_cons, List.contains_nil, Nat.reduceBEq, Bool.or_false, Bool.false_or, Bool.or_true, Bool.true_or]
          skip
         ·intro σ' hσ'
          rw [zbv]
          refine za4.wkS hσ' ?_
          clear hσ'
          have hyl := zjx hW2
          refine za4.ofEx (by kernel_rfl) ?_
          simp -implicitDefEqProofs only [go_sem]
          refine qbp 13 2304 0 (by simp -implicitDefEqProofs only [go_sem]) (by decide) (by simp -implicitDefEqProofs only [go_sem]) fun ao l c => ?_
          simp -implicitDefEqProofs only [go_sem]
          refine apD true (by simp -implicitDefEqProofs only [go_sem, ne_eq, hyl, hol2]) ?_
          simp -implicitDefEqProofs only [go_sem, ne_eq, hyl, hol2]
          refine drawn (by kernel_rfl) ?_
          simp -implicitDefEqProofs only [go_sem, hrl, List.length_append, List.length_cons, List.length_nil, hyl]
          have hx := hwe ys.length (by omega)
          have hap := zoq hW2 ⟨yn, xn, (a.length : Int) + 1, zc⟩ (ao, l, c)
          refine ⟨by kernel_rfl, _, qa8, (W2 ++ [(ao, l, c)], (ao, l, c)), ⟨?_, ?_, ?_⟩, Or.inl ?_⟩
          ·simp [hW2]
          ·obtain ⟨e1, rfl⟩ := hWe
           obtain ⟨e2, rfl⟩ := hWe2
           exact ⟨e1 ++ e2 ++ [(ao, l, c)], by simp⟩
          ·unfold vAt
           simp only
           rw [if_neg (by omega), show S.length + ys.length - S.length = W2.length by omega, List.getElem?_append_right (Nat.le_refl _), Nat.sub_self]
           rfl
          ·simp -implicitDefEqProofs only [go_sem, hap, hx, zry]
           skip
end Go.Proofs.Yteeaofpphmhjdaa
