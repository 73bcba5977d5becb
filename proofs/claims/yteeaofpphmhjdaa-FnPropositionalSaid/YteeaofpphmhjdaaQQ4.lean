/-
  The walk over plain data, and contracts of functions of the program and of its laws.
  Conditions: those that each theorem names.
-/
import Derived.Test.YteeaofpphmhjdaaQQ3
import Derived.RangeFuncNested
import Derived.RangeFuncLeaves
import Derived.Test.YteeaofpphmhjdaaProg
import Derived.KernelRfl
import Derived.Test.YteeaofpphmhjdaaQQ1
import Derived.Sort.OwnSorted
import Derived.Sort.KeysCollected
import Derived.Sort.Walk0
import Derived.Laws.AppendOwn
import Derived.Lib.Walk
import Derived.Lib.SliceRun
import Derived.Lib.AppendZeros
namespace Go.Proofs.Yteeaofpphmhjdaa
set_option linter.unusedSimpArgs false
set_option linter.unusedVariables false
set_option linter.unusedSectionVars false
set_option maxRecDepth 4000
open Go.RowKit
variable {P : Program}
def PX (P : Program) (rs : List ResultVar) (res : List D) (σ : St) : Prop := ∃ pl, zan (zbm P σ rs) fun vs => gvA σ (fun _ => True) [] pl vs (res.map fun d => (true, d))
def PS (P : Program) (rs : List ResultVar) (res : List D) (e : Exit) (σ : St) : Prop := match e with
 | .normal => PF P rs res .normal σ \/ PX P rs res σ
 | .ret => PF P rs res .ret σ \/ PX P rs res σ
 | _ => False
theorem zeh {w : World} {A : Nat -> Prop} : ∀ {res : List D} {vs : List Value} {fp tp : List Nat}, zao w A (res.map fun d => (true, d)) vs fp tp -> GDs w res vs fp tp
 | [], _, _, _, h => h
 | d :: ds, _, _, _, h => by
  obtain ⟨v, vs', f1, f2, t1, t2, rfl, rfl, rfl, h1, h2⟩ := h
  exact ⟨v, vs', f1, f2, t1, t2, rfl, rfl, rfl, h1, zeh h2⟩
theorem px_own {n0 : Nat -> Prop} {N : Nat} {σ : St} {g : Gh} {a : Act} {w : World} (hR : Rel n0 N σ g a w) {vs : List V} {res : List D} {pl : List (Nat × Nat × Nat)} (h : gvA σ (fun _ => True) [] pl vs (res.map fun d => (true, d))) {us : List Value} (hv : VRl σ g w vs us) :
  ∃ fp tp, GDs w res us fp tp /\ fp.Nodup /\ ∀ b ∈ fp, ∃ e, σ.On e /\ b ∈ g.φ e := by
 obtain ⟨B, hB⟩ := hR.fam
 obtain ⟨s, k1, k2, k3, k4⟩ := zdn hR hB h hv
 rw [List.append_nil] at k4
 have hsp : s.Pairwise okP := (List.pairwise_reverse.1 (k4 List.Pairwise.nil)).imp fun h => h.symm
 obtain ⟨tp, k2⟩ := k2 [] (by simp)
 refine ⟨_, tp, zeh k2, zcv hR hB k3 hsp, fun b hb => ?_⟩
 obtain ⟨x, hx, hm⟩ := List.mem_flatMap.1 hb
 exact ⟨x.1, k3 x hx, hB.sub x.1 x.2 b (k3 x hx) hm⟩
theorem GC_ofW {f : FuncId} {fn : Func} {c : Code} {args : List (Bool × D)} {res : List D} (hc : zbd P f) (hf : P.funcs[f]? = some fn) (hb : fn.body = some c) (hd : zbz fn.ntmps c = true) (hN : args.length <= fn.ntmps) (hs : zay args)
  (h : ∀ (w : World) (vs : List Value) (fp tp : List Nat), zao w (fun b => b < w.heap.size /\ b ∉ fp) args vs fp tp -> ∀ (g : Gh) (a : Act), Rel (fun b => b < w.heap.size /\ b ∉ fp) fn.ntmps (zd6 args) g a w -> (a.tmps = (⟨vs⟩ : Array Value) ++ Array.replicate (fn.ntmps - vs.length) undef /\ (g.A0, g.R0) = ((fun _ => True), RP.of fun b => b ∈ fp \/ w.heap.size <= b)) →
   ∃ σ0, ex P c [] (PS P fn.results.toList res) σ0 /\ Rel (fun b => b < w.heap.size /\ b ∉ fp) fn.ntmps σ0 g a w) : GC P f args res := by
 refine ⟨hc, fun w vs fp tp hv hn => ?_⟩
 refine calls_of_wp hf hb ?_
 have hv' : zao w (fun b => b < w.heap.size /\ True /\ b ∉ fp) args vs fp tp := zao.keepA (fun b hb => ⟨hb.1, trivial, hb.2⟩) hv
 obtain ⟨g, hg, hR⟩ := Rel.start (A0 := fun _ => True) (R0 := RP.of fun b => b ∈ fp \/ w.heap.size <= b) (N := fn.ntmps) hv' hn hs hN (fun _ _ => trivial) (fun b hb => ⟨trivial, Or.inl hb⟩) (fun b hb => ⟨trivial, by
  by_cases hlt : b < w.heap.size
  ·exact Or.inl (Classical.byContradiction fun h => hb ⟨hlt, h⟩)
  ·exact Or.inr (by omega)⟩)
 obtain ⟨σ0, hex, hR0⟩ := h w vs fp tp hv g _ hR ⟨rfl, hg⟩
 refine wp_mono (za7 (w0 := w) c σ0 _ hd hex g _ w hR0 (fun k hk => hk.1) (Bk.refl _ _) hg) fun e a' w' hq => ?_
 obtain ⟨σ', g', h1, h2, h3, h4, h5⟩ := hq
 have fin : ∀ {us : List Value} {v : Value}, (results fn a'.tmps).run P w' = .ok v w' -> v = zb1 us -> (∃ fp' tp', GDs w' res us fp' tp' /\ fp'.Nodup /\ ∀ b ∈ fp', ∃ e, σ'.On e /\ b ∈ g'.φ e) -> ∃ v, (results fn a'.tmps).run P w' = .ok v w' /\ ∃ us fp' tp', Ending.returned v = .returned (zb1 us) /\ GDs w' res us fp' tp' /\ fp'.Nodup /\ (∀ b ∈ fp', b ∈ fp \/ w.heap.size <= b) /\ Bk (fun k => k < w.heap.size /\ k ∉ fp) w w' := fun {us v} r1 rv ⟨fp', tp', o1, o2, o3⟩ => by
  refine ⟨_, r1, us, fp', tp', by rw [rv], o1, o2, fun b hb => ?_, h4⟩
  obtain ⟨e, l, m⟩ := o3 b hb
  have := (h2.ebase e l b m).2
  rw [(Prod.mk.inj h5).2] at this
  exact this
 have key : (zan (zbm P σ' fn.results.toList) (fun vs => zuf σ' [] vs res) \/ PX P fn.results.toList res σ') -> ∃ v, (results fn a'.tmps).run P w' = .ok v w' /\ ∃ us fp' tp', Ending.returned v = .returned (zb1 us) /\ GDs w' res us fp' tp' /\ fp'.Nodup /\ (∀ b ∈ fp', b ∈ fp \/ w.heap.size <= b) /\ Bk (fun k => k < w.heap.size /\ k ∉ fp) w w' := fun hk => by
  rcases hk with hk | ⟨pl, hk⟩
  ·obtain ⟨vs, hvs, hk⟩ := zai hk
   obtain ⟨us, r1, r2⟩ := zby h2 fn hvs
   obtain ⟨used, fp', tp', o1, o2⟩ := zc5 h2 hk r2
   exact fin r1 rfl ⟨fp', tp', o1, o2.1, fun b hb => by obtain ⟨e, _, _, l, m⟩ := o2.2.1 b hb; exact ⟨e, l, m⟩⟩
  ·obtain ⟨vs, hvs, hk⟩ := zai hk
   obtain ⟨us, r1, r2⟩ := zby h2 fn hvs
   exact fin r1 rfl (px_own h2 hk r2)
 cases e with
 | normal => exact ⟨h2.defers, key h1⟩
 | ret => exact ⟨h2.defers, key h1⟩
 | exit _ => exact h1.elim
 | goto _ => exact h1.elim
 | panic _ => exact h1.elim
 | outgrown => exact h1.elim
theorem ztw (p : Prop) : (p \/ True) = True := by simp
theorem zty (p : Prop) : (True \/ p) = True := by simp
theorem znh {α : Type} (x : α) (xs : List α) (d : α) : (x :: xs).getD 0 d = x := rfl
attribute [go_sem] znh
attribute [go_sem] Bool.false_and Bool.and_false Bool.and_self
attribute [go_sem] PS ztw zty
attribute [go_sem] List.length_append
attribute [go_sem] List.set_cons_succ List.set_cons_zero
end Go.Proofs.Yteeaofpphmhjdaa
namespace Go.Proofs.Yteeaofpphmhjdaa
set_option linter.unusedSimpArgs false
set_option linter.unusedVariables false
set_option linter.unusedSectionVars false
set_option maxRecDepth 4000
open Go.RowKit
variable {P : Program}
def D.toN : D -> V
 | .one t => .one t.toN
 | .agg ts => .agg (ts.map T.toN)
def zeo : Nat -> List D -> Nat -> V
 | _, [] => fun _ => .one .any
 | k, d :: ds => upd (zeo (k + 1) ds) k d.toN
def zha (args : List D) : St := ⟨zeo 0 args, fun _ => none, fun _ => none⟩
theorem zhq : ∀ (ds : List D) (k i : Nat), zeo k ds (k + i) = match ds[i]? with | some d => d.toN | none => .one .any
 | [], k, i => by simp [zeo]
 | d :: ds, k, 0 => by simp [zeo, upd]
 | d :: ds, k, i + 1 => by
  unfold zeo
  rw [zae _ _ (by omega), show k + (i + 1) = k + 1 + i by omega, zhq ds (k + 1) i]
  simp
theorem zuz {σ : St} {g : Gh} {w : World} {A : Nat -> Prop} (hA : ∀ b, A b -> zbw σ g w b) {x : T} {v : Value} (h : zag w A x v) : CR σ g w x.toN v := by
 cases x <;> first | exact zag.keep (fun _ _ => rfl) (fun b hb => (hA b hb).1) _ v h | exact zag.keep (fun _ _ => rfl) hA _ v h
theorem znm {σ : St} {g : Gh} {w : World} {A : Nat -> Prop} (hA : ∀ b, A b -> zbw σ g w b) : ∀ {ts : List T} {vs : List Value}, zaa w A ts vs -> CRs σ g w (ts.map T.toN) vs
 | [], vs, h => by unfold zaa at h; exact h
 | t :: ts, vs, h => by
  unfold zaa at h
  obtain ⟨v, vs', rfl, h1, h2⟩ := h
  exact ⟨v, vs', rfl, zuz hA h1, znm hA h2⟩
theorem zu1 {σ : St} {g : Gh} {w : World} {A : Nat -> Prop} (hA : ∀ b, A b -> zbw σ g w b) {d : D} {v : Value} (h : zrg w A d v) : VR σ g w d.toN v := by
 cases d with
 | one t => exact zuz hA h
 | agg ts => obtain ⟨a, h0, h1⟩ := h; exact ⟨a, h0, znm hA h1⟩
theorem zb4.at {w : World} {A : Nat -> Prop} : ∀ {ds : List D} {vs : List Value}, zb4 w A ds vs -> ∀ (i : Nat) d, ds[i]? = some d -> ∃ v, vs[i]? = some v /\ zrg w A d v
 | [], _, _, i, d, h => by simp at h
 | d0 :: ds, vs, h, 0, d, hi => by
  obtain ⟨v, vs', rfl, h1, h2⟩ := h
  simp only [List.getElem?_cons_zero, Option.some.injEq] at hi
  subst hi; exact ⟨v, rfl, h1⟩
 | d0 :: ds, vs, h, i + 1, d, hi => by
  obtain ⟨v, vs', rfl, h1, h2⟩ := h
  simpa using zb4.at h2 i d (by simpa using hi)
theorem zb9 {w : World} {A : Nat -> Prop} : ∀ {ds : List D} {vs : List Value} {fp tp : List Nat}, zao w A (rd ds) vs fp tp -> zb4 w A ds vs /\ fp = [] /\ tp = []
 | [], _, _, _, h => ⟨h.1, h.2.1, h.2.2⟩
 | d :: ds, _, _, _, h => by
  obtain ⟨v, vs', rfl, h1, h2⟩ := h
  obtain ⟨k1, k2, k3⟩ := zb9 h2
  exact ⟨⟨v, vs', rfl, h1, k1⟩, k2, k3⟩
theorem zna {args : List D} {w : World} {vs : List Value} {N : Nat} {g : Gh} {a : Act} (hr : zb4 w (fun b => b < w.heap.size /\ b ∉ ([] : List Nat)) args vs) (hR : Rel (fun b => b < w.heap.size /\ b ∉ ([] : List Nat)) N (zd6 (rd args)) g a w)
  (hg : a.tmps = (⟨vs⟩ : Array Value) ++ Array.replicate (N - vs.length) undef /\ (g.A0, g.R0) = ((fun _ => True), RP.of fun b => b ∈ ([] : List Nat) \/ w.heap.size <= b)) : Rel (fun b => b < w.heap.size /\ b ∉ ([] : List Nat)) N (zha args) g a w := by
 have hbx : ∀ (ds : List D) (k : Nat), zdj k (rd ds) = fun _ => none := fun ds => by
  induction ds with
  | nil => intro k; rfl
  | cons d ds ih => intro k; exact ih (k + 1)
 have hG : ∀ b, (b < w.heap.size /\ b ∉ ([] : List Nat)) -> zbw (zha args) g w b := fun b hb => by
  refine ⟨⟨fun k hk => absurd rfl hk, fun e x he _ => (by cases he), hb.1, by rw [(Prod.mk.inj hg.2).1]; trivial⟩, ?_⟩
  rintro e ⟨x, hx, _⟩
  cases hx
 refine hR.slots_of (σ' := zha args) rfl ?_ hR.defers hR.size fun i => ?_
 ·show (fun _ => none) = zdj 0 (rd args)
  rw [hbx]
 ·have hm : Mv (zha args) (zha args) g g w w := Mv.of_eq g w rfl rfl
  show VR (zd6 (rd args)) g w (zeo 0 args i) _
  have hi := zhq args 0 i
  rw [Nat.zero_add] at hi
  rw [hi]
  cases hd : args[i]? with
  | none => trivial
  | some d =>
   obtain ⟨v, hv1, hv2⟩ := zb4.at hr i d hd
   have hlt : i < vs.length := (List.getElem?_eq_some_iff.1 hv1).1
   have e : a.tmps.getD i (g.R0.ξ i) = v := by
    rw [hg.1]
    rw [Array.getD_eq_getD_getElem?, Array.getElem?_append_left (by simpa using hlt)]
    simp [hv1]
   rw [e]
   have hx := zu1 hG hv2
   exact (Mv.of_eq (σ := zha args) (σ' := zd6 (rd args)) g w rfl (by show zdj 0 (rd args) = fun _ => none; rw [hbx])).vr hx
theorem zej {f : FuncId} {fn : Func} {c : Code} {args res : List D} (hc : zbd P f) (hf : P.funcs[f]? = some fn) (hb : fn.body = some c) (hd : zbz fn.ntmps c = true) (hN : (rd args).length <= fn.ntmps)
  (h : ex P c [] (PS P fn.results.toList res) (zha args)) : FC P f args res := by
 refine GC_ofW hc hf hb hd hN (zdw args) fun w vs fp tp hv g a hR hg => ?_
 obtain ⟨hr, rfl, rfl⟩ := zb9 hv
 exact ⟨zha args, h, zna hr hR hg⟩
attribute [go_sem] zha zeo D.toN T.toN
end Go.Proofs.Yteeaofpphmhjdaa
namespace Go.Proofs.Yteeaofpphmhjdaa
set_option linter.unusedSimpArgs false
set_option linter.unusedVariables false
set_option linter.unusedSectionVars false
set_option maxRecDepth 4000
open Go.RowKit
variable {P : Program}
theorem owK_rn (t : T) (A B : Prop) : owK (.one (.rn t)) A B = B := by simp [owK, isOw]
attribute [go_sem] owK_rn
end Go.Proofs.Yteeaofpphmhjdaa
namespace Go.Proofs.Yteeaofpphmhjdaa
set_option linter.unusedSimpArgs false
set_option linter.unusedVariables false
set_option linter.unusedSectionVars false
set_option maxRecDepth 4000
open Go.RowKit
variable {P : Program}
def swp (a b e : Nat) : Nat := if e = a then b else if e = b then a else e
theorem zbq (a b e : Nat) : swp a b (swp a b e) = e := by unfold swp; split <;> (try split) <;> (try split) <;> omega
def C.ren (a b : Nat) : C -> C
 | .ow e g => .ow (swp a b e) g
 | .eo e g sz i o => .eo (swp a b e) g sz i o
 | c => c
def V.ren (a b : Nat) : V -> V
 | .one c => .one (c.ren a b)
 | .agg cs => .agg (cs.map (C.ren a b))
 | .tup xs => .tup (xs.map fun x => (x.1, x.2.map (C.ren a b)))
def St.ren (σ : St) (a b : Nat) : St := ⟨fun i => (σ.sl i).ren a b, fun k => (σ.bx k).map (·.map (C.ren a b)), fun e => σ.ev (swp a b e)⟩
def Gh.ren (g : Gh) (a b : Nat) : Gh := { g with ψ := fun e => g.ψ (swp a b e), φ := fun e => g.φ (swp a b e) }
theorem zef {σ : St} {a b k : Nat} : (σ.ren a b).bx k ≠ none ↔ σ.bx k ≠ none := by unfold St.ren; simp
theorem zqz {σ : St} {a b e n : Nat} (h : σ.has e n) : (σ.ren a b).has (swp a b e) n := by
 obtain ⟨x, h1, h2⟩ := h
 exact ⟨x, by show σ.ev (swp a b (swp a b e)) = _; rw [zbq]; exact h1, h2⟩
theorem zj1 {σ : St} {g : Gh} {w : World} {a b : Nat} : Fix (σ.ren a b) (g.ren a b) w = Fix σ g w := by
 funext q
 refine propext ⟨fun h => ⟨fun k hk => h.1 k (zef.2 hk), fun e x he ho => ?_, h.2.2⟩, fun h => ⟨fun k hk => h.1 k (zef.1 hk), fun e x he ho => h.2.1 (swp a b e) x he ho, h.2.2⟩⟩
 have := h.2.1 (swp a b e) x (by show σ.ev (swp a b (swp a b e)) = _; rw [zbq]; exact he) ho
 have e2 : (g.ren a b).φ (swp a b e) = g.φ e := by show g.φ (swp a b (swp a b e)) = _; rw [zbq]
 rwa [e2] at this
theorem zre {σ : St} {g : Gh} {w : World} {a b : Nat} : zbw (σ.ren a b) (g.ren a b) w = zbw σ g w := by
 funext q
 unfold zbw
 rw [zj1]
 refine propext ⟨fun h => ⟨h.1, fun e ho hm => h.2 (swp a b e) ?_ ?_⟩, fun h => ⟨h.1, fun e ho hm => h.2 (swp a b e) ho hm⟩⟩
 ·show σ.On (swp a b (swp a b e)); rw [zbq]; exact ho
 ·show q ∈ g.φ (swp a b (swp a b e)); rw [zbq]; exact hm
theorem zpd {σ : St} {g : Gh} {w : World} {a b : Nat} {c : C} {v : Value} (h : CR σ g w c v) : CR (σ.ren a b) (g.ren a b) w (c.ren a b) v := by
 have hF := zj1 (σ := σ) (g := g) (w := w) (a := a) (b := b)
 have hψ : ∀ e, (g.ren a b).ψ (swp a b e) = g.ψ e := fun e => by show g.ψ (swp a b (swp a b e)) = _; rw [zbq]
 cases c with
 | t x => show zag _ _ _ _; rw [hF]; exact h
 | nl s => exact h
 | ow e n => exact ⟨by show v = (g.ren a b).ψ (swp a b e) n; rw [hψ]; exact h.1, zqz h.2⟩
 | bx q o => exact ⟨h.1, zef.2 h.2⟩
 | el cs o => obtain ⟨q, r, h1, h2, h3⟩ := h; exact ⟨q, r, h1, by rw [hF]; exact h2, by rw [hF]; exact h3⟩
 | eo e s sz i o => obtain ⟨q, n, c, h1, h2, h3, h4⟩ := h; exact ⟨q, n, c, by rw [hψ]; exact h1, h2, h3, zqz h4⟩
 | fn f caps => exact ⟨h.1, fun q hq => zef.2 (h.2 q hq)⟩
 | cv u => exact h
 | any => trivial
 | rn x => show zag _ _ _ _; rw [zre]; exact h
 | er cs o => obtain ⟨q, r, h1, h2, h3⟩ := h; exact ⟨q, r, h1, by rw [zre]; exact h2, by rw [zre]; exact h3⟩
theorem zhj {σ : St} {g : Gh} {w : World} {a b : Nat} : ∀ {cs : List C} {vs : List Value}, CRs σ g w cs vs -> CRs (σ.ren a b) (g.ren a b) w (cs.map (C.ren a b)) vs
 | [], _, h => h
 | c :: cs, _, h => by obtain ⟨v, vs', rfl, h1, h2⟩ := h; exact ⟨v, vs', rfl, zpd h1, zhj h2⟩
theorem znj {σ : St} {g : Gh} {w : World} {a b : Nat} : ∀ {xs : List (Bool × List C)} {vs : List Value}, CRt σ g w xs vs -> CRt (σ.ren a b) (g.ren a b) w (xs.map fun x => (x.1, x.2.map (C.ren a b))) vs
 | [], _, h => h
 | x :: xs, _, h => by
  obtain ⟨v, vs', rfl, h1, h2⟩ := h
  refine ⟨v, vs', rfl, ?_, znj h2⟩
  unfold CRx at h1 ⊢
  split at h1
  ·rw [if_pos ‹_›]; obtain ⟨q, h3, h4⟩ := h1; exact ⟨q, h3, zhj h4⟩
  ·rw [if_neg ‹_›]; obtain ⟨c, h3, h4⟩ := h1; exact ⟨c.ren a b, by simp [h3], zpd h4⟩
theorem vr_ren {σ : St} {g : Gh} {w : World} {a b : Nat} {x : V} {v : Value} (h : VR σ g w x v) : VR (σ.ren a b) (g.ren a b) w (x.ren a b) v := by
 cases x with
 | one c => exact zpd h
 | agg cs => obtain ⟨q, h1, h2⟩ := h; exact ⟨q, h1, zhj h2⟩
 | tup xs => obtain ⟨q, h1, h2⟩ := h; exact ⟨q, h1, znj h2⟩
theorem zgc {σ : St} {a b e : Nat} (h : (σ.ren a b).On e) : σ.On (swp a b e) := h
theorem Rel.ren {n0 : Nat -> Prop} {N : Nat} {σ : St} {g : Gh} {ac : Act} {w : World} (h : Rel n0 N σ g ac w) (a b : Nat) : Rel n0 N (σ.ren a b) (g.ren a b) ac w := by
 have hF := zj1 (σ := σ) (g := g) (w := w) (a := a) (b := b)
 refine ⟨h.defers, h.size, h.anew, fun i => vr_ren (h.slots i), fun k cs hk => ?_, fun k hk => h.base k (zef.1 hk), fun k k' h1 h2 => h.inj k k' (zef.1 h1) (zef.1 h2), fun e x he ho => ?_, fun e x he ho => ?_, fun e n => h.slc (swp a b e) n, fun e he => h.ebase _ (zgc he), fun e he => h.etop _ (zgc he), fun e he => h.nodup _ (zgc he), fun e e' he he' hne => h.apart _ _ (zgc he) (zgc he') (fun k => hne (by rw [<- zbq a b e, k, zbq])), fun e k he hk => h.ebx _ k (zgc he) (zef.1 hk)⟩
 ·obtain ⟨cs0, h1, rfl⟩ := Option.map_eq_some_iff.1 hk
  obtain ⟨vs, ty, k1, k2⟩ := h.boxes k cs0 h1
  exact ⟨vs, ty, k1, zhj k2⟩
 ·rw [hF]; exact h.evs (swp a b e) x he ho
 ·rw [hF]; exact h.offs (swp a b e) x he ho
theorem zkt (a b : Nat) : ∀ (l : List (Nat × V)) (i : Nat), (zev l i).ren a b = zev (l.map fun p => (p.1, p.2.ren a b)) i
 | [], i => rfl
 | (j, v) :: l, i => by
  simp only [List.map_cons, zev]
  split
  ·rfl
  ·exact zkt a b l i
theorem zqm {α β : Type} (f : α -> β) : ∀ (l : List (Nat × α)) (i : Nat), (tbl l i).map f = tbl (l.map fun p => (p.1, f p.2)) i
 | [], i => rfl
 | (j, v) :: l, i => by
  simp only [List.map_cons, tbl]
  split
  ·rfl
  ·exact zqm f l i
theorem znd {α : Type} (a b : Nat) : ∀ (l : List (Nat × α)) (i : Nat), tbl l (swp a b i) = tbl (l.map fun p => (swp a b p.1, p.2)) i
 | [], i => rfl
 | (j, v) :: l, i => by
  simp only [List.map_cons, tbl]
  by_cases h : swp a b i = j
  ·rw [if_pos h, if_pos (by rw [<- h, zbq])]
  ·rw [if_neg h, if_neg (fun e => h (by rw [e, zbq]))]
   exact znd a b l i
theorem wk_ren (a b : Nat) (l : List (Nat × V)) (bl : List (Nat × List C)) (el : List (Nat × Ev)) : Wk (hd l bl el) (hd (l.map fun p => (p.1, p.2.ren a b)) (bl.map fun p => (p.1, p.2.map (C.ren a b))) (el.map fun p => (swp a b p.1, p.2))) := fun n0 N g ac w hR => by
 have e : (hd l bl el).ren a b = hd (l.map fun p => (p.1, p.2.ren a b)) (bl.map fun p => (p.1, p.2.map (C.ren a b))) (el.map fun p => (swp a b p.1, p.2)) := by
  unfold hd St.ren
  simp only [St.mk.injEq]
  exact ⟨funext fun i => zkt a b l i, funext fun k => zqm _ bl k, funext fun e => znd a b el e⟩
 exact ⟨g.ren a b, e ▸ hR.ren a b, rfl, rfl⟩
end Go.Proofs.Yteeaofpphmhjdaa
namespace Go.Proofs.Yteeaofpphmhjdaa
set_option linter.unusedSimpArgs false
set_option linter.unusedVariables false
set_option linter.unusedSectionVars false
set_option maxRecDepth 4000
open Go.RowKit
variable {P : Program}
def C.evs : C -> List Nat
 | .ow e _ => [e]
 | .eo e _ _ _ _ => [e]
 | _ => []
def C.bxs : C -> List Nat
 | .bx b _ => [b]
 | .fn _ caps => caps
 | _ => []
def V.alls : V -> List C
 | .one c => [c]
 | .agg cs => cs
 | .tup xs => xs.flatMap (·.2)
def ins (x : Nat) : List Nat -> List Nat
 | [] => [x]
 | y :: l => if x = y then y :: l else y :: ins x l
def zgh : List Nat -> List Nat -> List Nat
 | [], l => l
 | x :: xs, l => zgh xs (ins x l)
def noK (x : Nat) : List Nat -> Bool
 | [] => true
 | y :: l => if x = y then false else noK x l
def dif (l : List Nat) : List Nat -> List Nat
 | [] => []
 | x :: xs => if noK x l = true then x :: dif l xs else dif l xs
def zsc : List C -> List Nat
 | [] => []
 | c :: cs => c.bxs ++ zsc cs
def zsa : List C -> List Nat
 | [] => []
 | c :: cs => c.evs ++ zsa cs
def St.kb0 (σ : St) : List Nat -> List Nat
 | [] => []
 | i :: L => zgh (zsc (σ.sl i).alls) (σ.kb0 L)
def St.kb1 (σ : St) : List Nat -> List Nat
 | [] => []
 | b :: B => zgh (b :: zsc ((σ.bx b).getD [])) (σ.kb1 B)
def St.KB (σ : St) (L : List Nat) : List Nat := σ.kb1 (σ.kb0 L)
def St.ke0 (σ : St) : List Nat -> List Nat
 | [] => []
 | i :: L => zgh (zsa (σ.sl i).alls) (σ.ke0 L)
def St.ke1 (σ : St) (l : List Nat) : List Nat -> List Nat
 | [] => l
 | b :: B => zgh (zsa ((σ.bx b).getD [])) (σ.ke1 l B)
def St.KE (σ : St) (L : List Nat) : List Nat := σ.ke1 (σ.ke0 L) (σ.KB L)
def St.lL (σ : St) (L : List Nat) : List (Nat × V) := L.map fun i => (i, σ.sl i)
def St.lB (σ : St) (B : List Nat) : List (Nat × List C) := B.map fun b => (b, (σ.bx b).getD [])
def St.lE (σ : St) (E : List Nat) : List (Nat × Ev) := E.map fun e => (e, (σ.ev e).getD ⟨false, 0, [], 0, false⟩)
def St.hL (σ : St) (L : List Nat) : St := hd (σ.lL L) (σ.lB (σ.KB L)) (σ.lE (σ.KE L))
def wkK (σ : St) (L : List Nat) : Prop := wkL σ (σ.hL L) (σ.lL L) /\ wkB σ (σ.hL L) (σ.lB (σ.KB L)) /\ wkE σ (σ.lE (σ.KE L))
theorem wkK_wk {σ : St} {L : List Nat} (h : wkK σ L) : Wk σ (σ.hL L) := zah h
section
variable {ks : List Fr} {Q : Exit -> St -> Prop} {σ : St} {ops : Array Oper} {os : List Oper} {ty : TypeId} {ps : String} {af : Array Edge} {dst : Option Nat} {x : Operand} {asx : Array Operand} {ts : Array TypeId} {f : FuncId}
theorem zuo {g : Gh} {w : World} {c : C} {t : T} {v : Value} (h : rdC c t) (hv : CR σ g w c v) : zag w (zbw σ g w) t v := by
 unfold rdC at h
 split at h
 ·rename_i x
  obtain ⟨rfl, hn⟩ := h
  exact zfa (σ := σ) (g := g) (x := .one (.t x)) (d := .one x) ⟨rfl, hn⟩ hv _
 ·rename_i f f'
  subst h
  exact zfa (σ := σ) (g := g) (x := .one (.fn f [])) (d := .one (.fn f [])) rfl hv _
 ·subst h; exact hv
 ·obtain ⟨rfl, rfl⟩ := h
  obtain ⟨b, q, h1, h2, h3⟩ := hv
  unfold zag
  exact ⟨b, q, h1, h2, h3⟩
 ·subst h
  rw [show v = .slice none 0 0 from hv]
  unfold zag
  exact ⟨none, 0, rfl, by simp, by simp, Or.inl rfl⟩
 ·exact h.elim
theorem zn5 {g : Gh} {w : World} : ∀ {cs : List C} {ts : List T} {vs : List Value}, rdCs cs ts -> CRs σ g w cs vs -> zaa w (zbw σ g w) ts vs
 | [], [], vs, _, hv => by unfold zaa; exact hv
 | [], _ :: _, _, h, _ => h.elim
 | _ :: _, [], _, h, _ => h.elim
 | c :: cs, t :: ts, vs, h, hv => by
  obtain ⟨v, vs', rfl, h1, h2⟩ := hv
  unfold zaa
  exact ⟨v, vs', rfl, zuo h.1 h1, zn5 h.2 h2⟩
theorem rdV_fr {g : Gh} {w : World} {x : V} {d : D} {v : Value} (h : rdV x d) (hv : VR σ g w x v) : zrg w (zbw σ g w) d v := by
 unfold rdV at h
 split at h
 ·exact zuo h hv
 ·obtain ⟨b, e, hv⟩ := hv; exact ⟨b, e, zn5 h hv⟩
 ·exact h.elim
end
def gVN (k : Nat) : Bool × D -> V
 | (false, d) => d.toN
 | (true, d) => gV k (true, d)
theorem zao.atR {w : World} {A : Nat -> Prop} : ∀ {ds : List (Bool × D)} {vs : List Value} {fp tp : List Nat}, zao w A ds vs fp tp -> ∀ (i : Nat) d, ds[i]? = some (false, d) -> ∃ v, vs[i]? = some v /\ zrg w A d v
 | [], _, _, _, _, i, d, h => by simp at h
 | (false, e) :: ds, _, _, _, h, 0, d, hi => by
  obtain ⟨v, vs', rfl, h1, _⟩ := h
  simp only [List.getElem?_cons_zero, Option.some.injEq, Prod.mk.injEq, true_and] at hi
  subst hi
  exact ⟨v, rfl, h1⟩
 | (true, e) :: ds, _, _, _, h, 0, d, hi => by simp at hi
 | (false, e) :: ds, _, _, _, h, i + 1, d, hi => by
  obtain ⟨v, vs', rfl, _, h2⟩ := h
  simpa using zao.atR h2 i d (by simpa using hi)
 | (true, e) :: ds, _, _, _, h, i + 1, d, hi => by
  obtain ⟨v, vs', f1, f2, t1, t2, rfl, rfl, rfl, _, h2⟩ := h
  simpa using zao.atR h2 i d (by simpa using hi)
def renL (a b : Nat) (l : List (Nat × V)) : List (Nat × V) := l.map fun p => (p.1, p.2.ren a b)
def renB (a b : Nat) (l : List (Nat × List C)) : List (Nat × List C) := l.map fun p => (p.1, p.2.map (C.ren a b))
def renE (a b : Nat) (l : List (Nat × Ev)) : List (Nat × Ev) := l.map fun p => (swp a b p.1, p.2)
theorem zkl (a b : Nat) (c : C) : (c.ren a b).ren a b = c := by cases c <;> simp [C.ren, zbq]
theorem zhc (a b : Nat) (cs : List C) : (cs.map (C.ren a b)).map (C.ren a b) = cs := by
 rw [List.map_map]; exact (List.map_congr_left fun c _ => zkl a b c).trans (List.map_id cs)
theorem zs5 (a b : Nat) (v : V) : (v.ren a b).ren a b = v := by
 cases v with
 | one c => simp [V.ren, zkl]
 | agg cs => simp only [V.ren, zhc]
 | tup xs =>
  simp only [V.ren, List.map_map]
  congr 1
  exact (List.map_congr_left fun x _ => by simp only [Function.comp, zhc]; rfl).trans (List.map_id xs)
theorem zk0 (a b : Nat) {σ : St} {l : List (Nat × V)} {bl : List (Nat × List C)} {el : List (Nat × Ev)} (h : wkL σ (hd (renL a b l) (renB a b bl) (renE a b el)) (renL a b l) /\ wkB σ (hd (renL a b l) (renB a b bl) (renE a b el)) (renB a b bl) /\ wkE σ (renE a b el)) : Wk σ (hd l bl el) := by
 have h1 := (zah h).trans (wk_ren a b _ _ _)
 have e1 : (renL a b l).map (fun p => (p.1, p.2.ren a b)) = l := by
  unfold renL; rw [List.map_map]; exact (List.map_congr_left fun p _ => by simp only [Function.comp, zs5]; rfl).trans (List.map_id l)
 have e2 : (renB a b bl).map (fun p => (p.1, p.2.map (C.ren a b))) = bl := by
  unfold renB; rw [List.map_map]; exact (List.map_congr_left fun p _ => by simp only [Function.comp, zhc]; rfl).trans (List.map_id bl)
 have e3 : (renE a b el).map (fun p => (swp a b p.1, p.2)) = el := by
  unfold renE; rw [List.map_map]; exact (List.map_congr_left fun p _ => by simp only [Function.comp, zbq]; rfl).trans (List.map_id el)
 rw [e1, e2, e3] at h1
 exact h1
attribute [go_sem] C.evs C.bxs V.alls ins zgh noK dif zsc zsa St.kb0 St.kb1 St.KB St.ke0 St.ke1 St.KE St.lL St.lB St.lE St.hL wkK gVN renL renB renE C.ren V.ren swp
end Go.Proofs.Yteeaofpphmhjdaa
namespace Go.Proofs.Yteeaofpphmhjdaa
set_option linter.unusedSimpArgs false
set_option linter.unusedVariables false
set_option linter.unusedSectionVars false
set_option maxRecDepth 4000
open Go.RowKit
variable {P : Program}
theorem zao.append {w : World} {A : Nat -> Prop} : ∀ {d1 d2 : List (Bool × D)} {v1 v2 : List Value} {f1 f2 t1 t2 : List Nat}, zao w A d1 v1 f1 t1 -> zao w A d2 v2 f2 t2 -> zao w A (d1 ++ d2) (v1 ++ v2) (f1 ++ f2) (t1 ++ t2)
 | [], _, _, _, _, _, _, _, h, k => by obtain ⟨rfl, rfl, rfl⟩ := h; exact k
 | (true, d) :: ds, _, _, _, _, _, _, _, h, k => by
  obtain ⟨v, vs', g1, g2, s1, s2, rfl, rfl, rfl, h1, h2⟩ := h
  exact ⟨v, _, g1, _, s1, _, rfl, by rw [List.append_assoc], by rw [List.append_assoc], h1, zao.append h2 k⟩
 | (false, d) :: ds, _, _, _, _, _, _, _, h, k => by
  obtain ⟨v, vs', rfl, h1, h2⟩ := h
  exact ⟨v, _, rfl, h1, zao.append h2 k⟩
theorem zao.len {w : World} {A : Nat -> Prop} : ∀ {ds : List (Bool × D)} {vs : List Value} {fp tp : List Nat}, zao w A ds vs fp tp -> vs.length = ds.length
 | [], _, _, _, h => by rw [h.1]; rfl
 | (true, d) :: ds, _, _, _, h => by obtain ⟨v, vs', _, _, _, _, rfl, rfl, rfl, _, h2⟩ := h; simp [zao.len h2]
 | (false, d) :: ds, _, _, _, h => by obtain ⟨v, vs', rfl, _, h2⟩ := h; simp [zao.len h2]
theorem zao.split {w : World} {A : Nat -> Prop} : ∀ {d1 d2 : List (Bool × D)} {vs : List Value} {fp tp : List Nat}, zao w A (d1 ++ d2) vs fp tp -> ∃ v1 v2 f1 f2 t1 t2, vs = v1 ++ v2 /\ fp = f1 ++ f2 /\ tp = t1 ++ t2 /\ zao w A d1 v1 f1 t1 /\ zao w A d2 v2 f2 t2
 | [], d2, vs, fp, tp, h => ⟨[], vs, [], fp, [], tp, rfl, rfl, rfl, ⟨rfl, rfl, rfl⟩, h⟩
 | (true, d) :: ds, d2, _, _, _, h => by
  obtain ⟨v, vs', g1, g2, s1, s2, rfl, rfl, rfl, h1, h2⟩ := h
  obtain ⟨v1, v2, f1, f2, t1, t2, rfl, rfl, rfl, k1, k2⟩ := zao.split h2
  exact ⟨v :: v1, v2, g1 ++ f1, f2, s1 ++ t1, t2, rfl, by rw [List.append_assoc], by rw [List.append_assoc], ⟨v, v1, g1, f1, s1, t1, rfl, rfl, rfl, h1, k1⟩, k2⟩
 | (false, d) :: ds, d2, _, _, _, h => by
  obtain ⟨v, vs', rfl, h1, h2⟩ := h
  obtain ⟨v1, v2, f1, f2, t1, t2, rfl, rfl, rfl, k1, k2⟩ := zao.split h2
  exact ⟨v :: v1, v2, f1, f2, t1, t2, rfl, rfl, rfl, ⟨v, v1, rfl, h1, k1⟩, k2⟩
def za9 : List (Bool × D) -> List (Bool × T)
 | [] => []
 | (b, .one t) :: ds => (b, t) :: za9 ds
 | (b, .agg ts) :: ds => ts.map (fun t => (b, t)) ++ za9 ds
def bxA (box : List (Bool × T)) : List (Bool × D) := box.map fun p => (p.1, .one p.2)
theorem zm0.ones {w : World} {A : Nat -> Prop} : ∀ {ts : List T} {vs : List Value} {fp tp : List Nat}, zm0 w ts vs fp tp -> zao w A (bxA (ts.map fun t => (true, t))) vs fp tp
 | [], _, _, _, h => h
 | t :: ts, _, _, _, h => by
  obtain ⟨v, vs', f1, f2, t2, rfl, rfl, rfl, h1, h2⟩ := h
  exact ⟨v, vs', f1, f2, _, t2, rfl, rfl, rfl, ⟨h1, rfl⟩, zm0.ones h2⟩
theorem zaa.ones {w : World} {A : Nat -> Prop} : ∀ {ts : List T} {vs : List Value}, zaa w A ts vs -> zao w A (bxA (ts.map fun t => (false, t))) vs [] []
 | [], _, h => by unfold zaa at h; exact ⟨h, rfl, rfl⟩
 | t :: ts, _, h => by
  unfold zaa at h
  obtain ⟨v, vs', rfl, h1, h2⟩ := h
  exact ⟨v, vs', rfl, h1, zaa.ones h2⟩
theorem zd7 (a b : List (Bool × T)) : bxA (a ++ b) = bxA a ++ bxA b := List.map_append
theorem zag.cells1 {w : World} {A : Nat -> Prop} {t : T} {v : Value} (h : zag w A t v) : v.cells = #[v] := (zag.one h).2
theorem zao.flat {w : World} {A : Nat -> Prop} : ∀ {ds : List (Bool × D)} {vs : List Value} {fp tp : List Nat}, zao w A ds vs fp tp -> ∃ tp', zao w A (bxA (za9 ds)) (vs.flatMap fun u => u.cells.toList) fp tp'
 | [], _, _, _, h => by obtain ⟨rfl, rfl, rfl⟩ := h; exact ⟨[], rfl, rfl, rfl⟩
 | (true, .one t) :: ds, _, _, _, h => by
  obtain ⟨v, vs', f1, f2, t1, t2, rfl, rfl, rfl, h1, h2⟩ := h
  obtain ⟨tp', h2⟩ := zao.flat h2
  have e : (v :: vs').flatMap (fun u => u.cells.toList) = v :: vs'.flatMap fun u => u.cells.toList := by
   have h1' : zaq w t v f1 := h1.1
   simp [h1'.one]
  exact ⟨t1 ++ tp', v, _, f1, f2, t1, tp', e, rfl, rfl, h1, h2⟩
 | (false, .one t) :: ds, _, _, _, h => by
  obtain ⟨v, vs', rfl, h1, h2⟩ := h
  obtain ⟨tp', h2⟩ := zao.flat h2
  have e : (v :: vs').flatMap (fun u => u.cells.toList) = v :: vs'.flatMap fun u => u.cells.toList := by
   have h1' : zag w A t v := h1
   simp [h1'.cells1]
  exact ⟨tp', v, _, e, h1, h2⟩
 | (true, .agg ts) :: ds, _, _, _, h => by
  obtain ⟨v, vs', f1, f2, t1, t2, rfl, rfl, rfl, ⟨a, rfl, h1⟩, h2⟩ := h
  obtain ⟨tp', h2⟩ := zao.flat h2
  refine ⟨t1 ++ tp', ?_⟩
  show zao w A (bxA (ts.map (fun t => (true, t)) ++ za9 ds)) (a ++ vs'.flatMap fun u => u.cells.toList) _ _
  rw [zd7]
  exact zao.append h1.ones h2
 | (false, .agg ts) :: ds, _, _, _, h => by
  obtain ⟨v, vs', rfl, ⟨a, rfl, h1⟩, h2⟩ := h
  obtain ⟨tp', h2⟩ := zao.flat h2
  refine ⟨[] ++ tp', ?_⟩
  show zao w A (bxA (ts.map (fun t => (false, t)) ++ za9 ds)) (a ++ vs'.flatMap fun u => u.cells.toList) _ _
  rw [zd7]
  exact zao.append h1.ones h2
def mC1 (d j : Nat) : Bool × T -> C
 | (true, t) => owC d j t
 | (false, t) => t.toN
def mC (d : Nat) : Nat -> List (Bool × T) -> List C
 | _, [] => []
 | j, p :: ts => mC1 d j p :: mC d (j + 1) ts
def mE (d : Nat) : Nat -> List (Bool × T) -> (Nat -> Option Ev) -> (Nat -> Option Ev)
 | _, [], f => f
 | j, (true, t) :: ts, f => mE d (j + 1) ts (zjj d j f t)
 | j, (false, _) :: ts, f => mE d (j + 1) ts f
def mF (d : Nat) : Nat -> List (Bool × T) -> (Nat -> Option Ev) -> Prop
 | _, [], _ => True
 | j, (true, t) :: ts, f => zr3 d j f t /\ mF d (j + 1) ts (zjj d j f t)
 | j, (false, _) :: ts, f => mF d (j + 1) ts f
def mD (d : Nat) : Nat -> List (Bool × D) -> List V
 | _, [] => []
 | j, (b, .one t) :: ds => .one (mC1 d j (b, t)) :: mD d (j + 1) ds
 | j, (b, .agg ts) :: ds => .agg (mC d j (ts.map fun t => (b, t))) :: mD d (j + ts.length) ds
theorem ziu (d : Nat) : ∀ (ts : List (Bool × T)) (j : Nat), (mC d j ts).length = ts.length
 | [], _ => rfl
 | t :: ts, j => by simp [mC, ziu d ts]
theorem zcy (d : Nat) : ∀ (t1 t2 : List (Bool × T)) (j : Nat), mC d j (t1 ++ t2) = mC d j t1 ++ mC d (j + t1.length) t2
 | [], _, _ => by simp [mC]
 | t :: ts, t2, j => by simp only [List.cons_append, mC, zcy d ts t2 (j + 1), List.length_cons]; rw [show j + 1 + ts.length = j + (ts.length + 1) by omega]
theorem zo8 (d : Nat) : ∀ (ds : List (Bool × D)) (j : Nat), ∀ x ∈ mD d j ds, x.isTup = false
 | [], _, x, hx => by simp [mD] at hx
 | (_, .one t) :: ds, j, x, hx => by
  simp only [mD, List.mem_cons] at hx
  rcases hx with rfl | hx
  ·rfl
  ·exact zo8 d ds _ x hx
 | (_, .agg ts) :: ds, j, x, hx => by
  simp only [mD, List.mem_cons] at hx
  rcases hx with rfl | hx
  ·rfl
  ·exact zo8 d ds _ x hx
theorem New.mix {τ : St} {g : Gh} {NB : Nat -> Prop} {w' : World} {A : Nat -> Prop} (d : Nat) : ∀ (ts : List (Bool × T)) (vs : List Value) (fp tp : List Nat) (j : Nat) (ev' : Nat -> Option Ev) (g' : Gh) (F : List Nat), New τ g NB w' ev' g' F -> mF d j ts ev' -> zao w' A (bxA ts) vs fp tp -> fp.Nodup -> (∀ b ∈ fp, NB b /\ b ∉ F) →
  ∃ g'', New τ g NB w' (mE d j ts ev') g'' (F ++ fp) /\ (∀ e, ev' e ≠ none -> mE d j ts ev' e = ev' e /\ g''.ψ e = g'.ψ e) /\ ∀ (σ' : St) (w'' : World), σ'.ev = mE d j ts ev' -> (∀ t v, zag w' A t v -> zag w'' (zbw σ' g'' w'') t v) -> CRs σ' g'' w'' (mC d j ts) vs
 | [], vs, fp, tp, j, ev', g', F, hN, hf, ho, hd, hb => by
  obtain ⟨rfl, rfl, rfl⟩ := ho
  exact ⟨g', by simpa [mE] using hN, fun e _ => ⟨rfl, rfl⟩, fun _ _ _ _ => rfl⟩
 | (false, t) :: ts, vs, fp, tp, j, ev', g', F, hN, hf, ho, hd, hb => by
  obtain ⟨v, vs', rfl, h1, h2⟩ := ho
  obtain ⟨g'', k1, k2, k3⟩ := New.mix d ts vs' fp tp (j + 1) ev' g' F hN hf h2 hd hb
  exact ⟨g'', k1, k2, fun σ' w'' hσ hr => ⟨v, vs', rfl, zqg (hr t v h1), k3 σ' w'' hσ hr⟩⟩
 | (true, t) :: ts, vs, fp, tp, j, ev', g', F, hN, hf, ho, hd, hb => by
  obtain ⟨v, vs', f1, f2, t1, t2, rfl, rfl, rfl, ⟨h1, _⟩, h2⟩ := ho
  obtain ⟨hf1, hf2⟩ := hf
  obtain ⟨hd1, hd2, hd3⟩ := List.nodup_append.1 hd
  have h1 : zaq w' t v f1 := h1
  by_cases hfl : t.flat = true
  ·have hz : f1 = [] /\ owC d j t = .t t /\ zjj d j ev' t = ev' /\ ∀ (σ' : St) (g'' : Gh) (w'' : World), CR σ' g'' w'' (.t t) v := by
    cases t <;> simp only [T.flat, Bool.false_eq_true] at hfl
    ·unfold zaq at h1; exact ⟨h1.2.2.2, rfl, rfl, fun _ _ _ => by simp only [CR, zag]; exact ⟨h1.1, h1.2.1, h1.2.2.1⟩⟩
    ·unfold zaq at h1; exact ⟨h1.2, rfl, rfl, fun _ _ _ => by simp only [CR, zag]; exact h1.1⟩
    ·unfold zaq at h1; exact ⟨h1.2.2, rfl, rfl, fun _ _ _ => by simp only [CR, zag]; exact ⟨h1.1, h1.2.1⟩⟩
    ·unfold zaq at h1; exact ⟨h1.2, rfl, rfl, fun _ _ _ => by simp only [CR, zag]; exact h1.1⟩
   obtain ⟨rfl, c2, c3, c4⟩ := hz
   rw [c3] at hf2
   obtain ⟨g'', k1, k2, k3⟩ := New.mix d ts vs' f2 t2 (j + 1) ev' g' F hN hf2 h2 hd2 (fun b hb' => hb b (by simp [hb']))
   refine ⟨g'', by simpa [mE, c3] using k1, fun e he => by simpa [mE, c3] using k2 e he, fun σ' w'' hσ hr => ⟨v, vs', rfl, ?_, k3 σ' w'' (by simpa [mE, c3] using hσ) hr⟩⟩
   show CR σ' g'' w'' (owC d j t) v
   rw [c2]; exact c4 _ _ _
  ·cases t <;> simp only [T.flat, Bool.false_eq_true, not_false_eq_true, not_true] at hfl
   ·rename_i sz rows
    have hi' : ev' (d * 32 + j) = none := hf1
    have hi : τ.ev (d * 32 + j) = none := by
     cases hx : τ.ev (d * 32 + j) with
     | none => rfl
     | some x => have := (hN.old (d * 32 + j) (by rw [hx]; simp)).1; rw [hi', hx] at this; cases this
    have hadd := hN.add hi hi' h1 (fun b hb' => (hb b (by simp [hb'])).1) hd1 (fun b hb' => (hb b (by simp [hb'])).2)
    obtain ⟨g'', k1, k2, k3⟩ := New.mix d ts vs' f2 t2 (j + 1) _ _ _ hadd hf2 h2 hd2 (fun b hb' => ⟨(hb b (by simp [hb'])).1, by
      have := (hb b (by simp [hb'])).2
      simp only [List.mem_append, not_or]
      exact ⟨this, fun hf => hd3 b hf b hb' rfl⟩⟩)
    refine ⟨g'', by simpa [mE, zjj] using k1, fun e he => ?_, fun σ' w'' hσ hr => ⟨v, vs', rfl, ?_, k3 σ' w'' hσ hr⟩⟩
    ·have hne : e ≠ d * 32 + j := fun h => he (h ▸ hi')
     have := k2 e (by rw [zae _ _ hne]; exact he)
     simp only [zae _ _ hne] at this
     exact this
    ·have := k2 (d * 32 + j) (by rw [zab]; simp)
     simp only [zab] at this
     exact ⟨by rw [this.2], _, by rw [hσ]; exact this.1, Nat.zero_le _⟩
   ·unfold zaq at h1; exact h1.elim
   ·unfold zaq at h1; exact h1.elim
   ·unfold zaq at h1; exact h1.elim
   ·exact (show False from hf1).elim
theorem zor {σ : St} {g : Gh} {w w1 : World} {A : Nat -> Prop} (d : Nat) : ∀ {ds : List (Bool × D)} {us : List Value} {fp tp : List Nat} (j : Nat), zao w1 A ds us fp tp -> CRs σ g w (mC d j (za9 ds)) (us.flatMap fun u => u.cells.toList) -> VRl σ g w (mD d j ds) us
 | [], us, fp, tp, j, h, _ => h.1
 | (true, .one t) :: ds, us, fp, tp, j, h, k => by
  obtain ⟨v, vs', f1, f2, t1, t2, rfl, rfl, rfl, h1, h2⟩ := h
  have hv : zaq w1 t v f1 := h1.1
  simp only [List.flatMap_cons, hv.one, za9, mC] at k
  obtain ⟨u, us', e, k1, k2⟩ := k
  simp only [List.cons_append, List.nil_append, List.cons.injEq] at e
  obtain ⟨rfl, rfl⟩ := e
  exact ⟨v, vs', rfl, k1, zor d (j + 1) h2 k2⟩
 | (false, .one t) :: ds, us, fp, tp, j, h, k => by
  obtain ⟨v, vs', rfl, h1, h2⟩ := h
  have hv : zag w1 A t v := h1
  simp only [List.flatMap_cons, hv.cells1, za9, mC] at k
  obtain ⟨u, us', e, k1, k2⟩ := k
  simp only [List.cons_append, List.nil_append, List.cons.injEq] at e
  obtain ⟨rfl, rfl⟩ := e
  exact ⟨v, vs', rfl, k1, zor d (j + 1) h2 k2⟩
 | (true, .agg ts) :: ds, us, fp, tp, j, h, k => by
  obtain ⟨v, vs', f1, f2, t1, t2, rfl, rfl, rfl, ⟨x, rfl, h1⟩, h2⟩ := h
  simp only [List.flatMap_cons, Value.cells, za9, zcy] at k
  obtain ⟨v1, v2, e, k1, k2⟩ := k.split
  have hl : x.length = v1.length := by rw [k1.len, ziu, List.length_map]; exact zal.len (zal.of_g h1)
  obtain ⟨e1, e2⟩ := List.append_inj e hl
  subst e1 e2
  rw [List.length_map] at k2
  exact ⟨_, vs', rfl, ⟨x, rfl, k1⟩, zor d (j + ts.length) h2 k2⟩
 | (false, .agg ts) :: ds, us, fp, tp, j, h, k => by
  obtain ⟨v, vs', rfl, ⟨x, rfl, h1⟩, h2⟩ := h
  simp only [List.flatMap_cons, Value.cells, za9, zcy] at k
  obtain ⟨v1, v2, e, k1, k2⟩ := k.split
  have hl : x.length = v1.length := by rw [k1.len, ziu, List.length_map]; exact h1.len
  obtain ⟨e1, e2⟩ := List.append_inj e hl
  subst e1 e2
  rw [List.length_map] at k2
  exact ⟨_, vs', rfl, ⟨x, rfl, k1⟩, zor d (j + ts.length) h2 k2⟩
theorem zc1 {σ : St} {g : Gh} {w : World} {n0 : Nat -> Prop} {N : Nat} {a : Act} (hR : Rel n0 N σ g a w) {B : Sr -> List Nat} (hB : Fam w σ g B) {K : List Sr -> Prop} : ∀ {xs : List V} {ds : List (Bool × D)} {u : List Sr} {ps : List (Nat × Nat × Nat)} {vs : List Value}, gvA σ K u ps xs ds -> VRl σ g w xs vs →
  ∃ s, K (s.reverse ++ u) /\ (∃ tp, zao w (zbw σ g w) ds vs (bks B s) tp) /\ (∀ x ∈ s, σ.On x.1) /\ (u.Pairwise okP -> (s.reverse ++ u).Pairwise okP)
 | [], [], u, ps, vs, h, hv => ⟨[], h, ⟨[], hv, rfl, rfl⟩, by simp, fun h => h⟩
 | [], _ :: _, _, _, _, h, _ => h.elim
 | x :: xs, [], _, _, _, h, _ => by cases x <;> exact h.elim
 | x :: xs, (false, d) :: ds, u, ps, vs, h, hv => by
  obtain ⟨v, vs', rfl, h1, h2⟩ := hv
  unfold gvA at h
  obtain ⟨hr, h⟩ := h
  obtain ⟨s, k1, ⟨tp, k2⟩, k3, k4⟩ := zc1 hR hB h h2
  exact ⟨s, k1, ⟨tp, v, vs', rfl, rdV_fr hr h1, k2⟩, k3, k4⟩
 | .one c :: xs, (true, .one t) :: ds, u, ps, vs, h, hv => by
  obtain ⟨v, vs', rfl, h1, h2⟩ := hv
  unfold gvA at h
  obtain ⟨s, ps', tp, k1, k2, k3, k4⟩ := zbh hR hB h (vs := [v]) ⟨v, [], rfl, h1, rfl⟩
  obtain ⟨s', j1, ⟨tp', j2⟩, j3, j4⟩ := zc1 hR hB k1 h2
  obtain ⟨v0, vs0, f1, f2, t2, e0, e1, rfl, q1, q2⟩ := k2
  cases e0
  obtain ⟨_, rfl, rfl⟩ := q2
  rw [List.append_nil] at e1
  refine ⟨s ++ s', by simpa using j1, ⟨zfw t f1 ++ tp', v, vs', bks B s, bks B s', _, tp', rfl, by unfold bks; rw [List.flatMap_append], rfl, ⟨by rw [e1]; exact q1, by rw [e1]⟩, j2⟩, fun x hx => ?_, fun hu => by simpa using j4 (k4 hu)⟩
  rcases List.mem_append.1 hx with hx | hx
  ·exact k3 x hx
  ·exact j3 x hx
 | .agg cs :: xs, (true, .agg ts) :: ds, u, ps, vs, h, hv => by
  obtain ⟨v, vs', rfl, ⟨y, rfl, h1⟩, h2⟩ := hv
  unfold gvA at h
  obtain ⟨s, ps', tp, k1, k2, k3, k4⟩ := zbh hR hB h h1
  obtain ⟨s', j1, ⟨tp', j2⟩, j3, j4⟩ := zc1 hR hB k1 h2
  refine ⟨s ++ s', by simpa using j1, ⟨tp ++ tp', _, vs', bks B s, bks B s', tp, tp', rfl, by unfold bks; rw [List.flatMap_append], rfl, ⟨y, rfl, k2⟩, j2⟩, fun x hx => ?_, fun hu => by simpa using j4 (k4 hu)⟩
  rcases List.mem_append.1 hx with hx | hx
  ·exact k3 x hx
  ·exact j3 x hx
 | .one _ :: _, (true, .agg _) :: _, _, _, _, h, _ => h.elim
 | .agg _ :: _, (true, .one _) :: _, _, _, _, h, _ => h.elim
 | .tup _ :: _, (true, d) :: _, _, _, _, h, _ => by cases d <;> exact h.elim
attribute [go_sem] za9 mC1 mC mE mF mD zjj zr3
end Go.Proofs.Yteeaofpphmhjdaa
namespace Go.Proofs.Yteeaofpphmhjdaa
set_option linter.unusedSimpArgs false
set_option linter.unusedVariables false
set_option linter.unusedSectionVars false
set_option maxRecDepth 4000
open Go.RowKit
variable {P : Program}
def C.fz (e : Nat) (x : Ev) : C -> C
 | .ow e' g => if e' = e then (if g = x.gen then .rn (.sl x.sz x.rows) else .any) else .ow e' g
 | .eo e' g sz i o => if e' = e then .any else .eo e' g sz i o
 | c => c
def fzS (f : Nat -> V) (e : Nat) (x : Ev) : Nat -> V := fun i => (f i).map (C.fz e x)
def fzB (f : Nat -> Option (List C)) (e : Nat) (x : Ev) : Nat -> Option (List C) := fun b => (f b).map fun cs => cs.map (C.fz e x)
def fzE (f : Nat -> Option Ev) (e : Nat) : Nat -> Option Ev := fun k => if k = e then none else f k
theorem fzS_at (f : Nat -> V) (e : Nat) (x : Ev) (i : Nat) : fzS f e x i = (f i).map (C.fz e x) := rfl
theorem zlg (f : Nat -> Option (List C)) (e : Nat) (x : Ev) (b : Nat) : fzB f e x b = (f b).map fun cs => cs.map (C.fz e x) := rfl
theorem fzE_at (f : Nat -> Option Ev) (e k : Nat) : fzE f e k = if k = e then none else f k := rfl
def St.fz (σ : St) (e : Nat) (x : Ev) : St := ⟨fzS σ.sl e x, fzB σ.bx e x, fzE σ.ev e⟩
theorem fz_wk {σ : St} {e : Nat} {x : Ev} (hx : σ.ev e = some x) (hd : x.deep = true) (ho : x.on = true) : Wk σ (σ.fz e x) := by
 intro n0 N g a w h
 have hev : ∀ e', e' ≠ e -> (σ.fz e x).ev e' = σ.ev e' := fun e' he => by show (if e' = e then none else σ.ev e') = _; rw [if_neg he]
 have hee : (σ.fz e x).ev e = none := by show (if e = e then none else σ.ev e) = _; rw [if_pos rfl]
 have hsome : ∀ e' z, (σ.fz e x).ev e' = some z -> e' ≠ e /\ σ.ev e' = some z := fun e' z hz => by
  by_cases he : e' = e
  ·subst he; rw [hee] at hz; cases hz
  ·exact ⟨he, by rw [<- hev e' he]; exact hz⟩
 have hon : ∀ e', (σ.fz e x).On e' -> e' ≠ e /\ σ.On e' := fun e' ⟨z, hz, h1⟩ => ⟨(hsome e' z hz).1, z, (hsome e' z hz).2, h1⟩
 have hbx : ∀ b, (σ.fz e x).bx b ≠ none ↔ σ.bx b ≠ none := fun b => by unfold St.fz; simp [zlg]
 have hOn : σ.On e := ⟨x, hx, ho⟩
 have hf : ∀ b, Fix σ g w b -> Fix (σ.fz e x) g w b := fun b hf => ⟨fun k hk => hf.1 k ((hbx k).1 hk), fun e' z hz h1 => hf.2.1 e' z (hsome e' z hz).2 h1, hf.2.2⟩
 have hfr : ∀ b, zbw σ g w b -> zbw (σ.fz e x) g w b := fun b hb => ⟨hf b hb.1, fun e' h' => hb.2 e' (hon e' h').2⟩
 have hgone : ∀ b ∈ g.φ e, b < w.heap.size -> zbw (σ.fz e x) g w b := fun b hb hl => by
  have hne : ∀ e', (σ.fz e x).On e' -> b ∉ g.φ e' := fun e' he' hm => h.apart e e' hOn (hon e' he').2 (Ne.symm (hon e' he').1) b hb hm
  exact ⟨⟨fun j hj hjb => h.ebx e j hOn ((hbx j).1 hj) (by rw [hjb]; exact hb), fun e' z hz h1 hh => hne e' ⟨z, hz, h1⟩ (List.mem_of_mem_head? hh), hl, (h.ebase e hOn b hb).1⟩, hne⟩
 have hhas : ∀ e' n, e' ≠ e -> σ.has e' n -> (σ.fz e x).has e' n := fun e' n he ⟨z, hz, h1⟩ => ⟨z, by rw [hev e' he]; exact hz, h1⟩
 have cr : ∀ c v, CR σ g w c v -> CR (σ.fz e x) g w (c.fz e x) v := fun c v hc => by
  cases c with
  | t y => exact zag.keep (fun _ _ => rfl) hf y v hc
  | nl s => exact hc
  | ow e' n =>
   show CR _ _ _ (if e' = e then (if n = x.gen then .rn (.sl x.sz x.rows) else .any) else .ow e' n) v
   by_cases he : e' = e
   ·subst he
    rw [if_pos rfl]
    by_cases hn : n = x.gen
    ·rw [if_pos hn]
     subst hn
     obtain ⟨ao, cap, e1, e2, e3, e4⟩ := h.evs _ x hx ho
     rw [<- hc.1] at e1
     show zag _ _ _ _
     unfold zag
     refine ⟨ao, cap, e1, e2, e3, ?_⟩
     rcases e4 with ⟨_, _, e4, _⟩ | ⟨b, cells, ty, fps, k1, k2, k3, k4, k5⟩
     ·exact Or.inl e4
     ·rw [if_pos hd] at k5
      have hl : ∀ b' ∈ fps, b' < w.heap.size := zad.lt cells 0 x.sz x.rows fps k5
      exact Or.inr ⟨b, 0, k1, hgone b (by rw [k2]; simp) (Array.getElem?_eq_some_iff.1 k3).1, zad.rep b cells ty k3 0 x.sz x.rows fps k5 fun b' hb' => hgone b' (by rw [k2]; simp [hb']) (hl b' hb')⟩
    ·rw [if_neg hn]; trivial
   ·rw [if_neg he]; exact ⟨hc.1, hhas e' n he hc.2⟩
  | bx b o => exact ⟨hc.1, (hbx b).2 hc.2⟩
  | el cs o => obtain ⟨b, q, h1, h2, h3⟩ := hc; exact ⟨b, q, h1, hf b h2, zau.keep (fun _ _ => rfl) hf b rfl q cs h3⟩
  | eo e' s sz i o =>
   show CR _ _ _ (if e' = e then .any else .eo e' s sz i o) v
   by_cases he : e' = e
   ·rw [if_pos he]; trivial
   ·rw [if_neg he]; obtain ⟨b, n, c, h1, h2, h3, h4⟩ := hc; exact ⟨b, n, c, h1, h2, h3, hhas e' s he h4⟩
  | fn f caps => exact ⟨hc.1, fun b hb => (hbx b).2 (hc.2 b hb)⟩
  | cv u => exact hc
  | any => trivial
  | rn y => exact zag.keep (fun _ _ => rfl) hfr y v hc
  | er cs o => obtain ⟨b, q, h1, h2, h3⟩ := hc; exact ⟨b, q, h1, hfr b h2, zau.keep (fun _ _ => rfl) hfr b rfl q cs h3⟩
 refine ⟨g, ⟨h.defers, h.size, h.anew, fun i => VR.map cr (h.slots i), fun b cs hb => ?_, fun b hb => h.base b ((hbx b).1 hb), fun b b' h1 h2 => h.inj b b' ((hbx b).1 h1) ((hbx b').1 h2), fun e' z hz h1 => ?_, fun e' z hz h1 => ?_, h.slc, fun e' h1 => h.ebase e' (hon e' h1).2, fun e' h1 => h.etop e' (hon e' h1).2, fun e' h1 => h.nodup e' (hon e' h1).2, fun e1 e2 h1 h2 => h.apart e1 e2 (hon e1 h1).2 (hon e2 h2).2, fun e' k h1 h2 => h.ebx e' k (hon e' h1).2 ((hbx k).1 h2)⟩, rfl, rfl⟩
 ·cases hc : σ.bx b with
  | none => unfold St.fz at hb; simp only [zlg, hc, Option.map_none] at hb; cases hb
  | some cs0 =>
   unfold St.fz at hb
   simp only [zlg, hc, Option.map_some, Option.some.injEq] at hb
   subst hb
   obtain ⟨vs, ty, k1, k2⟩ := h.boxes b cs0 hc
   exact ⟨vs, ty, k1, CRs.map cr k2⟩
 ·obtain ⟨ao, cap, e1, e2, e3, e4⟩ := h.evs e' z (hsome e' z hz).2 h1
  refine ⟨ao, cap, e1, e2, e3, ?_⟩
  rcases e4 with e4 | ⟨b, cells, ty, fps, k1, k2, k3, k4, k5⟩
  ·exact Or.inl e4
  ·refine Or.inr ⟨b, cells, ty, fps, k1, k2, k3, k4, ?_⟩
   split at k5
   ·rw [if_pos ‹_›]; exact k5
   ·rw [if_neg ‹_›]; exact ⟨k5.1, zaf.keep (fun _ _ => rfl) hf b rfl 0 z.sz z.rows k5.2⟩
 ·exact ⟨zag.keep (fun _ _ => rfl) hf _ _ (h.offs e' z (hsome e' z hz).2 h1).1, (h.offs e' z (hsome e' z hz).2 h1).2⟩
theorem zbo.pre {o : Oper} {σ σ' : St} {K : St -> Prop} (h : Wk σ σ') (k : zbo P o σ' K) : zbo P o σ K := fun n0 N g a w hR hn hd => by
 obtain ⟨g1, h1, h2, h3⟩ := h n0 N g a w hR
 have := k n0 N g1 a w h1 hn hd
 unfold Oper.wp at this ⊢
 revert this
 cases (execOp a.eval o).run P w <;> intro this <;> try exact this
 all_goals (revert this; rw [h2, h3]; exact id)
section
variable {ks : List Fr} {Q : Exit -> St -> Prop} {σ : St} {ops : Array Oper} {os : List Oper} {o : Oper}
theorem zoh {σ' : St} (h : Wk σ σ') (hg : o.guard = none) (hs : zm3 o.op = true) (k : exo P ops (o :: os) ks Q σ') : exo P ops (o :: os) ks Q σ := by
 unfold exo za3 exG at k ⊢
 rw [hg] at k ⊢
 simp only at k ⊢
 unfold zbb zja at k ⊢
 rw [if_pos (by rw [hs]; rfl)] at k ⊢
 exact k.pre h
theorem frzO (e : Nat) (hg : o.guard = none) (hs : zm3 o.op = true) (k : zan (σ.ev e) fun x => x.deep = true /\ x.on = true /\ exo P ops (o :: os) ks Q (σ.fz e x)) : exo P ops (o :: os) ks Q σ := by
 obtain ⟨x, hx, h1, h2, h3⟩ := zai k
 exact zoh (fz_wk hx h1 h2) hg hs h3
end
attribute [go_sem] C.fz St.fz V.map fzS_at zlg fzE_at
end Go.Proofs.Yteeaofpphmhjdaa
namespace Go.Proofs.Yteeaofpphmhjdaa
theorem ag_3 : zuk Try.prog 3 = some false := by kernel_rfl
theorem sz_3 : za5 Try.prog 3 = some 1 := by kernel_rfl
theorem in_3 : zti Try.prog 3 = some .i64 := by kernel_rfl
theorem ze_3 : zcj Try.prog 3 = some [.t (.int .i64 0)] := by kernel_rfl
theorem bo_4 : zq5 Try.prog 4 = true := by kernel_rfl
theorem ag_5 : zuk Try.prog 5 = some false := by kernel_rfl
theorem sz_5 : za5 Try.prog 5 = some 1 := by kernel_rfl
theorem in_5 : zti Try.prog 5 = some .u8 := by kernel_rfl
theorem ag_22 : zuk Try.prog 22 = some false := by kernel_rfl
theorem sz_22 : za5 Try.prog 22 = some 1 := by kernel_rfl
theorem el_22 : elT Try.prog 22 = some 5 := by kernel_rfl
theorem nl_24 : nlT Try.prog 24 = 1 := by kernel_rfl
theorem el_24 : elT Try.prog 24 = some 27 := by kernel_rfl
theorem zl0 : zcq Try.prog 27 = some 24 := by kernel_rfl
theorem nl_27 : nlT Try.prog 27 = 1 := by kernel_rfl
theorem ag_27 : zuk Try.prog 27 = some false := by kernel_rfl
theorem sz_27 : za5 Try.prog 27 = some 1 := by kernel_rfl
theorem el_27 : elT Try.prog 27 = some 3 := by kernel_rfl
theorem zqb : zcq Try.prog 3 = some 8 := by kernel_rfl
theorem ze_27 : zcj Try.prog 27 = some [.nl 1] := by kernel_rfl
theorem ag_58 : zuk Try.prog 58 = some false := by kernel_rfl
theorem sz_58 : za5 Try.prog 58 = some 1 := by kernel_rfl
theorem in_58 : zti Try.prog 58 = some .u64 := by kernel_rfl
theorem ze_60 : zcj Try.prog 60 = some [.nl 1, .t (.int .i64 0), .t (.int .u64 0)] := by kernel_rfl
theorem pl_60 : plsT Try.prog 60 = some [(0, 1), (1, 1), (2, 1)] := by kernel_rfl
theorem zvh : zp7 Try.prog 60 0 = some (0, 22) := by kernel_rfl
theorem zvq : zp7 Try.prog 60 1 = some (1, 3) := by kernel_rfl
theorem zvn : zp7 Try.prog 60 2 = some (2, 58) := by kernel_rfl
theorem ap_24 : apT Try.prog 24 1 := zu5 el_24 sz_27 zl0 (by decide) ze_27 rfl
theorem ap_27 : apT Try.prog 27 1 := zu5 el_27 sz_3 zqb (by decide) ze_3 rfl
attribute [go_sem] ag_3 sz_3 in_3 ze_3 bo_4 ag_5 sz_5 in_5 ag_22 sz_22 el_22 nl_24 el_24 zl0 nl_27 ag_27 sz_27 el_27 zqb ze_27 ag_58 sz_58 in_58 ze_60 pl_60 zvh zvq zvn ap_24 ap_27
attribute [go_sem] Nat.reduceEqDiff reduceIte reduceCtorEq Nat.reduceAdd Nat.reduceMul Int.reduceLE Int.reduceNeg Int.reduceToNat Nat.reduceLeDiff Nat.reduceSub Nat.reduceLT Nat.le_refl Int.cast_ofNat_Int Int.reduceLT Int.reduceGT Int.reduceGE Int.reduceEq Int.reduceBEq Nat.reduceBEq Int.reduceBNe Int.reduceAdd Int.reduceSub gt_iff_lt ge_iff_le
end Go.Proofs.Yteeaofpphmhjdaa
namespace Go.Proofs.Yteeaofpphmhjdaa
set_option linter.unusedSimpArgs false
set_option linter.unusedVariables false
set_option linter.unusedSectionVars false
set_option maxRecDepth 4000
open Go.RowKit
abbrev iD (n : Int) : D := .one (.int .i64 n)
abbrev bD (b : Bool) : D := .one (.bool b)
theorem zaj {α : Type} (f : α -> List T) (xs : List α) (k : Nat) (h : k < xs.length) : (xs.map f).getD k [] = f (xs[k]'h) := by simp [List.getD, h]
noncomputable def same {α : Type} (a b : α) : Bool := @decide (a = b) (Classical.propDecidable _)
theorem ze3 {α : Type} {a b : α} : same a b = true ↔ a = b := by simp [same]
theorem zpm {α : Type} {a b : α} : same a b = false ↔ a ≠ b := by simp [same]
theorem zia {α : Type} (a : α) : same a a = true := by simp [same]
theorem zpf {α : Type} (a b : α) (xs ys : List α) : same (a :: xs) (b :: ys) = (same a b && same xs ys) := by
 rw [Bool.eq_iff_iff, Bool.and_eq_true, ze3, ze3, ze3, List.cons.injEq]
theorem za2 {k : Nat} (h : k < 9223372036854775807) : IntKind.i64.wrap ((k : Int) + 1) = ((k + 1 : Nat) : Int) := zqu h
theorem zio {k : IntKind} {a b : Int} (h : a = b) : T.int k a = T.int k b := h ▸ rfl
end Go.Proofs.Yteeaofpphmhjdaa
namespace Go.Proofs.Yteeaofpphmhjdaa
set_option linter.unusedSimpArgs false
set_option linter.unusedVariables false
set_option linter.unusedSectionVars false
set_option maxRecDepth 4000
open Go.RowKit
theorem zgo {α : Type} (c : α -> List T) : ∀ (xs : List PD), (∀ x ∈ xs, ∃ a, x.cells = c a) -> ∃ l : List α, PD.rows xs = l.map c
 | [], _ => ⟨[], rfl⟩
 | x :: xs, h => by
  obtain ⟨a, ha⟩ := h x (by simp)
  obtain ⟨l, hl⟩ := zgo c xs fun y hy => h y (by simp [hy])
  exact ⟨a :: l, by rw [PD.rows, ha, hl]; rfl⟩
end Go.Proofs.Yteeaofpphmhjdaa
namespace Go.Proofs.Yteeaofpphmhjdaa
set_option linter.unusedSimpArgs false
set_option linter.unusedVariables false
set_option linter.unusedSectionVars false
set_option maxRecDepth 4000
def ab (n : Int) : Int := max n (-n)
theorem zek (n : Int) : ab (-n) = ab n := by unfold ab; omega
theorem zcr {n : Int} (h : 0 <= n) : ab n = n := by unfold ab; omega
theorem ab_eq {a b : Int} : ab a = ab b ↔ a = b \/ a = -b := by unfold ab; omega
def zne : Int -> List Int -> Bool
 | _, [] => true
 | p, l :: ls => decide (p < ab l) && decide (ab l <= 12) && zne (ab l) ls
def pcl (c : List Int) : Bool := zne 0 c
def zey (S : List (List Int)) : Bool := decide (S.length <= 40) && S.all pcl
def sat (a c : List Int) : Bool := c.any fun l => a.contains l
def opn (a c : List Int) : List Int := c.filter fun l => !a.contains (-l)
def fal (a c : List Int) : Bool := (opn a c).isEmpty
abbrev Ris (c : List Int) : Prop := c.Pairwise fun a b => ab a < ab b
theorem zkr : ∀ (c : List Int) (p : Int), zne p c = true ↔ (∀ l ∈ c, p < ab l /\ ab l <= 12) /\ Ris c
 | [], p => by simp [zne, Ris]
 | l :: ls, p => by
  unfold zne
  rw [Bool.and_eq_true, Bool.and_eq_true, decide_eq_true_eq, decide_eq_true_eq, zkr ls (ab l)]
  simp only [List.mem_cons, forall_eq_or_imp, Ris, List.pairwise_cons]
  constructor
  ·rintro ⟨⟨h1, h2⟩, h3, h4⟩
   exact ⟨⟨⟨h1, h2⟩, fun x hx => ⟨by have := h3 x hx; omega, (h3 x hx).2⟩⟩, fun x hx => (h3 x hx).1, h4⟩
  ·rintro ⟨⟨⟨h1, h2⟩, h3⟩, h4, h5⟩
   exact ⟨⟨h1, h2⟩, fun x hx => ⟨h4 x hx, (h3 x hx).2⟩, h5⟩
theorem ze7 (c : List Int) : pcl c = true ↔ (∀ l ∈ c, 0 < ab l /\ ab l <= 12) /\ Ris c := zkr c 0
theorem zd2 {c : List Int} (h : pcl c = true) {l : Int} (hl : l ∈ c) : 0 < ab l /\ ab l <= 12 := ((ze7 c).1 h).1 l hl
theorem zvl {l : Int} (h : 0 < ab l /\ ab l <= 12) : l ≠ 0 /\ -12 <= l /\ l <= 12 := by unfold ab at h; omega
theorem zol {c : List Int} (h : Ris c) : ∀ {a b : Int}, a ∈ c -> b ∈ c -> ab a = ab b -> a = b := by
 induction h with
 | nil => intro a b ha; simp at ha
 | cons h1 _ ih =>
  intro a b ha hb e
  rcases List.mem_cons.1 ha with ea | ha' <;> rcases List.mem_cons.1 hb with eb | hb'
  ·rw [ea, eb]
  ·have := h1 _ hb'; rw [ea] at e; omega
  ·have := h1 _ ha'; rw [eb] at e; omega
  ·exact ih ha' hb' e
theorem zo5 : ∀ {c : List Int} {p : Int}, 0 <= p -> p <= 12 -> zne p c = true -> (c.length : Int) + p <= 12
 | [], p, h0, h1, _ => by simp; exact h1
 | l :: ls, p, h0, h1, h => by
  unfold zne at h
  simp only [Bool.and_eq_true, decide_eq_true_eq] at h
  have := zo5 (c := ls) (p := ab l) (by omega) h.1.2 h.2
  rw [List.length_cons]
  omega
theorem zg8 {c : List Int} (h : pcl c = true) : c.length <= 12 := by have := zo5 (p := 0) (by omega) (by omega) h; omega
theorem zbe {S : List (List Int)} (h : zey S = true) {c : List Int} (hc : c ∈ S) : pcl c = true := by
 unfold zey at h
 rw [Bool.and_eq_true, List.all_eq_true] at h
 exact h.2 c hc
theorem zlh {S : List (List Int)} (h : zey S = true) : S.length <= 40 := by
 unfold zey at h
 rw [Bool.and_eq_true, decide_eq_true_eq] at h
 exact h.1
def zjk : List Int -> Int -> List Int
 | [], x => [x]
 | y :: ys, x => if ab y < ab x then y :: zjk ys x else x :: y :: ys
theorem zdi : ∀ (c : List Int) (x : Int), (zjk c x).Perm (x :: c)
 | [], x => List.Perm.refl _
 | y :: ys, x => by
  unfold zjk
  split
  ·exact ((zdi ys x).cons y).trans (List.Perm.swap x y ys)
  ·exact List.Perm.refl _
theorem zl8 (c : List Int) (x : Int) : (c ++ [x]).Perm (zjk c x) := List.perm_append_comm.trans (zdi c x).symm
theorem zl2 {c : List Int} {x y : Int} : y ∈ zjk c x ↔ y = x \/ y ∈ c := by rw [(zdi c x).mem_iff, List.mem_cons]
theorem zk9 : ∀ {c : List Int} {x : Int}, Ris c -> (∀ y ∈ c, ab y ≠ ab x) -> Ris (zjk c x)
 | [], x, _, _ => by simp [zjk, Ris]
 | y :: ys, x, h, hx => by
  have hy := List.pairwise_cons.1 h
  unfold zjk
  split
  next hlt =>
   refine List.pairwise_cons.2 ⟨fun z hz => ?_, zk9 hy.2 fun z hz => hx z (by simp [hz])⟩
   rcases zl2.1 hz with rfl | hz
   ·exact hlt
   ·exact hy.1 z hz
  next hlt =>
   have := hx y (by simp)
   refine List.pairwise_cons.2 ⟨fun z hz => ?_, h⟩
   rcases List.mem_cons.1 hz with rfl | hz
   ·omega
   ·have := hy.1 z hz; omega
theorem zr9 {c : List Int} {x : Int} (h : pcl c = true) (hx : 0 < ab x /\ ab x <= 12) (hn : ∀ y ∈ c, ab y ≠ ab x) : pcl (zjk c x) = true := by
 have h' := (ze7 c).1 h
 refine (ze7 _).2 ⟨fun l hl => ?_, zk9 h'.2 hn⟩
 rcases zl2.1 hl with rfl | hl
 ·exact hx
 ·exact h'.1 l hl
theorem zfn (c : List Int) (x : Int) : (zjk c x).length = c.length + 1 := by rw [(zdi c x).length_eq, List.length_cons]
theorem zmu {c d : List Int} (hp : c.Perm d) (hd : Ris d) (hc : c.Pairwise fun a b => ab a <= ab b) : c = d := by
 refine hp.eq_of_pairwise (le := fun a b => ab a <= ab b) (fun a b ha hb h1 h2 => zol hd (hp.mem_iff.1 ha) hb (by omega)) hc (hd.imp fun h => by omega)
theorem zb8 {a c : List Int} : sat a c = true ↔ ∃ l ∈ c, l ∈ a := by
 unfold sat
 rw [List.any_eq_true]
 simp only [List.contains_iff_mem]
theorem zkd {a c : List Int} : fal a c = true ↔ ∀ l ∈ c, -l ∈ a := by
 unfold fal opn
 rw [List.isEmpty_iff, List.filter_eq_nil_iff]
 constructor
 ·intro h l hl
  have := h l hl
  simpa using this
 ·intro h l hl
  have := h l hl
  simpa using this
theorem zjm {a c : List Int} {l : Int} : l ∈ opn a c ↔ l ∈ c /\ -l ∉ a := by
 unfold opn
 rw [List.mem_filter]
 simp
abbrev Cons (a : List Int) : Prop := ∀ l ∈ a, -l ∉ a
theorem zox {a c : List Int} (ha : Cons a) (h : fal a c = true) : sat a c = false := by
 rw [<- Bool.not_eq_true, zb8]
 rintro ⟨l, h1, h2⟩
 exact ha l h2 (zkd.1 h l h1)
def zm4 (a c : List Int) : Int × Int := if sat a c = true then (-1, 0) else ((opn a c).length, (opn a c).getLast?.getD 0)
def zic (a c : List Int) : Bool := !sat a c && decide ((opn a c).length <= 1)
def zfi (S : List (List Int)) (a : List Int) : Option Nat := S.findIdx? (zic a)
def zgw : Nat -> List (List Int) -> List Int -> List Int × Int
 | 0, _, a => (a, -1)
 | n + 1, S, a => match zfi S a with
  | none => (a, -1)
  | some i => match opn a (S.getD i []) with
   | [] => (a, i)
   | x :: _ => zgw n S (zjk a x)
theorem zth {a c : List Int} {x : Int} (hs : sat a c = false) (hx : x ∈ opn a c) : ∀ y ∈ a, ab y ≠ ab x := by
 intro y hy e
 rcases ab_eq.1 e with rfl | rfl
 ·have : sat a c = true := zb8.2 ⟨y, (zjm.1 hx).1, hy⟩
  rw [hs] at this; cases this
 ·exact (zjm.1 hx).2 hy
theorem zje {S : List (List Int)} {a : List Int} {i : Nat} (h : zfi S a = some i) : ∃ hi : i < S.length, sat a S[i] = false /\ (opn a S[i]).length <= 1 := by
 unfold zfi at h
 rw [List.findIdx?_eq_some_iff_getElem] at h
 obtain ⟨hi, h1, _⟩ := h
 unfold zic at h1
 rw [Bool.and_eq_true, Bool.not_eq_true', decide_eq_true_eq] at h1
 exact ⟨hi, h1⟩
def zb2 (S : List (List Int)) : Int := S.foldl (fun n c => c.foldl (fun m l => max m (ab l)) n) 0
def isM (S : List (List Int)) (a : List Int) : Bool := S.all (sat a)
def sfx : Int -> Nat -> List (List Int)
 | _, 0 => [[]]
 | v, n + 1 => (sfx (v + 1) n).map (v :: ·) ++ (sfx (v + 1) n).map (-v :: ·)
def asg : Int -> Nat -> Nat -> List Int
 | _, 0, _ => []
 | v, n + 1, k => (if k / 2 ^ n % 2 = 1 then -v else v) :: asg (v + 1) n k
theorem zj2 : ∀ (n : Nat) (v : Int), (sfx v n).length = 2 ^ n
 | 0, _ => rfl
 | n + 1, v => by
  unfold sfx
  rw [List.length_append, List.length_map, List.length_map, zj2 n]
  omega
theorem zps : ∀ (n : Nat) (v : Int) (k q : Nat), asg v n (q * 2 ^ n + k) = asg v n k
 | 0, _, _, _ => rfl
 | n + 1, v, k, q => by
  unfold asg
  have e : q * 2 ^ (n + 1) + k = (q * 2) * 2 ^ n + k := by rw [Nat.pow_succ, Nat.mul_assoc, Nat.mul_comm 2]
  rw [e, zps n (v + 1) k (q * 2), Nat.add_comm, Nat.add_mul_div_right _ _ (Nat.two_pow_pos n)]
  have : (k / 2 ^ n + q * 2) % 2 = k / 2 ^ n % 2 := by omega
  rw [this]
theorem zjg : ∀ (n : Nat) (v : Int) (k : Nat) (_ : k < 2 ^ n), (sfx v n)[k]? = some (asg v n k)
 | 0, v, k, h => by
  have : k = 0 := by simpa using h
  subst this; rfl
 | n + 1, v, k, h => by
  have hl := zj2 n (v + 1)
  unfold sfx asg
  by_cases hk : k < 2 ^ n
  ·rw [List.getElem?_append_left (by rw [List.length_map, hl]; exact hk), List.getElem?_map, zjg n (v + 1) k hk, Nat.div_eq_of_lt hk, if_neg (by simp)]
   rfl
  ·have h2 : k - 2 ^ n < 2 ^ n := by rw [Nat.pow_succ] at h; omega
   rw [List.getElem?_append_right (by rw [List.length_map, hl]; omega), List.length_map, hl, List.getElem?_map, zjg n (v + 1) (k - 2 ^ n) h2]
   have hd : k / 2 ^ n = 1 := by
    rw [show k = (k - 2 ^ n) + 1 * 2 ^ n by omega, Nat.add_mul_div_right _ _ (Nat.two_pow_pos n), Nat.div_eq_of_lt h2]
   rw [hd, if_pos rfl]
   have := zps n (v + 1) (k - 2 ^ n) 1
   rw [show 1 * 2 ^ n + (k - 2 ^ n) = k by omega] at this
   rw [this]; rfl
theorem zuq (n : Nat) (v : Int) : sfx v n = (List.range (2 ^ n)).map (asg v n) := by
 apply List.ext_getElem?
 intro k
 by_cases hk : k < 2 ^ n
 ·rw [zjg n v k hk, List.getElem?_map, List.getElem?_range hk]; rfl
 ·rw [List.getElem?_eq_none (by rw [zj2]; omega), List.getElem?_eq_none (by simp; omega)]
theorem zkg : ∀ {n : Nat} {v : Int} {t : List Int}, 1 <= v -> t ∈ sfx v n -> t.length = n /\ (∀ l ∈ t, v <= ab l /\ ab l < v + n) /\ Ris t /\ ∀ w : Int, v <= w -> w < v + n -> (w ∈ t \/ -w ∈ t)
 | 0, v, t, _, h => by
  simp only [sfx, List.mem_singleton] at h
  subst h
  refine ⟨rfl, by simp, by simp [Ris], fun w h1 h2 => ?_⟩
  simp at h2; omega
 | n + 1, v, t, hv, h => by
  unfold sfx at h
  rw [List.mem_append, List.mem_map, List.mem_map] at h
  have key : ∀ x : Int, ab x = v -> ∀ s, s ∈ sfx (v + 1) n -> (x :: s).length = n + 1 /\ (∀ l ∈ x :: s, v <= ab l /\ ab l < v + ((n + 1 : Nat) : Int)) /\ Ris (x :: s) /\ ∀ w : Int, v <= w -> w < v + ((n + 1 : Nat) : Int) -> (w ∈ x :: s \/ -w ∈ x :: s) := fun x hx s hs => by
   obtain ⟨h1, h2, h3, h4⟩ := zkg (by omega) hs
   refine ⟨by rw [List.length_cons, h1], fun l hl => ?_, List.pairwise_cons.2 ⟨fun y hy => by have := (h2 y hy).1; omega, h3⟩, fun w hw1 hw2 => ?_⟩
   ·rcases List.mem_cons.1 hl with rfl | hl
    ·omega
    ·have := h2 l hl; omega
   ·by_cases hvw : w = v
    ·have : x = w \/ x = -w := by unfold ab at hx; omega
     rcases this with rfl | rfl <;> simp
    ·rcases h4 w (by omega) (by omega) with h | h
     ·exact Or.inl (List.mem_cons_of_mem _ h)
     ·exact Or.inr (List.mem_cons_of_mem _ h)
  rcases h with ⟨s, hs, rfl⟩ | ⟨s, hs, rfl⟩
  ·exact key v (zcr (by omega)) s hs
  ·exact key (-v) (by rw [zek, zcr (by omega)]) s hs
def zry (S : List (List Int)) : Nat -> List Int -> Int -> Option (List Int)
 | n, a, v => if (S.any fun c => fal a c) = true then none else match n with
  | 0 => some a
  | n + 1 => match zry S n (a ++ [v]) (v + 1) with
   | some m => some m
   | none => zry S n (a ++ [-v]) (v + 1)
def zlc (S : List (List Int)) : Nat -> List Int -> Int -> Nat
 | n, a, v => if (S.any fun c => fal a c) = true then 0 else match n with
  | 0 => 1
  | n + 1 => zlc S n (a ++ [v]) (v + 1) + zlc S n (a ++ [-v]) (v + 1)
structure Pre (a : List Int) (v : Int) : Prop where
 pos : 1 <= v
 bd : ∀ l ∈ a, 0 < ab l /\ ab l < v
 ris : Ris a
 all : ∀ w : Int, 1 <= w -> w < v -> (w ∈ a \/ -w ∈ a)
theorem Pre.cons {a : List Int} {v : Int} (h : Pre a v) : Cons a := fun l hl hn => by
 have := zol h.ris hl hn (zek l).symm
 have := h.bd l hl
 unfold ab at this; omega
theorem Pre.put {a : List Int} {v x : Int} (h : Pre a v) (hx : ab x = v) : Pre (a ++ [x]) (v + 1) := by
 refine ⟨by have := h.pos; omega, fun l hl => ?_, ?_, fun w h1 h2 => ?_⟩
 ·rcases List.mem_append.1 hl with hl | hl
  ·have := h.bd l hl; omega
  ·rw [List.mem_singleton.1 hl]; have := h.pos; omega
 ·refine List.pairwise_append.2 ⟨h.ris, by simp, fun y hy z hz => ?_⟩
  rw [List.mem_singleton.1 hz]; have := h.bd y hy; omega
 ·by_cases hw : w = v
  ·have : x = w \/ x = -w := by unfold ab at hx; omega
   rcases this with rfl | rfl <;> simp
  ·rcases h.all w h1 (by omega) with h | h
   ·exact Or.inl (List.mem_append_left _ h)
   ·exact Or.inr (List.mem_append_left _ h)
theorem Pre.nil : Pre [] 1 := ⟨by omega, by simp, by simp [Ris], fun w h1 h2 => by omega⟩
theorem znv {a : List Int} {v : Int} (h : Pre a v) {c : List Int} (hf : fal a c = true) {n : Nat} {t : List Int} (ht : t ∈ sfx v n) : sat (a ++ t) c = false := by
 rw [<- Bool.not_eq_true, zb8]
 rintro ⟨l, h1, h2⟩
 have hn := zkd.1 hf l h1
 rcases List.mem_append.1 h2 with h2 | h2
 ·exact h.cons l h2 hn
 ·have e1 := (zkg h.pos ht).2.1 l h2
  have e2 := h.bd _ hn
  rw [zek] at e2; omega
theorem zfp {S : List (List Int)} {a : List Int} {v : Int} (h : Pre a v) (hv : ∀ c ∈ S, ∀ l ∈ c, 0 < ab l /\ ab l < v) (hf : (S.any fun c => fal a c) = false) : isM S a = true := by
 unfold isM
 rw [List.all_eq_true]
 intro c hc
 rw [List.any_eq_false] at hf
 have hfc := hf c hc
 rw [zkd] at hfc
 have : ∃ l ∈ c, -l ∉ a := Classical.byContradiction fun hh => hfc fun l hl => Classical.byContradiction fun h3 => hh ⟨l, hl, h3⟩
 obtain ⟨l, hl, hn⟩ := this
 refine zb8.2 ⟨l, hl, ?_⟩
 have hb := hv c hc l hl
 rcases h.all (ab l) (by omega) hb.2 with h | h
 ·have : ab l = l \/ ab l = -l := by unfold ab; omega
  rcases this with e | e
  ·rwa [e] at h
  ·rw [e] at h; exact absurd h hn
 ·have : ab l = l \/ ab l = -l := by unfold ab; omega
  rcases this with e | e
  ·rw [e] at h; exact absurd h hn
  ·rwa [e, Int.neg_neg] at h
theorem zjt (S : List (List Int)) : ∀ (n : Nat) (a : List Int) (v : Int), Pre a v -> (∀ c ∈ S, ∀ l ∈ c, 0 < ab l /\ ab l < v + n) -> zry S n a v = ((sfx v n).map (a ++ ·)).find? (isM S)
 | n, a, v, hp, hv => by
  unfold zry
  cases hf : S.any fun c => fal a c
  ·rw [if_neg (by simp)]
   cases n with
   | zero =>
    have := zfp hp (fun c hc l hl => by have := hv c hc l hl; simpa using this) hf
    simp [sfx, this]
   | succ n =>
    have hpos := hp.pos
    have e1 := zjt S n (a ++ [v]) (v + 1) (hp.put (zcr (by omega))) fun c hc l hl => by have := hv c hc l hl; omega
    have e2 := zjt S n (a ++ [-v]) (v + 1) (hp.put (by rw [zek, zcr (by omega)])) fun c hc l hl => by have := hv c hc l hl; omega
    simp only [sfx, e1, e2, List.map_append, List.map_map, List.find?_append]
    have f1 : ((fun x => a ++ x) ∘ fun x => v :: x) = fun x => (a ++ [v]) ++ x := by funext x; simp
    have f2 : ((fun x => a ++ x) ∘ fun x => -v :: x) = fun x => (a ++ [-v]) ++ x := by funext x; simp
    rw [f1, f2]
    cases List.find? (isM S) (List.map (fun x => (a ++ [v]) ++ x) (sfx (v + 1) n)) <;> rfl
  ·rw [if_pos rfl]
   obtain ⟨c, hc, hfc⟩ := List.any_eq_true.1 hf
   symm
   rw [List.find?_eq_none]
   intro x hx hm
   obtain ⟨t, ht, rfl⟩ := List.mem_map.1 hx
   have h1 := znv hp hfc ht
   unfold isM at hm
   rw [List.all_eq_true] at hm
   have := hm c hc
   rw [h1] at this; cases this
theorem zke (S : List (List Int)) : ∀ (n : Nat) (a : List Int) (v : Int), Pre a v -> (∀ c ∈ S, ∀ l ∈ c, 0 < ab l /\ ab l < v + n) -> zlc S n a v = ((sfx v n).map (a ++ ·)).countP (isM S)
 | n, a, v, hp, hv => by
  unfold zlc
  cases hf : S.any fun c => fal a c
  ·rw [if_neg (by simp)]
   cases n with
   | zero =>
    have := zfp hp (fun c hc l hl => by have := hv c hc l hl; simpa using this) hf
    simp [sfx, this]
   | succ n =>
    have hpos := hp.pos
    have e1 := zke S n (a ++ [v]) (v + 1) (hp.put (zcr (by omega))) fun c hc l hl => by have := hv c hc l hl; omega
    have e2 := zke S n (a ++ [-v]) (v + 1) (hp.put (by rw [zek, zcr (by omega)])) fun c hc l hl => by have := hv c hc l hl; omega
    simp only [sfx, e1, e2, List.map_append, List.map_map, List.countP_append]
    have f1 : ((fun x => a ++ x) ∘ fun x => v :: x) = fun x => (a ++ [v]) ++ x := by funext x; simp
    have f2 : ((fun x => a ++ x) ∘ fun x => -v :: x) = fun x => (a ++ [-v]) ++ x := by funext x; simp
    rw [f1, f2]
  ·rw [if_pos rfl]
   obtain ⟨c, hc, hfc⟩ := List.any_eq_true.1 hf
   symm
   rw [List.countP_eq_zero]
   intro x hx hm
   obtain ⟨t, ht, rfl⟩ := List.mem_map.1 hx
   have h1 := znv hp hfc ht
   unfold isM at hm
   rw [List.all_eq_true] at hm
   have := hm c hc
   rw [h1] at this; cases this
end Go.Proofs.Yteeaofpphmhjdaa
namespace Go.Proofs.Yteeaofpphmhjdaa
set_option linter.unusedSimpArgs false
set_option linter.unusedVariables false
set_option linter.unusedSectionVars false
set_option maxRecDepth 4000
structure Ps where
 l : Int
 r : Int
 p : Int
 c : List Int
def ps0 : Ps := ⟨0, 0, 0, []⟩
end Go.Proofs.Yteeaofpphmhjdaa
namespace Go.Proofs.Yteeaofpphmhjdaa
set_option linter.unusedSimpArgs false
set_option linter.unusedVariables false
set_option linter.unusedSectionVars false
set_option maxRecDepth 4000
theorem zwn {S : List (List Int)} {m c : List Int} (h : isM S m = true) (hc : c ∈ S) : sat m c = true := by
 unfold isM at h
 rw [List.all_eq_true] at h
 exact h c hc
theorem zh4 {S : List (List Int)} {m : List Int} (hm : isM S m = true) : zfi S m = none := by
 unfold zfi
 rw [List.findIdx?_eq_none_iff]
 intro c hc
 unfold zic
 rw [zwn hm hc]; rfl
theorem zki {S : List (List Int)} {m : List Int} (hm : isM S m = true) (n : Nat) : zgw n S m = (m, -1) := by
 cases n with
 | zero => rfl
 | succ n => unfold zgw; rw [zh4 hm]
theorem zuj : ∀ (c : List Int) (n : Int), n <= c.foldl (fun m l => max m (ab l)) n /\ ∀ l ∈ c, ab l <= c.foldl (fun m l => max m (ab l)) n
 | [], n => ⟨Int.le_refl _, by simp⟩
 | l :: c, n => by
  have h := zuj c (max n (ab l))
  rw [List.foldl_cons]
  refine ⟨by omega, fun x hx => ?_⟩
  rcases List.mem_cons.1 hx with rfl | hx
  ·omega
  ·exact h.2 x hx
theorem zo9 : ∀ (S : List (List Int)) (n : Int), n <= S.foldl (fun n c => c.foldl (fun m l => max m (ab l)) n) n /\ ∀ c ∈ S, ∀ l ∈ c, ab l <= S.foldl (fun n c => c.foldl (fun m l => max m (ab l)) n) n
 | [], n => ⟨Int.le_refl _, by simp⟩
 | c :: S, n => by
  have h1 := zuj c n
  have h := zo9 S (c.foldl (fun m l => max m (ab l)) n)
  rw [List.foldl_cons]
  refine ⟨by omega, fun d hd l hl => ?_⟩
  rcases List.mem_cons.1 hd with rfl | hd
  ·have := h1.2 l hl; omega
  ·exact h.2 d hd l hl
theorem zg4 {S : List (List Int)} {c : List Int} (hc : c ∈ S) {l : Int} (hl : l ∈ c) : ab l <= zb2 S := (zo9 S 0).2 c hc l hl
theorem zcf (S : List (List Int)) : 0 <= zb2 S := (zo9 S 0).1
theorem zhz : ∀ (c : List Int) (n : Int), n <= 12 -> (∀ l ∈ c, ab l <= 12) -> c.foldl (fun m l => max m (ab l)) n <= 12
 | [], n, h, _ => h
 | l :: c, n, h, hc => by
  rw [List.foldl_cons]
  exact zhz c _ (by have := hc l (by simp); omega) fun x hx => hc x (by simp [hx])
theorem zid : ∀ (S : List (List Int)) (n : Int), n <= 12 -> (∀ c ∈ S, ∀ l ∈ c, ab l <= 12) -> S.foldl (fun n c => c.foldl (fun m l => max m (ab l)) n) n <= 12
 | [], n, h, _ => h
 | c :: S, n, h, hc => by
  rw [List.foldl_cons]
  exact zid S _ (zhz c n h (hc c (by simp))) fun d hd => hc d (by simp [hd])
theorem zkj {S : List (List Int)} (h : ∀ c ∈ S, pcl c = true) : zb2 S <= 12 := zid S 0 (by omega) fun c hc _ hl => (zd2 (h c hc) hl).2
theorem zpn {S : List (List Int)} {a : List Int} {x : Int} (h : ∀ c ∈ S, ∀ l ∈ c, ab l < ab x) : isM S (a ++ [x]) = isM S a := by
 unfold isM
 rw [Bool.eq_iff_iff, List.all_eq_true, List.all_eq_true]
 constructor
 ·intro hh c hc
  obtain ⟨l, h1, h2⟩ := zb8.1 (hh c hc)
  rcases List.mem_append.1 h2 with h2 | h2
  ·exact zb8.2 ⟨l, h1, h2⟩
  ·have := h c hc l h1
   rw [List.mem_singleton.1 h2] at this; omega
 ·intro hh c hc
  obtain ⟨l, h1, h2⟩ := zb8.1 (hh c hc)
  exact zb8.2 ⟨l, h1, List.mem_append_left _ h2⟩
theorem zdd {S : List (List Int)} : ∀ (n : Nat) (v : Int) (a : List Int), 1 <= v -> (∀ c ∈ S, ∀ l ∈ c, ab l < v + n) -> ((sfx v (n + 1)).map (a ++ ·)).countP (isM S) = 2 * ((sfx v n).map (a ++ ·)).countP (isM S)
 | 0, v, a, hv, h => by
  have e1 : isM S (a ++ [v]) = isM S a := zpn fun c hc l hl => by rw [show ab v = v from zcr (by omega)]; have := h c hc l hl; simpa using this
  have e2 : isM S (a ++ [-v]) = isM S a := zpn fun c hc l hl => by rw [zek v, show ab v = v from zcr (by omega)]; have := h c hc l hl; simpa using this
  simp only [sfx, List.map_cons, List.map_nil, List.append_nil, List.singleton_append, List.countP_cons, List.countP_nil, e1, e2]
  omega
 | n + 1, v, a, hv, h => by
  have e1 := zdd n (v + 1) (a ++ [v]) (by omega) fun c hc l hl => by have := h c hc l hl; omega
  have e2 := zdd n (v + 1) (a ++ [-v]) (by omega) fun c hc l hl => by have := h c hc l hl; omega
  rw [sfx]
  conv => rhs; rw [sfx]
  simp only [List.map_append, List.map_map, List.countP_append]
  have f1 : ((fun x => a ++ x) ∘ fun x => v :: x) = fun x => (a ++ [v]) ++ x := by funext x; simp
  have f2 : ((fun x => a ++ x) ∘ fun x => -v :: x) = fun x => (a ++ [-v]) ++ x := by funext x; simp
  rw [f1, f2, e1, e2]
  omega
def zes (S : List (List Int)) (n : Nat) : Nat := (sfx 1 n).countP (isM S)
def zm7 (S : List (List Int)) : Option (List Int) := (sfx 1 (zb2 S).toNat).find? (isM S)
theorem zij {S : List (List Int)} {n : Nat} (h : ∀ c ∈ S, ∀ l ∈ c, ab l <= n) : zes S (n + 1) = 2 * zes S n := by
 have := zdd (S := S) n 1 [] (by omega) fun c hc l hl => by have := h c hc l hl; omega
 unfold zes
 simpa using this
theorem zkn {S : List (List Int)} {n : Nat} (h : ∀ c ∈ S, ∀ l ∈ c, ab l <= n) : ∀ k, zes S (n + k) = 2 ^ k * zes S n
 | 0 => by simp
 | k + 1 => by
  rw [<- Nat.add_assoc, zij fun c hc l hl => by have := h c hc l hl; omega, zkn h k, Nat.pow_succ]
  rw [Nat.mul_comm (2 ^ k) 2, Nat.mul_assoc]
theorem zrv {S : List (List Int)} {n : Nat} (h : zb2 S <= n) : (0 < zes S n) ↔ (zm7 S).isSome = true := by
 have hp := zcf S
 have e := zkn (S := S) (n := (zb2 S).toNat) (fun c hc l hl => by have := zg4 hc hl; omega) (n - (zb2 S).toNat)
 rw [show (zb2 S).toNat + (n - (zb2 S).toNat) = n by omega] at e
 rw [e]
 unfold zm7 zes
 rw [List.find?_isSome, <- List.countP_pos_iff]
 constructor
 ·intro h; exact Nat.pos_of_mul_pos_left h
 ·intro h; exact Nat.mul_pos (Nat.two_pow_pos _) h
theorem zpi {S : List (List Int)} {m : List Int} (h : zm7 S = some m) : isM S m = true /\ m ∈ sfx 1 (zb2 S).toNat := ⟨by simpa using List.find?_some h, List.mem_of_find?_eq_some h⟩
theorem zwh {n : Nat} {t : List Int} (hn : n <= 12) (h : t ∈ sfx 1 n) : pcl t = true := by
 obtain ⟨_, h2, h3, _⟩ := zkg (by omega) h
 exact (ze7 t).2 ⟨fun l hl => by have := h2 l hl; omega, h3⟩
theorem zqc {S : List (List Int)} (h : ∀ c ∈ S, pcl c = true) : zry S (zb2 S).toNat [] 1 = zm7 S := by
 have := zcf S
 rw [zjt S _ [] 1 Pre.nil fun c hc l hl => ⟨(zd2 (h c hc) hl).1, by have := zg4 hc hl; omega⟩]
 unfold zm7
 congr 1
 simp
theorem zs8 {S : List (List Int)} (h : ∀ c ∈ S, pcl c = true) {n : Nat} (hn : zb2 S <= n) : zlc S n [] 1 = zes S n := by
 rw [zke S _ [] 1 Pre.nil fun c hc l hl => ⟨(zd2 (h c hc) hl).1, by have := zg4 hc hl; omega⟩]
 unfold zes
 congr 1
 simp
theorem zo0 (S : List (List Int)) : zm7 S = ((List.range (2 ^ (zb2 S).toNat)).find? fun k => isM S (asg 1 (zb2 S).toNat k)).map (asg 1 (zb2 S).toNat) := by
 unfold zm7
 rw [zuq, List.find?_map]
 rfl
theorem zv1 (S : List (List Int)) (n : Nat) : zes S n = (List.range (2 ^ n)).countP fun k => isM S (asg 1 n k) := by
 unfold zes
 rw [zuq, List.countP_map]
 rfl
end Go.Proofs.Yteeaofpphmhjdaa
namespace Go.Proofs.Yteeaofpphmhjdaa
set_option linter.unusedSimpArgs false
set_option linter.unusedVariables false
set_option linter.unusedSectionVars false
set_option maxRecDepth 4000
open Go
structure Cu where
 code : List UInt8
 pos : Nat
 seed : Int
def Cu.b (q : Cu) : Int := if q.pos < q.code.length then ((q.code.getD q.pos 0).toNat : Int) else 0
def Cu.sd (q : Cu) : Int := IntKind.u64.wrap (IntKind.u64.wrap (IntKind.u64.wrap (q.seed * 6364136223846793005) + IntKind.u64.wrap q.b) + 892892)
def Cu.nx (q : Cu) : Cu := ⟨q.code, q.pos + 1, q.sd⟩
def Cu.v (q : Cu) : Int := if q.pos + 1 <= q.code.length then q.b else IntKind.i64.wrap (IntKind.u64.wrap ((BitVec.ofInt 64 (q.sd.fdiv (2 ^ 40)) &&& BitVec.ofInt 64 255).toNat : Int))
theorem Cu.v_bd (q : Cu) : 0 <= q.v /\ q.v <= 255 := by
 unfold Cu.v
 split
 ·unfold Cu.b
  split
  ·have := (q.code.getD q.pos 0).toNat_lt; omega
  ·omega
 ·have h : (BitVec.ofInt 64 (q.sd.fdiv (2 ^ 40)) &&& BitVec.ofInt 64 255).toNat <= 255 := by
   rw [BitVec.toNat_and]
   exact Nat.and_le_right
  generalize (BitVec.ofInt 64 (q.sd.fdiv (2 ^ 40)) &&& BitVec.ofInt 64 255).toNat = n at h
  have e1 : IntKind.u64.wrap (n : Int) = n := by
   simp [IntKind.wrap, IntKind.bits, IntKind.signed]; omega
  rw [e1]
  have e2 : IntKind.i64.wrap (n : Int) = n := by
   simp [IntKind.wrap, IntKind.bits, IntKind.signed]; omega
  rw [e2]; omega
def Cu.pick (q : Cu) (n : Int) : Cu × Int := if n <= 1 then (q, 0) else (q.nx, q.v.tmod n)
theorem Cu.pick_bd (q : Cu) {n : Int} (h : 1 <= n) : 0 <= (q.pick n).2 /\ (q.pick n).2 < n := by
 unfold Cu.pick
 split
 ·dsimp only; omega
 ·have h2 := q.v_bd
  dsimp only
  rw [Int.tmod_eq_emod_of_nonneg h2.1]
  exact ⟨Int.emod_nonneg _ (by omega), Int.emod_lt_of_pos _ (by omega)⟩
theorem Cu.pick_pos (q : Cu) (n : Int) : q.pos <= (q.pick n).1.pos /\ (q.pick n).1.pos <= q.pos + 1 := by
 unfold Cu.pick Cu.nx
 split <;> simp
theorem Cu.pick_code (q : Cu) (n : Int) : (q.pick n).1.code = q.code := by
 unfold Cu.pick Cu.nx
 split <;> rfl
def ztk (v x : Int) : Int := v - 2 * v * x
def clR (q : Cu) : Nat -> Cu × List Int
 | 0 => (q, [])
 | k + 1 => if ((clR q k).1.pick 3).2 = 0 then ((((clR q k).1.pick 3).1.pick 2).1, (clR q k).2 ++ [ztk ((k : Int) + 1) ((((clR q k).1.pick 3).1.pick 2).2)]) else (((clR q k).1.pick 3).1, (clR q k).2)
def clD (q : Cu) (n : Nat) : Cu × List Int :=
 if (clR q n).2.take 3 = [] then
  if ((clR q n).1.pick 20).2 = 0 then (((clR q n).1.pick 20).1, [])
  else ((((((clR q n).1.pick 20).1.pick n).1.pick 2).1), [ztk (1 + (((clR q n).1.pick 20).1.pick n).2) ((((clR q n).1.pick 20).1.pick n).1.pick 2).2])
 else ((clR q n).1, (clR q n).2.take 3)
theorem zhh (q : Cu) : ∀ k, q.pos <= (clR q k).1.pos /\ (clR q k).1.pos <= q.pos + 2 * k /\ (clR q k).1.code = q.code /\ (clR q k).2.length <= k
 | 0 => ⟨Nat.le_refl _, Nat.le_refl _, rfl, Nat.le_refl _⟩
 | k + 1 => by
  obtain ⟨h1, h2, h3, h4⟩ := zhh q k
  have p1 := (clR q k).1.pick_pos 3
  have p2 := ((clR q k).1.pick 3).1.pick_pos 2
  have c1 := (clR q k).1.pick_code 3
  have c2 := ((clR q k).1.pick 3).1.pick_code 2
  rw [clR]
  split
  ·refine ⟨by dsimp only; omega, by dsimp only; omega, ?_, ?_⟩
   ·exact (c2.trans c1).trans h3
   ·simp; exact h4
  ·exact ⟨by dsimp only; omega, by dsimp only; omega, c1.trans h3, by dsimp only; omega⟩
theorem zfh (q : Cu) (n : Nat) : q.pos <= (clD q n).1.pos /\ (clD q n).1.pos <= q.pos + 2 * n + 3 /\ (clD q n).1.code = q.code /\ (clD q n).2.length <= 3 := by
 obtain ⟨h1, h2, h3, h4⟩ := zhh q n
 have p1 := (clR q n).1.pick_pos 20
 have p2 := ((clR q n).1.pick 20).1.pick_pos n
 have p3 := (((clR q n).1.pick 20).1.pick n).1.pick_pos 2
 have c1 := (clR q n).1.pick_code 20
 have c2 := ((clR q n).1.pick 20).1.pick_code n
 have c3 := (((clR q n).1.pick 20).1.pick n).1.pick_code 2
 unfold clD
 split
 ·split
  ·exact ⟨by dsimp only; omega, by dsimp only; omega, c1.trans h3, by simp⟩
  ·exact ⟨by dsimp only; omega, by dsimp only; omega, ((c3.trans c2).trans c1).trans h3, by simp⟩
 ·refine ⟨by dsimp only; omega, by dsimp only; omega, h3, ?_⟩
  dsimp only
  rw [List.length_take]; omega
abbrev zwu (n : Int) (c : List Int) : Prop := ∀ l ∈ c, -n <= l /\ l <= n
theorem zqp {n v x : Int} (hv : 0 <= v /\ v <= n) (hx : 0 <= x /\ x < 2) : -n <= ztk v x /\ ztk v x <= n := by
 unfold ztk
 have : x = 0 \/ x = 1 := by omega
 rcases this with rfl | rfl <;> omega
theorem zk3 (q : Cu) : ∀ k : Nat, zwu k (clR q k).2
 | 0 => fun l hl => by simp [clR] at hl
 | k + 1 => by
  have h := zk3 q k
  rw [clR]
  split
  ·intro l hl
   rcases List.mem_append.1 hl with hl | hl
   ·have := h l hl; omega
   ·rw [List.mem_singleton.1 hl]
    exact zqp (by omega) (Cu.pick_bd _ (by omega))
  ·intro l hl
   have := h l hl; omega
theorem ztr (q : Cu) (n : Nat) (hn : 1 <= n) : zwu n (clD q n).2 := by
 unfold clD
 split
 ·split
  ·intro l hl; simp at hl
  ·intro l hl
   rw [List.mem_singleton.1 hl]
   have := Cu.pick_bd ((clR q n).1.pick 20).1 (n := n) (by omega)
   exact zqp (by omega) (Cu.pick_bd _ (by omega))
 ·intro l hl
  exact zk3 q n l (List.mem_of_mem_take hl)
def zdh (n : Nat) : Nat -> Cu × List (List Int) -> Cu × List (List Int)
 | 0, x => x
 | k + 1, x => zdh n k ((clD x.1 n).1, x.2 ++ [(clD x.1 n).2])
def zj6 (n : Nat) : Nat -> Cu × List (List Int) -> Cu × List (List Int)
 | 0, x => x
 | k + 1, x => if (x.1.pick 2).2 = 0 then zj6 n k ((clD (clD (x.1.pick 2).1 n).1 2).1, x.2 ++ [(clD (x.1.pick 2).1 n).2] ++ [(clD (clD (x.1.pick 2).1 n).1 2).2]) else ((x.1.pick 2).1, x.2)
structure GdS (B : Nat) (n : Int) (N : Nat) (q : Cu) (x : Cu × List (List Int)) : Prop where
 pos : q.pos <= x.1.pos /\ x.1.pos <= q.pos + B
 code : x.1.code = q.code
 lits : ∀ c ∈ x.2, zwu n c /\ c.length <= 3
 len : x.2.length <= N
theorem GdS.put {B N : Nat} {n : Int} {q : Cu} {x : Cu × List (List Int)} (h : GdS B n N q x) {m : Nat} (hm : 1 <= m) (hn : (m : Int) <= n) : GdS (B + (2 * m + 3)) n (N + 1) q ((clD x.1 m).1, x.2 ++ [(clD x.1 m).2]) := by
 obtain ⟨p1, p2, p3, p4⟩ := zfh x.1 m
 have hl := ztr x.1 m hm
 have h0 := h.pos
 refine ⟨⟨by dsimp only; omega, by dsimp only; omega⟩, p3.trans h.code, fun c hc => ?_, by have := h.len; simp; omega⟩
 rcases List.mem_append.1 hc with hc | hc
 ·exact h.lits c hc
 ·rw [List.mem_singleton.1 hc]
  exact ⟨fun l hl' => by have := hl l hl'; omega, p4⟩
theorem GdS.pick {B N : Nat} {n : Int} {q : Cu} {x : Cu × List (List Int)} (h : GdS B n N q x) (m : Int) : GdS (B + 1) n N q ((x.1.pick m).1, x.2) := by
 have p := x.1.pick_pos m
 have h0 := h.pos
 exact ⟨⟨by dsimp only; omega, by dsimp only; omega⟩, (x.1.pick_code m).trans h.code, h.lits, h.len⟩
theorem GdS.mono {B B' N N' : Nat} {n : Int} {q : Cu} {x : Cu × List (List Int)} (h : GdS B n N q x) (h1 : B <= B') (h2 : N <= N') : GdS B' n N' q x :=
 ⟨⟨h.pos.1, by have := h.pos.2; omega⟩, h.code, h.lits, by have := h.len; omega⟩
theorem zlz {n : Nat} (hn : 1 <= n) : ∀ (k : Nat) {B N : Nat} {q : Cu} {x : Cu × List (List Int)}, GdS B n N q x -> GdS (B + k * (2 * n + 3)) n (N + k) q (zdh n k x)
 | 0, _, _, _, _, h => h.mono (by omega) (by omega)
 | k + 1, B, N, q, x, h => by
  rw [zdh]
  exact (zlz hn k (h.put hn (Int.le_refl _))).mono (by rw [Nat.add_mul]; omega) (by omega)
theorem zk4 {n : Nat} (hn : 2 <= n) : ∀ (k : Nat) {B N : Nat} {q : Cu} {x : Cu × List (List Int)}, GdS B n N q x -> GdS (B + k * (2 * n + 12)) n (N + 2 * k) q (zj6 n k x)
 | 0, _, _, _, _, h => h.mono (by omega) (by omega)
 | k + 1, B, N, q, x, h => by
  rw [zj6]
  split
  ·exact (zk4 hn k (((h.pick 2).put (by omega) (Int.le_refl _)).put (m := 2) (by omega) (by omega))).mono (by rw [Nat.add_mul]; omega) (by omega)
  ·exact (h.pick 2).mono (by rw [Nat.add_mul]; omega) (by omega)
def zb3 (q : Cu) : Cu × List (List Int) :=
 zj6 (2 + (q.pick 4).2.toNat) ((zdh (2 + (q.pick 4).2.toNat) (1 + ((q.pick 4).1.pick 7).2.toNat) (((q.pick 4).1.pick 7).1, [])).1.pick 14).2.toNat
  (((zdh (2 + (q.pick 4).2.toNat) (1 + ((q.pick 4).1.pick 7).2.toNat) (((q.pick 4).1.pick 7).1, [])).1.pick 14).1, (zdh (2 + (q.pick 4).2.toNat) (1 + ((q.pick 4).1.pick 7).2.toNat) (((q.pick 4).1.pick 7).1, [])).2)
def zj7 : Nat -> Cu × List (List Int) -> Cu × List (List Int)
 | 0, x => x
 | k + 1, x => if (x.2.length : Int) < 40 + (x.1.pick 2).2 then zj7 k ((clD (x.1.pick 2).1 6).1, x.2 ++ [(clD (x.1.pick 2).1 6).2]) else ((x.1.pick 2).1, x.2)
def zfv (q : Cu) (l : List Int) : Cu × Int := ((q.pick l.length).1, l.getD (q.pick l.length).2.toNat 0)
def zm9 (q : Cu) : Cu × List (List Int) :=
 if ((zb3 q).1.pick 30).2 = 0 then ((zfv ((zb3 q).1.pick 30).1 [0, 13, -13]).1, (zb3 q).2 ++ [[(zfv ((zb3 q).1.pick 30).1 [0, 13, -13]).2]])
 else if ((zb3 q).1.pick 30).2 = 1 then (((zb3 q).1.pick 30).1, (zb3 q).2 ++ [[2, 1]])
 else if ((zb3 q).1.pick 30).2 = 2 then (((zb3 q).1.pick 30).1, (zb3 q).2 ++ [[1, -1]])
 else if ((zb3 q).1.pick 30).2 = 3 then zj7 (42 - (zb3 q).2.length) (((zb3 q).1.pick 30).1, (zb3 q).2)
 else if ((zb3 q).1.pick 30).2 = 4 then (((zb3 q).1.pick 30).1, (zb3 q).2 ++ [[12], [-12, 7]])
 else (((zb3 q).1.pick 30).1, (zb3 q).2)
theorem zpz (q : Cu) : GdS 600 5 33 q (zb3 q) := by
 have h1 := Cu.pick_bd q (n := 4) (by omega)
 have h2 := Cu.pick_bd (q.pick 4).1 (n := 7) (by omega)
 have g0 : GdS 0 (2 + (q.pick 4).2.toNat : Nat) 0 q (q, []) := ⟨by simp, rfl, by simp, Nat.le_refl _⟩
 have g1 := zlz (n := 2 + (q.pick 4).2.toNat) (by omega) (1 + ((q.pick 4).1.pick 7).2.toNat) ((g0.pick 4).pick 7)
 have h3 := Cu.pick_bd (zdh (2 + (q.pick 4).2.toNat) (1 + ((q.pick 4).1.pick 7).2.toNat) (((q.pick 4).1.pick 7).1, [])).1 (n := 14) (by omega)
 have g2 := zk4 (n := 2 + (q.pick 4).2.toNat) (by omega) ((zdh (2 + (q.pick 4).2.toNat) (1 + ((q.pick 4).1.pick 7).2.toNat) (((q.pick 4).1.pick 7).1, [])).1.pick 14).2.toNat (g1.pick 14)
 change GdS _ _ _ q (zb3 q) at g2
 generalize ((zdh (2 + (q.pick 4).2.toNat) (1 + ((q.pick 4).1.pick 7).2.toNat) (((q.pick 4).1.pick 7).1, [])).1.pick 14).2 = z at h3 g2
 generalize ((q.pick 4).1.pick 7).2 = y at h2 g2
 generalize (q.pick 4).2 = x at h1 g2
 have hx : x.toNat <= 3 := by omega
 have hy : y.toNat <= 6 := by omega
 have hz : z.toNat <= 13 := by omega
 have e1 : (1 + y.toNat) * (2 * (2 + x.toNat) + 3) <= 7 * 13 := Nat.mul_le_mul (by omega) (by omega)
 have e2 : z.toNat * (2 * (2 + x.toNat) + 12) <= 13 * 22 := Nat.mul_le_mul hz (by omega)
 have g3 := g2.mono (B' := 600) (N' := 33) (by omega) (by omega)
 exact ⟨g3.pos, g3.code, fun c hc => ⟨fun l hl => by have := (g3.lits c hc).1 l hl; omega, (g3.lits c hc).2⟩, g3.len⟩
theorem zk8 : ∀ (k : Nat) {B N : Nat} {q : Cu} {x : Cu × List (List Int)}, GdS B 13 N q x -> GdS (B + k * 16) 13 (N + k) q (zj7 k x)
 | 0, _, _, _, _, h => h.mono (by omega) (by omega)
 | k + 1, B, N, q, x, h => by
  rw [zj7]
  split
  ·exact (zk8 k ((h.pick 2).put (m := 6) (by omega) (by omega))).mono (by rw [Nat.add_mul]; omega) (by omega)
  ·exact (h.pick 2).mono (by omega) (by omega)
theorem zww (q : Cu) : GdS 2000 13 80 q (zm9 q) := by
 have h := zpz q
 have h0 : GdS 600 13 33 q (zb3 q) := ⟨h.pos, h.code, fun c hc => ⟨fun l hl => by have := (h.lits c hc).1 l hl; omega, (h.lits c hc).2⟩, h.len⟩
 have h1 := h0.pick 30
 have hl := h1.len
 have key : ∀ (q' : Cu) (cs : List (List Int)), (q'.pos <= ((zb3 q).1.pick 30).1.pos + 1 /\ ((zb3 q).1.pick 30).1.pos <= q'.pos) -> q'.code = ((zb3 q).1.pick 30).1.code -> (∀ c ∈ cs, zwu 13 c /\ c.length <= 3) -> cs.length <= 2 -> GdS 2000 13 80 q (q', (zb3 q).2 ++ cs) := fun q' cs k1 k2 k3 k4 => by
  have := h1.pos
  refine ⟨⟨by dsimp only at *; omega, by dsimp only at *; omega⟩, k2.trans h1.code, fun c hc => ?_, by dsimp only at *; rw [List.length_append]; omega⟩
  rcases List.mem_append.1 hc with hc | hc
  ·exact h1.lits c hc
  ·exact k3 c hc
 have hr : ((zb3 q).1.pick 30).1.pos <= ((zb3 q).1.pick 30).1.pos + 1 /\ ((zb3 q).1.pick 30).1.pos <= ((zb3 q).1.pick 30).1.pos := by omega
 unfold zm9
 split
 ·have p := ((zb3 q).1.pick 30).1.pick_pos 3
  have b := Cu.pick_bd ((zb3 q).1.pick 30).1 (n := 3) (by omega)
  refine key _ _ ?_ (Cu.pick_code _ _) (fun c hc => ?_) (by simp)
  ·unfold zfv; exact ⟨p.2, p.1⟩
  ·rw [List.mem_singleton.1 hc]
   refine ⟨fun l hl => ?_, by simp⟩
   rw [List.mem_singleton.1 hl]
   unfold zfv
   show -13 <= ([0, 13, -13] : List Int).getD (((zb3 q).1.pick 30).1.pick 3).2.toNat 0 /\ ([0, 13, -13] : List Int).getD (((zb3 q).1.pick 30).1.pick 3).2.toNat 0 <= 13
   have : (((zb3 q).1.pick 30).1.pick 3).2 = 0 \/ (((zb3 q).1.pick 30).1.pick 3).2 = 1 \/ (((zb3 q).1.pick 30).1.pick 3).2 = 2 := by omega
   rcases this with e | e | e <;> rw [e] <;> decide
 ·split
  ·exact key _ _ hr rfl (by simp [zwu]) (by simp)
  ·split
   ·exact key _ _ hr rfl (by simp [zwu]) (by simp)
   ·split
    ·exact (zk8 (42 - (zb3 q).2.length) h1).mono (by omega) (by omega)
    ·split
     ·exact key _ _ hr rfl (by simp [zwu]) (by simp)
     ·exact h1.mono (by omega) (by omega)
end Go.Proofs.Yteeaofpphmhjdaa
namespace Go.Proofs.Yteeaofpphmhjdaa
set_option linter.unusedSimpArgs false
set_option linter.unusedVariables false
set_option linter.unusedSectionVars false
set_option maxRecDepth 4000
open Go.RowKit
def inB (n lo hi : Int) : Bool := decide (lo <= n) && decide (n <= hi)
theorem zli (n lo hi : Int) : FC Try.prog 71 [iD n, iD lo, iD hi] [bD (inB n lo hi)] := by
 unfold inB
 refine zaw Try.call71 Try.func71 rfl (by kernel_rfl) (zbf (by kernel_rfl)) ?_
 simp -implicitDefEqProofs only [go_sem, Try.results71]
 refine ⟨fun h => ?_, fun h => ?_⟩ <;> simp at h ⊢ <;> omega
theorem zuv (n lo hi : Int) : FC Try.prog 49 [iD n, iD lo, iD hi] [bD (inB n lo hi)] := by
 unfold inB
 refine zaw Try.call49 Try.func49 rfl (by kernel_rfl) (zbf (by kernel_rfl)) ?_
 simp -implicitDefEqProofs only [go_sem, Try.results49]
 refine ⟨fun h => ?_, fun h => ?_⟩ <;> simp at h ⊢ <;> omega
theorem zsv (a b : Int) : FC Try.prog 97 [iD a, iD b] [iD (max a b)] := by
 refine zaw Try.call97 Try.func97 rfl (by kernel_rfl) (zbf (by kernel_rfl)) ?_
 simp -implicitDefEqProofs only [go_sem, Try.results97]
 refine ⟨fun h => ?_, fun h => ?_⟩ <;> simp at h <;> exact zio (by omega)
end Go.Proofs.Yteeaofpphmhjdaa
namespace Go.Proofs.Yteeaofpphmhjdaa
set_option linter.unusedSimpArgs false
set_option linter.unusedVariables false
set_option linter.unusedSectionVars false
set_option maxRecDepth 4000
open Go.RowKit
theorem zp0 {α : Type} [BEq α] [LawfulBEq α] {xs : List α} {s : α} {k : Nat} (hk : k < xs.length) (hn : s ∉ xs.take k) (e : xs[k] = s) : xs.idxOf s = k := by
 have h : xs = xs.take k ++ xs.drop k := (List.take_append_drop k xs).symm
 rw [List.drop_eq_getElem_cons hk] at h
 rw [h, List.idxOf_append, if_neg hn, e]
 rw [show (s :: xs.drop (k + 1)).idxOf s = 0 from List.idxOf_cons_self ..]
 simp; omega
theorem zdz {α : Type} {xs : List α} {s : α} {k : Nat} (hk : k < xs.length) (hn : s ∉ xs.take k) (e : xs[k] ≠ s) : s ∉ xs.take (k + 1) := by
 rw [List.take_succ_eq_append_getElem hk]
 simp only [List.mem_append, List.mem_singleton, not_or]
 exact ⟨hn, fun h => e h.symm⟩
def idxS {α : Type} [BEq α] (xs : List α) (s : α) : Int := if xs.contains s then xs.idxOf s else -1
end Go.Proofs.Yteeaofpphmhjdaa
namespace Go.Proofs.Yteeaofpphmhjdaa
set_option linter.unusedSimpArgs false
set_option linter.unusedVariables false
set_option linter.unusedSectionVars false
set_option maxRecDepth 4000
open Go.RowKit Go.Sort Go.Proofs
variable {P : Program}
structure CloneOf (P : Program) (f : FuncId) (sz bytes : Nat) : Prop where
 call : zbd P f
 old : ∀ (ad : Addr) (n c : Nat) (news : List Value) (w : World), news.length = n * sz -> n <= maxLen -> n * bytes <= 140737488355328 -> (∀ j u, news[j]? = some u -> w.cell? (ad.add j) = some u) -> (∀ u ∈ news, u.oneCell' = true) →
  Calls P f #[.slice (some ad) n c] w fun e w' => ∃ t v', e = .returned v' /\ w'.ownsRow w.heap.size t sz v' n news /\ v' ≠ .slice none 0 0 /\ Below w.heap.size w w'
 none : ∀ (n c : Nat) (w : World), Calls P f #[.slice none n c] w fun e w' => e = .returned (.slice none 0 0) /\ w' = w
theorem zaf.valsA {w : World} {A : Nat -> Prop} {b sz : Nat} {rows : List (List T)} {o : Nat} (h : zaf w A b o sz rows) : ∃ vs, vs.length = rows.length * sz /\ (∀ j u, vs[j]? = some u -> w.cell? ⟨b, o + j, none⟩ = some u) /\ zaa w A rows.flatten vs /\ lens sz rows := by
 obtain ⟨h1, vs, h2, h3, h4⟩ := h.vals
 exact ⟨vs, h2, h3, h4, h1⟩
theorem zqw {f : FuncId} {sz bytes : Nat} (h : CloneOf P f sz bytes) (rows : List (List T)) (hb : rows.length * bytes <= 140737488355328) {w : World} {A : Nat -> Prop} {v : Value} (h1 : zag w A (.sl sz rows) v) :
  Calls P f #[v] w fun e w' => ∃ v', e = .returned v' /\ Below w.heap.size w w' /\ ((v' = .slice none 0 0 /\ rows = []) \/ ∃ g cap cur ty vs, v' = .slice (some ⟨g, 0, none⟩) rows.length cap /\ w.heap.size <= g /\ w'.heap[g]? = some (.cells cur ty (0, 0)) /\ rows.length <= cap /\ cap <= zdg /\ cur.size = cap * sz /\ cur.toList.take (rows.length * sz) = vs /\ zaa w A rows.flatten vs /\ lens sz rows) := by
 unfold zag at h1
 obtain ⟨ao, cap, rfl, q1, q2, q3⟩ := h1
 cases ao with
 | none =>
  have hr : rows = [] := q3.resolve_right fun ⟨b, o, e, _⟩ => by cases e
  refine (h.none rows.length cap w).mono ?_
  rintro e w' ⟨rfl, rfl⟩
  exact ⟨_, rfl, Below.refl _ _, Or.inl ⟨rfl, hr⟩⟩
 | some ad =>
  have hx : ∃ news : List Value, news.length = rows.length * sz /\ (∀ j u, news[j]? = some u -> w.cell? (ad.add j) = some u) /\ zaa w A rows.flatten news /\ lens sz rows := by
   rcases q3 with rfl | ⟨b', o', e, _, q4⟩
   ·exact ⟨[], by simp, fun j u hj => by simp at hj, by unfold zaa; rfl, fun r hr => by simp at hr⟩
   ·cases e
    obtain ⟨news, k1, k2, k3, k4⟩ := q4.valsA
    exact ⟨news, k1, fun j u hj => by rw [zcl]; exact k2 j u hj, k3, k4⟩
  obtain ⟨news, k1, k2, k3, k4⟩ := hx
  refine (h.old ad rows.length cap news w k1 (by unfold maxLen; have := q2; unfold zdg at this; omega) hb k2 k3.one).mono ?_
  rintro e w' ⟨t, v', rfl, ⟨o1, o2⟩, hn, hbel⟩
  refine ⟨v', rfl, hbel, Or.inr ?_⟩
  rcases o2 with ⟨e, _⟩ | ⟨g, cap', cur, e, p1, p2, p3, p4, p5, p6⟩
  ·exact absurd e hn
  ·exact ⟨g, cap', cur, t, news, e, p1, p2, p3, by unfold maxLen at p4; omega, p5, p6, k3, k4⟩
theorem zvr {cur : Array Value} {vs : List Value} {n : Nat} (h : cur.toList.take n = vs) : ∀ j u, vs[j]? = some u -> cur[0 + j]? = some u := fun j u hu => by
 rw [<- h, List.getElem?_take] at hu
 split at hu
 ·simpa using hu
 ·cases hu
theorem zr6 {f : FuncId} {sz bytes : Nat} (h : CloneOf P f sz bytes) (rows : List (List T)) (hb : rows.length * bytes <= 140737488355328) (hf : ∀ c ∈ rows.flatten, c.flat = true) : FC P f [.one (.sl sz rows)] [.one (.sl sz rows)] := by
 refine ⟨h.call, fun w vs fp tp hv hn => ?_⟩
 obtain ⟨hr, rfl, rfl⟩ := zb9 hv
 obtain ⟨v, _, rfl, h1, rfl⟩ := hr
 refine (zqw h rows hb h1).mono ?_
 rintro e w' ⟨v', rfl, hbel, hh⟩
 have hB : Bk (fun k => k < w.heap.size /\ k ∉ ([] : List Nat)) w w' := ⟨hbel.os, hbel.tape, hbel.output, hbel.size, fun k hk => hbel.block k hk.1⟩
 rcases hh with ⟨rfl, hr⟩ | ⟨g, cap, cur, ty, vs, rfl, p1, p2, p3, p4, p5, p6, p7, p8⟩
 ·subst hr
  refine ⟨[_], [], [], rfl, ⟨_, [], [], [], [], [], rfl, rfl, rfl, ⟨?_, rfl⟩, rfl, rfl, rfl⟩, List.nodup_nil, by simp, hB⟩
  unfold zaq
  exact ⟨Option.none, 0, rfl, Nat.le_refl _, by simp, Or.inl ⟨rfl, rfl, rfl, rfl⟩⟩
 ·refine ⟨[_], [g], [g], rfl, ⟨_, [], [g], [], [g], [], rfl, rfl, rfl, ⟨?_, rfl⟩, rfl, rfl, rfl⟩, by simp, fun b hb => by rw [List.mem_singleton.1 hb]; exact Or.inr p1, hB⟩
  unfold zaq
  refine ⟨_, cap, rfl, p3, p4, Or.inr ⟨g, cur, ty, [], rfl, rfl, p2, p5, ?_⟩⟩
  have hown := zaa.own p7 hf
  exact zad.of_vals p8 (zal.keep hown fun b hb => by simp at hb) fun j u hu => zvr p6 j u hu
end Go.Proofs.Yteeaofpphmhjdaa
namespace Go.Proofs.Yteeaofpphmhjdaa
set_option linter.unusedSimpArgs false
set_option linter.unusedVariables false
set_option linter.unusedSectionVars false
set_option maxRecDepth 4000
open Go.RowKit
theorem zu9 {P : Program} {t : TypeId} {n b : Nat} {z : List C} (h1 : za5 P t = some n) (h2 : zcq P t = some b) (h3 : zcj P t = some z) (h4 : z.length = n) : ∃ i0 zv, P.info? t = some i0 /\ i0.zero = some zv /\ zv.cells.size = n /\ i0.size = n /\ i0.bytes = b := by
 unfold za5 at h1
 unfold zcq at h2
 unfold zcj at h3
 cases hi : P.info? t with
 | none => rw [hi] at h1; cases h1
 | some i =>
  rw [hi] at h1 h2 h3
  simp only [Option.map_some, Option.some.injEq] at h1 h2
  simp only [Option.bind_some] at h3
  cases hz : i.zero with
  | none => rw [hz] at h3; cases h3
  | some zv =>
   rw [hz] at h3
   simp only [Option.map_some, Option.some.injEq] at h3
   refine ⟨i, zv, rfl, hz, ?_, h1, h2⟩
   rw [<- h4, <- h3]; simp
abbrev zaz (xs : List Int) : T := .sl 1 (xs.map fun s => [.int .i64 s])
theorem zma (xs : List Int) (s : Int) : FC Try.prog 118 [.one (zaz xs), iD s] [iD (idxS xs s)] := by
 refine zet (fun hw => ?_) Try.call118
 have hl : xs.length <= 9223372036854775807 := by simpa [zmz, wfT] using hw.1.1
 refine zaw Try.call118 Try.func118 rfl (by kernel_rfl) (zbf (by kernel_rfl)) ?_
 simp -implicitDefEqProofs only [go_sem, Try.results118]
 refine zap (fun k : Nat => hd [(0, vT (zaz xs)), (1, vT (.int .i64 s)), (7, vI xs.length), (8, vI k)] [] []) (fun k => k <= xs.length /\ s ∉ xs.take k) (fun k => xs.length - k) 0 (zah ?_) ?_ ?_
 ·simp -implicitDefEqProofs only [go_sem]
 ·simp
 ·intro k ⟨hk, hr⟩
  by_cases hlt : k < xs.length
  ·simp -implicitDefEqProofs only [go_sem, zaj, hlt]
   refine ⟨fun h => ?_, fun h => ?_⟩
   ·have e : xs[k] = s := (beq_iff_eq.1 h).symm
    have hm : s ∈ xs := e ▸ List.getElem_mem hlt
    rw [idxS, if_pos (by simpa using hm), zp0 hlt hr e]
   ·have e : xs[k] ≠ s := fun e => by simp [e] at h
    exact ⟨k + 1, ⟨hlt, zdz hlt hr e⟩, by omega, zah (by simp -implicitDefEqProofs only [go_sem]; rw [za2 (by omega)])⟩
  ·simp -implicitDefEqProofs only [go_sem, hlt]
   rw [List.take_of_length_le (by omega)] at hr
   rw [idxS, if_neg (by simpa using hr)]
theorem zdt (xs : List Int) (s : Int) : FC Try.prog 103 [.one (zaz xs), iD s] [bD (xs.contains s)] := by
 refine zaw Try.call103 Try.func103 rfl (by kernel_rfl) (zbf (by kernel_rfl)) ?_
 simp -implicitDefEqProofs only [go_sem, Try.results103]
 refine callF (zma xs s) (by simp -implicitDefEqProofs only [go_sem]) ?_
 simp -implicitDefEqProofs only [go_sem]
 unfold idxS
 cases h : xs.contains s <;> simp
end Go.Proofs.Yteeaofpphmhjdaa
namespace Go.Proofs.Yteeaofpphmhjdaa
set_option linter.unusedSimpArgs false
set_option linter.unusedVariables false
set_option linter.unusedSectionVars false
set_option maxRecDepth 4000
open Go.RowKit
theorem ztx (σ : St) (caps : List T) : VDs σ (caps.map fun t => .one (.t t)) (caps.map .one) = True := by
 induction caps with
 | nil => simp [VDs]
 | cons t ts ih => rw [List.map_cons, List.map_cons, zkz, ih]; simp [zus, CT_t]
attribute [go_sem] ztx
def zjs {α : Type} (xs : List α) (p : α -> Bool) : Int := if xs.any p then xs.findIdx p else -1
theorem zbu {α : Type} {xs : List α} {p : α -> Bool} {k : Nat} (hk : k < xs.length) (hn : ∀ x ∈ xs.take k, p x = false) (h : p xs[k] = true) : zjs xs p = k := by
 have ha : xs.any p = true := List.any_eq_true.2 ⟨xs[k], List.getElem_mem hk, h⟩
 have hf : xs.findIdx p = k := (List.findIdx_eq hk).2 ⟨h, fun j hj => hn _ (by
  rw [List.mem_take_iff_getElem]; exact ⟨j, by omega, rfl⟩)⟩
 rw [zjs, if_pos ha, hf]
theorem zcb {α : Type} {xs : List α} {p : α -> Bool} (hn : ∀ x ∈ xs, p x = false) : zjs xs p = -1 := by
 have ha : xs.any p = false := by rw [List.any_eq_false]; exact fun x hx => by simp [hn x hx]
 rw [zjs, ha]; rfl
theorem zl1 {α : Type} (xs : List α) (p : α -> Bool) : decide (0 <= zjs xs p) = xs.any p := by
 unfold zjs
 cases xs.any p <;> simp
theorem zbt {α : Type} {xs : List α} {p : α -> Bool} {k : Nat} (hk : k < xs.length) (hn : ∀ x ∈ xs.take k, p x = false) (h : p xs[k] = false) : ∀ x ∈ xs.take (k + 1), p x = false := by
 rw [List.take_succ_eq_append_getElem hk]
 intro x hx
 rcases List.mem_append.1 hx with hx | hx
 ·exact hn x hx
 ·rw [List.mem_singleton.1 hx]; exact h
end Go.Proofs.Yteeaofpphmhjdaa
namespace Go.Proofs.Yteeaofpphmhjdaa
set_option linter.unusedSimpArgs false
set_option linter.unusedVariables false
set_option linter.unusedSectionVars false
set_option maxRecDepth 4000
open Go.RowKit
abbrev za0 (S : List (List Int)) : T := .sl 1 (S.map fun s => [zaz s])
abbrev zmj (l : List UInt8) : T := .sl 1 (l.map fun b => [T.int .u8 b.toNat])
theorem zd4 (n : Int) (h : -4611686018427387904 <= n /\ n <= 4611686018427387904) : FC Try.prog 96 [iD n] [iD (ab n)] := by
 refine zaw Try.call96 Try.func96 rfl (by kernel_rfl) (zbf (by kernel_rfl)) ?_
 simp -implicitDefEqProofs only [go_sem, Try.results96]
 rw [zak (by omega) (by omega)]
 exact zio (by unfold ab; omega)
theorem zsd (n : Int) (h : -4611686018427387904 <= n /\ n <= 4611686018427387904) : FC Try.prog 98 [iD n] [iD (ab n)] := by
 refine zaw Try.call98 Try.func98 rfl (by kernel_rfl) (zbf (by kernel_rfl)) ?_
 simp -implicitDefEqProofs only [go_sem, Try.results98]
 rw [zak (by omega) (by omega)]
 refine ⟨fun h => ?_, fun h => ?_⟩ <;> simp at h <;> exact zio (by unfold ab; omega)
def pv (c : List Int) (k : Nat) : Int := if k = 0 then 0 else ab (c.getD (k - 1) 0)
theorem zpq (c : List Int) {k : Nat} (h : k < c.length) : pv c (k + 1) = ab c[k] := by
 unfold pv
 rw [if_neg (by omega), Nat.add_sub_cancel, List.getD_eq_getElem?_getD, List.getElem?_eq_getElem h]; rfl
theorem ab_in {l : Int} (h : -12 <= l /\ l <= 12) (h0 : l ≠ 0) : 0 < ab l /\ ab l <= 12 := by unfold ab; omega
theorem zda (c : List Int) : FC Try.prog 55 [.one (zaz c)] [bD (pcl c)] := by
 refine zet (fun hw => ?_) Try.call55
 have hl : c.length <= 9223372036854775807 := by have := hw.1.1; simpa using this
 refine zaw Try.call55 Try.func55 rfl (by kernel_rfl) (zbf (by kernel_rfl)) ?_
 simp -implicitDefEqProofs only [go_sem, Try.results55]
 refine zap (fun k : Nat => hd [(0, vT (zaz c)), (5, vT (zaz c)), (6, vI c.length), (7, vI k)] [] []) (fun k => k <= c.length /\ pcl c = zne (pv c k) (c.drop k) /\ (0 < k -> -12 <= c.getD (k - 1) 0 /\ c.getD (k - 1) 0 <= 12)) (fun k => c.length - k) 0 (zah ?_) ?_ ?_
 ·simp -implicitDefEqProofs only [go_sem]
 ·exact ⟨Nat.zero_le _, rfl, fun h => absurd h (by omega)⟩
 ·intro k ⟨hk, hr, hpr⟩
  by_cases hlt : k < c.length
  ·have hsu := zpq c hlt
   have hgd : c.getD k 0 = c[k] := by rw [List.getD_eq_getElem?_getD, List.getElem?_eq_getElem hlt]; rfl
   rw [List.drop_eq_getElem_cons hlt] at hr
   unfold zne at hr
   have HW := zli c[k] (-12) 12
   cases h0 : (c[k] == (0 : Int))
   ·have h0' : c[k] ≠ 0 := by simpa using h0
    cases hwi : inB c[k] (-12) 12
    ·rw [hwi] at HW
     have hno : ¬ ab c[k] <= 12 := by
      unfold inB at hwi
      simp only [Bool.and_eq_false_iff, decide_eq_false_iff_not] at hwi
      unfold ab; omega
     simp -implicitDefEqProofs only [go_sem, zaj, hlt, h0]
     refine callF (HW) (by simp -implicitDefEqProofs only [go_sem]) ?_
     simp -implicitDefEqProofs only [go_sem]
     rw [hr, show decide (ab c[k] <= 12) = false by simpa using hno]; simp
    ·rw [hwi] at HW
     have hin : -12 <= c[k] /\ c[k] <= 12 := by
      unfold inB at hwi
      simpa using hwi
     have hab := ab_in hin h0'
     have HA := zd4 c[k] (by omega)
     by_cases hk0 : k = 0
     ·have hkf : ((0 : Int) < (k : Int)) = False := by simp; omega
      simp -implicitDefEqProofs only [go_sem, zaj, hlt, h0]
      refine callF (HW) (by simp -implicitDefEqProofs only [go_sem, hkf]) ?_
      simp -implicitDefEqProofs only [go_sem, hkf]
      rw [za2 (by omega)]
      refine ⟨k + 1, ⟨hlt, ?_, fun _ => ?_⟩, by omega, zah (by simp -implicitDefEqProofs only [go_sem])⟩
      ·have hpv : pv c k = 0 := by unfold pv; rw [if_pos hk0]
       rw [hr, hsu, hpv, show decide (0 < ab c[k]) = true by simpa using hab.1, show decide (ab c[k] <= 12) = true by simpa using hab.2]; rfl
      ·rw [Nat.add_sub_cancel, hgd]; exact hin
     ·have hkp : (0 : Int) < k := by omega
      have hk1 : k - 1 < c.length := by omega
      have hw1 : IntKind.i64.wrap ((k : Int) - 1) = ((k - 1 : Nat) : Int) := by rw [zak (by omega) (by omega)]; omega
      have hg1 : c.getD (k - 1) 0 = c[k - 1] := by rw [List.getD_eq_getElem?_getD, List.getElem?_eq_getElem hk1]; rfl
      have hp1 := hpr (by omega)
      rw [hg1] at hp1
      have HB := zd4 c[k - 1] (by omega)
      have hpv : pv c k = ab c[k - 1] := by unfold pv; rw [if_neg hk0, hg1]
      rw [hpv] at hr
      simp -implicitDefEqProofs only [go_sem, zaj, hlt, h0]
      refine callF (HW) (by simp -implicitDefEqProofs only [go_sem, hkp, hw1, hk1, zaj]) ?_
      simp -implicitDefEqProofs only [go_sem, hkp, hw1, hk1, zaj]
      refine callF (HB) (by simp -implicitDefEqProofs only [go_sem]) ?_
      simp -implicitDefEqProofs only [go_sem]
      refine callF (HA) (by simp -implicitDefEqProofs only [go_sem]) ?_
      simp -implicitDefEqProofs only [go_sem]
      rw [za2 (by omega)]
      refine ⟨fun h => ?_, fun h => ⟨k + 1, ⟨hlt, ?_, fun _ => ?_⟩, by omega, zah (by simp -implicitDefEqProofs only [go_sem])⟩⟩
      ·have : ¬ ab c[k - 1] < ab c[k] := by simp at h; omega
       rw [hr, show decide (ab c[k - 1] < ab c[k]) = false by simpa using this]; simp
      ·have : ab c[k - 1] < ab c[k] := by simp at h; omega
       rw [hr, hsu, show decide (ab c[k - 1] < ab c[k]) = true by simpa using this, show decide (ab c[k] <= 12) = true by simpa using hab.2]; rfl
      ·rw [Nat.add_sub_cancel, hgd]; exact hin
   ·have h0' : c[k] = 0 := by simpa using h0
    have hpv : 0 <= pv c k := by unfold pv ab; split <;> omega
    simp -implicitDefEqProofs only [go_sem, zaj, hlt, h0]
    rw [hr, show decide (pv c k < ab c[k]) = false by rw [h0']; unfold ab; simpa using hpv]; simp
  ·simp -implicitDefEqProofs only [go_sem, hlt]
   rw [hr, List.drop_of_length_le (by omega)]; rfl
end Go.Proofs.Yteeaofpphmhjdaa
namespace Go.Proofs.Yteeaofpphmhjdaa
set_option linter.unusedSimpArgs false
set_option linter.unusedVariables false
set_option linter.unusedSectionVars false
set_option maxRecDepth 4000
open Go.RowKit
abbrev bsD (l : List UInt8) : D := .one (zmj l)
theorem ztd {d : PD} (h : zbc Try.prog 22 d) : ∃ l : List UInt8, d.cells = [zmj l] := by
 obtain ⟨xs, rfl, hx⟩ := h.sl Try.underlying22
 obtain ⟨l, hl⟩ := zgo (fun b : UInt8 => [T.int .u8 b.toNat]) xs fun x hx' => by
  obtain ⟨n, rfl⟩ := (hx x hx').oct Try.underlying5
  exact ⟨n, by rw [PD.cells]⟩
 exact ⟨l, by rw [PD.cells, hl, show Try.prog.cellsOf 5 = 1 from by kernel_rfl]⟩
end Go.Proofs.Yteeaofpphmhjdaa
namespace Go.Proofs.Yteeaofpphmhjdaa
set_option linter.unusedSimpArgs false
set_option linter.unusedVariables false
set_option linter.unusedSectionVars false
set_option maxRecDepth 4000
open Go.RowKit
variable {P : Program}
inductive AF
 | d (b : Bool) (x : D)
 | p (j : Nat)
 | fn (g : FuncId) (js : List Nat)
def AF.ds : List AF -> List (Bool × D)
 | [] => []
 | .d b x :: l => (b, x) :: AF.ds l
 | .p _ :: l => AF.ds l
 | .fn _ _ :: l => AF.ds l
def zme (b : Nat) : Value := .pointer (some ⟨b, 0, none⟩)
def AF.vals (bs : Nat -> Nat) : List AF -> List Value -> List Value
 | [], _ => []
 | .d _ _ :: l, v :: vs => v :: AF.vals bs l vs
 | .d _ _ :: _, [] => []
 | .p j :: l, vs => zme (bs j) :: AF.vals bs l vs
 | .fn g js :: l, vs => .func (.func g) #[] ⟨js.map fun j => zme (bs j)⟩ :: AF.vals bs l vs
def AF.okJ (n : Nat) : List AF -> Bool
 | [] => true
 | .d _ _ :: l => AF.okJ n l
 | .p j :: l => decide (j < n) && AF.okJ n l
 | .fn _ js :: l => js.all (fun j => decide (j < n)) && AF.okJ n l
abbrev Bxs := List (List (Bool × T))
def zl4 (w : World) (bs : Nat -> Nat) : Nat -> List (List Value) -> Bxs -> Prop
 | _, [], [] => True
 | j, vs :: bvs, b :: bx => vs.length = b.length /\ (∃ ty, w.heap[bs j]? = some (.cells ⟨vs⟩ ty (0, 0))) /\ zl4 w bs (j + 1) bvs bx
 | _, _, _ => False
theorem zl4.lt {w : World} {bs : Nat -> Nat} : ∀ {j : Nat} {bvs : List (List Value)} {bx : Bxs}, zl4 w bs j bvs bx -> ∀ i, i < bx.length -> bs (j + i) < w.heap.size
 | _, [], [], _, i, hi => by simp at hi
 | j, _ :: _, _ :: _, h, 0, hi => by obtain ⟨ty, h⟩ := h.2.1; exact (Array.getElem?_eq_some_iff.1 h).1
 | j, _ :: _, _ :: _, h, i + 1, hi => by rw [show j + (i + 1) = j + 1 + i by omega]; exact zl4.lt h.2.2 i (by simpa using hi)
 | _, [], _ :: _, h, _, _ => h.elim
 | _, _ :: _, [], h, _, _ => h.elim
def PC (P : Program) (f : FuncId) (bx : Bxs) (l : List AF) (bx' : Bxs) (res : List (Bool × D)) : Prop := zbd P f /\ bx'.length = bx.length /\ ∀ (w : World) (bs : Nat -> Nat) (bvs : List (List Value)) (dvs : List Value) (fp tp : List Nat) (A : Nat -> Prop),
 (∀ i j, i < bx.length -> j < bx.length -> bs i = bs j -> i = j) -> (∀ j, j < bx.length -> bs j ∉ fp) -> zl4 w bs 0 bvs bx →
 zao w (fun k => (k < w.heap.size /\ k ∉ fp /\ ∀ j, j < bx.length -> k ≠ bs j) /\ A k) (AF.ds l ++ bxA bx.flatten) (dvs ++ bvs.flatten) fp tp -> fp.Nodup -> dvs.length = (AF.ds l).length →
 Calls P f ⟨AF.vals bs l dvs⟩ w fun e w' => ∃ us bvs' fp' tp', e = .returned (zb1 us) /\ zl4 w' bs 0 bvs' bx' /\ us.length = res.length ∧
  zao w' (fun k => (k < w'.heap.size /\ k ∉ fp' /\ ∀ j, j < bx.length -> k ≠ bs j) /\ (A k \/ w.heap.size <= k \/ k ∈ fp)) (res ++ bxA bx'.flatten) (us ++ bvs'.flatten) fp' tp' /\ fp'.Nodup /\ (∀ b ∈ fp', b ∈ fp \/ w.heap.size <= b) ∧
  Bk (fun k => k < w.heap.size /\ k ∉ fp /\ ∀ j, j < bx.length -> k ≠ bs j) w w'
def c1P (k : Nat) : Bool × T -> C
 | (true, t) => owC k 0 t
 | (false, t) => t.toN
def zlx : Nat -> List (Bool × T) -> List C
 | _, [] => []
 | k, p :: ps => c1P k p :: zlx (k + 1) ps
def ze6 : Nat -> Nat -> Bxs -> Nat -> Option (List C)
 | _, _, [] => fun _ => none
 | j, k, b :: bs => upd (ze6 (j + 1) (k + b.length) bs) (1000000 + j) (some (zlx k b))
def zbl : Nat -> Nat -> List AF -> Nat -> V
 | _, _, [] => fun _ => .one .any
 | i, k, .d b x :: l => upd (zbl (i + 1) (k + 1) l) i (gVN k (b, x))
 | i, k, .p j :: l => upd (zbl (i + 1) k l) i (.one (.bx (1000000 + j) 0))
 | i, k, .fn g js :: l => upd (zbl (i + 1) k l) i (.one (.fn g (js.map (1000000 + ·))))
def zep : Nat -> Bxs -> (Nat -> V) -> Nat -> V
 | _, [], f => f
 | j, _ :: bs, f => upd (zep (j + 1) bs f) (1000000 + j) (.one (.bx (1000000 + j) 0))
def zdm (l : List AF) (bx : Bxs) : St := ⟨zep 0 bx (zbl 0 0 l), ze6 0 (AF.ds l).length bx, zdj 0 (AF.ds l ++ bxA bx.flatten)⟩
theorem zwo (k : Nat) (p : Bool × T) : gVN k (p.1, .one p.2) = .one (c1P k p) := by obtain ⟨b, t⟩ := p; cases b <;> rfl
theorem zh9 : ∀ (bx : Bxs) (j : Nat) (f : Nat -> V) (i : Nat), ((∃ q, q < bx.length /\ i = 1000000 + (j + q)) /\ zep j bx f i = .one (.bx i 0)) \/ ((∀ q, q < bx.length -> i ≠ 1000000 + (j + q)) /\ zep j bx f i = f i)
 | [], j, f, i => Or.inr ⟨fun q hq => by simp at hq, rfl⟩
 | b :: bx, j, f, i => by
  by_cases hi : i = 1000000 + j
  ·subst hi
   exact Or.inl ⟨⟨0, by simp, rfl⟩, by unfold zep; rw [zab]⟩
  ·unfold zep
   rw [zae _ _ hi]
   rcases zh9 bx (j + 1) f i with ⟨⟨q, h1, h2⟩, h3⟩ | ⟨h1, h2⟩
   ·exact Or.inl ⟨⟨q + 1, by simp; omega, by omega⟩, h3⟩
   ·refine Or.inr ⟨fun q hq => ?_, h2⟩
    cases q with
    | zero => exact hi
    | succ q => have := h1 q (by simpa using hq); omega
theorem zhs : ∀ (bx : Bxs) (j k b : Nat), ze6 j k bx b ≠ none ↔ ∃ q, q < bx.length /\ b = 1000000 + (j + q)
 | [], j, k, b => ⟨fun h => absurd rfl h, fun ⟨q, hq, _⟩ => by simp at hq⟩
 | c :: bx, j, k, b => by
  unfold ze6
  by_cases hi : b = 1000000 + j
  ·subst hi; rw [zab]; exact ⟨fun _ => ⟨0, by simp, rfl⟩, fun _ => by simp⟩
  ·rw [zae _ _ hi, zhs bx (j + 1) _ b]
   refine ⟨fun ⟨q, h1, h2⟩ => ⟨q + 1, by simp; omega, by omega⟩, fun ⟨q, h1, h2⟩ => ?_⟩
   cases q with
   | zero => exact absurd h2 hi
   | succ q => exact ⟨q, by simpa using h1, by omega⟩
theorem zf8 {σ : St} {g : Gh} {w : World} : ∀ {b : List (Bool × T)} {vs : List Value} {k : Nat}, vs.length = b.length -> (∀ i p v, b[i]? = some p -> vs[i]? = some v -> CR σ g w (c1P (k + i) p) v) -> CRs σ g w (zlx k b) vs
 | [], vs, _, hl, _ => List.length_eq_zero_iff.1 hl
 | p :: b, [], _, hl, _ => by simp at hl
 | p :: b, v :: vs, k, hl, h => ⟨v, vs, rfl, by simpa using h 0 p v rfl rfl, zf8 (by simpa using hl) fun i q u h1 h2 => by
   have := h (i + 1) q u (by simpa using h1) (by simpa using h2)
   rw [show k + (i + 1) = k + 1 + i by omega] at this
   exact this⟩
theorem zi8 {σ : St} {g : Gh} {w : World} {bs : Nat -> Nat} : ∀ (bx : Bxs) (bvs : List (List Value)) (j k : Nat), zl4 w bs j bvs bx -> (∀ i p v, bx.flatten[i]? = some p -> bvs.flatten[i]? = some v -> CR σ g w (c1P (k + i) p) v) →
  ∀ b cs, ze6 j k bx b = some cs -> ∃ q vs ty, q < bx.length /\ b = 1000000 + (j + q) /\ w.heap[bs (j + q)]? = some (.cells ⟨vs⟩ ty (0, 0)) /\ CRs σ g w cs vs
 | [], _, _, _, _, _, b, cs, h => by cases h
 | c :: bx, [], _, _, h0, _, _, _, _ => h0.elim
 | c :: bx, vs :: bvs, j, k, h0, hc, b, cs, h => by
  obtain ⟨h1, ⟨ty, h2⟩, h3⟩ := h0
  unfold ze6 at h
  by_cases hi : b = 1000000 + j
  ·subst hi
   rw [zab] at h
   cases h
   refine ⟨0, vs, ty, by simp, rfl, h2, zf8 h1 fun i p v e1 e2 => hc i p v ?_ ?_⟩
   ·rw [List.flatten_cons, List.getElem?_append_left (List.getElem?_eq_some_iff.1 e1).1]; exact e1
   ·rw [List.flatten_cons, List.getElem?_append_left (List.getElem?_eq_some_iff.1 e2).1]; exact e2
  ·rw [zae _ _ hi] at h
   obtain ⟨q, vs', ty', k1, k2, k3, k4⟩ := zi8 bx bvs (j + 1) (k + c.length) h3 (fun i p v e1 e2 => by
    have := hc (c.length + i) p v (by rw [List.flatten_cons, List.getElem?_append_right (by omega), show c.length + i - c.length = i by omega]; exact e1) (by rw [List.flatten_cons, List.getElem?_append_right (by omega), show c.length + i - vs.length = i by omega]; exact e2)
    rw [show k + (c.length + i) = k + c.length + i by omega] at this
    exact this) b cs h
   exact ⟨q + 1, vs', ty', by simp; omega, by omega, by rw [show j + (q + 1) = j + 1 + q by omega]; exact k3, k4⟩
theorem zc2 : ∀ (l : List AF) (i0 k i : Nat), l.length <= i -> zbl i0 k l (i0 + i) = .one .any
 | [], _, _, _, _ => rfl
 | a :: l, i0, k, 0, h => by simp at h
 | .d b x :: l, i0, k, i + 1, h => by unfold zbl; rw [zae _ _ (by omega), show i0 + (i + 1) = i0 + 1 + i by omega]; exact zc2 l _ _ i (by simpa using h)
 | .p j :: l, i0, k, i + 1, h => by unfold zbl; rw [zae _ _ (by omega), show i0 + (i + 1) = i0 + 1 + i by omega]; exact zc2 l _ _ i (by simpa using h)
 | .fn g js :: l, i0, k, i + 1, h => by unfold zbl; rw [zae _ _ (by omega), show i0 + (i + 1) = i0 + 1 + i by omega]; exact zc2 l _ _ i (by simpa using h)
theorem zdv {σ : St} {g : Gh} {w : World} {bs : Nat -> Nat} {n : Nat} (hb : ∀ j, j < n -> σ.bx (1000000 + j) ≠ none /\ g.β (1000000 + j) = bs j) : ∀ (l : List AF) (i0 k : Nat) (dvs : List Value), AF.okJ n l = true -> dvs.length = (AF.ds l).length -> (∀ i d v, (AF.ds l)[i]? = some d -> dvs[i]? = some v -> VR σ g w (gVN (k + i) d) v) →
  ∀ i, i < l.length -> ∃ v, (AF.vals bs l dvs)[i]? = some v /\ VR σ g w (zbl i0 k l (i0 + i)) v
 | [], _, _, _, _, _, _, i, hi => by simp at hi
 | .d b x :: l, i0, k, [], _, hl, _, i, hi => by simp [AF.ds] at hl
 | .d b x :: l, i0, k, v :: dvs, ho, hl, h, i, hi => by
  cases i with
  | zero => exact ⟨v, rfl, by unfold zbl; show VR σ g w (upd _ i0 _ i0) v; rw [zab]; simpa using h 0 (b, x) v rfl rfl⟩
  | succ i =>
   obtain ⟨u, k1, k2⟩ := zdv hb l (i0 + 1) (k + 1) dvs ho (by simpa [AF.ds] using hl) (fun i d v h1 h2 => by
    have := h (i + 1) d v (by simpa [AF.ds] using h1) (by simpa using h2)
    rw [show k + (i + 1) = k + 1 + i by omega] at this
    exact this) i (by simpa using hi)
   exact ⟨u, by unfold AF.vals; simpa using k1, by unfold zbl; rw [zae _ _ (by omega), show i0 + (i + 1) = i0 + 1 + i by omega]; exact k2⟩
 | .p j :: l, i0, k, dvs, ho, hl, h, i, hi => by
  unfold AF.okJ at ho
  rw [Bool.and_eq_true, decide_eq_true_eq] at ho
  cases i with
  | zero => exact ⟨_, rfl, by unfold zbl; show VR σ g w (upd _ i0 _ i0) _; rw [zab]; exact ⟨by rw [(hb j ho.1).2]; rfl, (hb j ho.1).1⟩⟩
  | succ i =>
   obtain ⟨u, k1, k2⟩ := zdv hb l (i0 + 1) k dvs ho.2 hl h i (by simpa using hi)
   exact ⟨u, by unfold AF.vals; simpa using k1, by unfold zbl; rw [zae _ _ (by omega), show i0 + (i + 1) = i0 + 1 + i by omega]; exact k2⟩
 | .fn f js :: l, i0, k, dvs, ho, hl, h, i, hi => by
  unfold AF.okJ at ho
  rw [Bool.and_eq_true, List.all_eq_true] at ho
  cases i with
  | zero =>
   refine ⟨_, rfl, ?_⟩
   unfold zbl
   show VR σ g w (upd _ i0 _ i0) _
   rw [zab]
   refine ⟨?_, fun b hb' => ?_⟩
   ·rw [List.map_map]
    congr 2
    refine List.map_congr_left fun j hj => ?_
    show zme (bs j) = .pointer (some ⟨g.β (1000000 + j), 0, none⟩)
    rw [(hb j (by simpa using ho.1 j hj)).2]
    rfl
   ·obtain ⟨j, hj, rfl⟩ := List.mem_map.1 hb'
    exact (hb j (by simpa using ho.1 j hj)).1
  | succ i =>
   obtain ⟨u, k1, k2⟩ := zdv hb l (i0 + 1) k dvs ho.2 hl h i (by simpa using hi)
   exact ⟨u, by unfold AF.vals; simpa using k1, by unfold zbl; rw [zae _ _ (by omega), show i0 + (i + 1) = i0 + 1 + i by omega]; exact k2⟩
theorem AF.vals_len (bs : Nat -> Nat) : ∀ (l : List AF) (dvs : List Value), dvs.length = (AF.ds l).length -> (AF.vals bs l dvs).length = l.length
 | [], _, _ => rfl
 | .d _ _ :: l, [], h => by simp [AF.ds] at h
 | .d _ _ :: l, v :: vs, h => by simp [AF.vals, AF.vals_len bs l vs (by simpa [AF.ds] using h)]
 | .p _ :: l, vs, h => by simp [AF.vals, AF.vals_len bs l vs h]
 | .fn _ _ :: l, vs, h => by simp [AF.vals, AF.vals_len bs l vs h]
def T.fs : T -> Bool
 | .sl _ _ => true
 | t => t.flat
def gFS : List (Bool × D) -> Bool
 | [] => true
 | (false, _) :: ds => gFS ds
 | (true, .one t) :: ds => t.fs && gFS ds
 | (true, .agg ts) :: ds => ts.all T.fs && gFS ds
theorem zle : ∀ {ds : List (Bool × D)}, gFS ds = true -> ∀ (i : Nat) d, ds[i]? = some (true, d) -> match d with | .one t => t.fs = true | .agg ts => ts.all T.fs = true
 | [], _, i, d, h => by simp at h
 | (false, x) :: ds, hg, 0, d, h => by simp at h
 | (false, x) :: ds, hg, i + 1, d, h => zle (ds := ds) hg i d (by simpa using h)
 | (true, .one t) :: ds, hg, 0, d, h => by
  simp only [List.getElem?_cons_zero, Option.some.injEq, Prod.mk.injEq, true_and] at h
  subst h
  exact ((Bool.and_eq_true _ _).mp hg).1
 | (true, .agg t) :: ds, hg, 0, d, h => by
  simp only [List.getElem?_cons_zero, Option.some.injEq, Prod.mk.injEq, true_and] at h
  subst h
  exact ((Bool.and_eq_true _ _).mp hg).1
 | (true, .one t) :: ds, hg, i + 1, d, h => zle (ds := ds) ((Bool.and_eq_true _ _).mp hg).2 i d (by simpa using h)
 | (true, .agg t) :: ds, hg, i + 1, d, h => zle (ds := ds) ((Bool.and_eq_true _ _).mp hg).2 i d (by simpa using h)
theorem zk5 {σ σ' : St} {g g' : Gh} {w : World} (he : σ'.ev = σ.ev) (hψ : g'.ψ = g.ψ) {k j : Nat} {t : T} {v : Value} (ht : t.fs = true) (h : CR σ g w (owC k j t) v) : CR σ' g' w (owC k j t) v := by
 cases t
 case sl => exact ⟨by rw [hψ]; exact h.1, by obtain ⟨x, h1, h2⟩ := h.2; exact ⟨x, by rw [he]; exact h1, h2⟩⟩
 all_goals exact zc0 (A := Fix σ g w) (w := w) ht h
theorem zit {σ σ' : St} {g g' : Gh} {w : World} (he : σ'.ev = σ.ev) (hψ : g'.ψ = g.ψ) {k : Nat} : ∀ {ts : List T} {j : Nat} {vs : List Value}, ts.all T.fs = true -> CRs σ g w (zhk k j ts) vs -> CRs σ' g' w (zhk k j ts) vs
 | [], _, _, _, h => h
 | t :: ts, j, vs, ht, h => by
  rw [List.all_cons, Bool.and_eq_true] at ht
  obtain ⟨v, vs', rfl, h1, h2⟩ := h
  exact ⟨v, vs', rfl, zk5 he hψ ht.1 h1, zit he hψ ht.2 h2⟩
theorem zhg (d : Nat) : ∀ (ts : List T) (j : Nat) (f : Nat -> Option Ev), (∀ e x, f e = some x -> x.deep = true /\ x.on = true) -> ∀ e x, owE d j ts f e = some x -> x.deep = true /\ x.on = true
 | [], _, f, h, e, x, hx => h e x hx
 | t :: ts, j, f, h, e, x, hx => zhg d ts (j + 1) _ (fun e x hx => by
   cases t <;> first | exact h e x hx | skip
   rename_i sz rows
   by_cases he : e = d * 32 + j
   ·subst he; simp only [zjj, zab, Option.some.injEq] at hx; subst hx; exact ⟨rfl, rfl⟩
   ·simp only [zjj, zae _ _ he] at hx; exact h e x hx) e x hx
theorem zc4 : ∀ (ds : List (Bool × D)) (k e : Nat) (x : Ev), zdj k ds e = some x -> x.deep = true /\ x.on = true
 | [], _, _, _, h => by cases h
 | (false, _) :: ds, k, e, x, h => zc4 ds (k + 1) e x h
 | (true, .one t) :: ds, k, e, x, h => zhg k [t] 0 _ (fun e x hx => zc4 ds (k + 1) e x hx) e x h
 | (true, .agg ts) :: ds, k, e, x, h => zhg k ts 0 _ (fun e x hx => zc4 ds (k + 1) e x hx) e x h
theorem zhy {w : World} {l : List AF} {bx : Bxs} {bs : Nat -> Nat} {bvs : List (List Value)} {dvs : List Value} {fp tp : List Nat} {A : Nat -> Prop} {N : Nat} (hinj : ∀ i j, i < bx.length -> j < bx.length -> bs i = bs j -> i = j) (hbf : ∀ j, j < bx.length -> bs j ∉ fp) (hbx : zl4 w bs 0 bvs bx)
  (hv : zao w (fun k => (k < w.heap.size /\ k ∉ fp /\ ∀ j, j < bx.length -> k ≠ bs j) /\ A k) (AF.ds l ++ bxA bx.flatten) (dvs ++ bvs.flatten) fp tp) (hn : fp.Nodup) (hl : dvs.length = (AF.ds l).length) (hj : AF.okJ bx.length l = true) (hN : l.length <= N) (hN2 : N <= 1000000) (hs : zay (AF.ds l ++ bxA bx.flatten)) (hfs : gFS (AF.ds l ++ bxA bx.flatten) = true)
  {ξ : Nat -> Value} (h1 : ∀ i, i < 1000000 -> ξ i = undef) (h2 : ∀ i b, ξ i ≠ .bool b) (h3 : ∀ j, j < bx.length -> ξ (1000000 + j) = zme (bs j)) :
  ∃ g, (g.A0, g.R0) = (fun b => A b \/ w.heap.size <= b \/ b ∈ fp \/ ∃ j, j < bx.length /\ b = bs j, ⟨fun b => b ∈ fp \/ w.heap.size <= b \/ ∃ j, j < bx.length /\ b = bs j, ξ, h1, h2⟩) ∧
   Rel (fun b => b < w.heap.size /\ b ∉ fp /\ ∀ j, j < bx.length -> b ≠ bs j) N (zdm l bx) g { tmps := (⟨AF.vals bs l dvs⟩ : Array Value) ++ Array.replicate (N - (AF.vals bs l dvs).length) undef, defers := [] } w := by
 have hv' : zao w (fun b => b < w.heap.size /\ (A b /\ ∀ j, j < bx.length -> b ≠ bs j) /\ b ∉ fp) (AF.ds l ++ bxA bx.flatten) (dvs ++ bvs.flatten) fp tp := zao.keepA (fun b hb => ⟨hb.1.1, ⟨hb.2, hb.1.2.2⟩, hb.1.2.1⟩) hv
 obtain ⟨g, hg, hR⟩ := Rel.start (N := (AF.ds l ++ bxA bx.flatten).length) (A0 := fun b => A b \/ w.heap.size <= b \/ b ∈ fp \/ ∃ j, j < bx.length /\ b = bs j) (R0 := ⟨fun b => b ∈ fp \/ w.heap.size <= b \/ ∃ j, j < bx.length /\ b = bs j, ξ, h1, h2⟩) hv' hn hs (Nat.le_refl _) (fun b hb => Or.inl hb.1) (fun b hb => ⟨Or.inr (Or.inr (Or.inl hb)), Or.inl hb⟩) (fun b hb => by
  by_cases hlt : b < w.heap.size
  ·have hm : b ∈ fp := Classical.byContradiction fun h => hb ⟨hlt, h⟩
   exact ⟨Or.inr (Or.inr (Or.inl hm)), Or.inl hm⟩
  ·exact ⟨Or.inr (Or.inl (by omega)), Or.inr (Or.inl (by omega))⟩)
 have hg1 : g.A0 = _ := (Prod.mk.inj hg).1
 have hg2 : g.R0 = _ := (Prod.mk.inj hg).2
 refine ⟨{ g with β := fun k => bs (k - 1000000) }, hg, ?_⟩
 have hlen : (dvs ++ bvs.flatten).length = (AF.ds l ++ bxA bx.flatten).length := zao.len hv
 have hbne : ∀ b, (zdm l bx).bx b ≠ none ↔ ∃ q, q < bx.length /\ b = 1000000 + q := fun b => by
  have := zhs bx 0 (AF.ds l).length b
  simp only [Nat.zero_add] at this
  exact this
 have hblt : ∀ q, q < bx.length -> bs q < w.heap.size := fun q hq => by have := hbx.lt q hq; rwa [Nat.zero_add] at this
 have hdeep : ∀ e x, (zdm l bx).ev e = some x -> x.deep = true /\ x.on = true := fun e x hx => zc4 _ _ e x hx
 have hφ : ∀ e, (zdm l bx).On e -> ∀ b ∈ g.φ e, ¬ (b < w.heap.size /\ b ∉ fp) := fun e he b hb => hR.etop e he b hb
 have hfree : ∀ b, ((b < w.heap.size /\ b ∉ fp /\ ∀ j, j < bx.length -> b ≠ bs j) /\ A b) -> zbw (zdm l bx) { g with β := fun k => bs (k - 1000000) } w b := fun b hb => by
  refine ⟨⟨fun k hk => ?_, fun e x hx ho hh => hφ e ⟨x, hx, ho⟩ b (List.mem_of_mem_head? hh) ⟨hb.1.1, hb.1.2.1⟩, hb.1.1, ?_⟩, fun e he hm => hφ e he b hm ⟨hb.1.1, hb.1.2.1⟩⟩
  ·obtain ⟨q, hq, rfl⟩ := (hbne k).1 hk
   show bs (1000000 + q - 1000000) ≠ b
   rw [show 1000000 + q - 1000000 = q by omega]
   exact fun e => hb.1.2.2 q hq e.symm
  ·show g.A0 b
   rw [hg1]
   exact Or.inl hb.2
 have hat : ∀ (i : Nat) d v, (AF.ds l ++ bxA bx.flatten)[i]? = some d -> (dvs ++ bvs.flatten)[i]? = some v -> VR (zdm l bx) { g with β := fun k => bs (k - 1000000) } w (gVN i d) v := fun i d v hd hv1 => by
  obtain ⟨b, d⟩ := d
  cases b with
  | false =>
   obtain ⟨u, e1, e2⟩ := zao.atR hv i d hd
   rw [e1] at hv1
   cases hv1
   exact zu1 hfree e2
  | true =>
   have h0 := hR.slots i
   have hj0 := zhf (AF.ds l ++ bxA bx.flatten) 0 i
   rw [Nat.zero_add, hd] at hj0
   have h0' : VR (zd6 (AF.ds l ++ bxA bx.flatten)) g w (zfy 0 (AF.ds l ++ bxA bx.flatten) i) _ := h0
   rw [hj0] at h0'
   have hlt : i < (dvs ++ bvs.flatten).length := (List.getElem?_eq_some_iff.1 hv1).1
   have e : ((⟨dvs ++ bvs.flatten⟩ : Array Value) ++ Array.replicate ((AF.ds l ++ bxA bx.flatten).length - (dvs ++ bvs.flatten).length) undef).getD i (g.R0.ξ i) = v := by
    rw [Array.getD_eq_getD_getElem?, Array.getElem?_append_left (by simpa using hlt)]
    simp only [List.getElem?_toArray, hv1, Option.getD_some]
   rw [e] at h0'
   have hf := zle hfs i d hd
   cases d with
   | one t => exact zk5 (σ := zd6 (AF.ds l ++ bxA bx.flatten)) (σ' := zdm l bx) (g := g) (g' := { g with β := fun k => bs (k - 1000000) }) rfl rfl hf h0'
   | agg ts => obtain ⟨a, e1, e2⟩ := h0'; exact ⟨a, e1, zit (σ := zd6 (AF.ds l ++ bxA bx.flatten)) (σ' := zdm l bx) (g := g) (g' := { g with β := fun k => bs (k - 1000000) }) rfl rfl hf e2⟩
 have hvl := AF.vals_len bs l dvs hl
 refine ⟨rfl, by simp; omega, fun b hb => ?_, fun i => ?_, fun b cs hb => ?_, fun b hb => ?_, fun b b' hb hb' he => ?_, fun e x he ho => ?_, fun e x he ho => ?_, hR.slc, fun e he b hb => ?_, fun e he b hb => ?_, fun e he => hR.nodup e he, fun e e' h1 h2 hne => hR.apart e e' h1 h2 hne, fun e k he hk hm => ?_⟩
 ·show g.A0 b /\ g.R0 b
  rw [hg1, hg2]
  show (A b \/ _) /\ (b ∈ fp \/ _)
  by_cases hlt : b < w.heap.size
  ·by_cases hm : b ∈ fp
   ·exact ⟨Or.inr (Or.inr (Or.inl hm)), Or.inl hm⟩
   ·have : ∃ j, j < bx.length /\ b = bs j := Classical.byContradiction fun hh => hb ⟨hlt, hm, fun j hj e => hh ⟨j, hj, e⟩⟩
    exact ⟨Or.inr (Or.inr (Or.inr this)), Or.inr (Or.inr this)⟩
  ·exact ⟨Or.inr (Or.inl (by omega)), Or.inr (Or.inl (by omega))⟩
 ·show VR _ _ _ (zep 0 bx (zbl 0 0 l) i) _
  rcases zh9 bx 0 (zbl 0 0 l) i with ⟨⟨q, h4, rfl⟩, h5⟩ | ⟨_, h5⟩
  ·rw [h5, Nat.zero_add, Array.getD_eq_getD_getElem?, Array.getElem?_eq_none (by simp; omega)]
   refine ⟨?_, (hbne _).2 ⟨q, h4, rfl⟩⟩
   show (none : Option Value).getD (g.R0.ξ (1000000 + q)) = .pointer (some ⟨bs (1000000 + q - 1000000), 0, none⟩)
   rw [hg2, show 1000000 + q - 1000000 = q by omega]
   exact h3 q h4
  ·rw [h5]
   by_cases hi : i < l.length
   ·obtain ⟨u, e1, e2⟩ := zdv (σ := zdm l bx) (g := { g with β := fun k => bs (k - 1000000) }) (w := w) (bs := bs) (n := bx.length) (fun j hj => ⟨(hbne _).2 ⟨j, hj, rfl⟩, by show bs (1000000 + j - 1000000) = bs j; rw [show 1000000 + j - 1000000 = j by omega]⟩) l 0 0 dvs hj hl (fun i d v e1 e2 => by
     rw [Nat.zero_add]
     exact hat i d v (by rw [List.getElem?_append_left (List.getElem?_eq_some_iff.1 e1).1]; exact e1) (by rw [List.getElem?_append_left (List.getElem?_eq_some_iff.1 e2).1]; exact e2)) i hi
    rw [Nat.zero_add] at e2
    rw [Array.getD_eq_getD_getElem?, Array.getElem?_append_left (by simp; omega)]
    simp only [List.getElem?_toArray, e1, Option.getD_some]
    exact e2
   ·have := zc2 l 0 0 i (by omega)
    rw [Nat.zero_add] at this
    rw [this]
    trivial
 ·obtain ⟨q, vs, ty, k1, k2, k3, k4⟩ := zi8 (σ := zdm l bx) (g := { g with β := fun k => bs (k - 1000000) }) bx bvs 0 (AF.ds l).length hbx (fun i p v e1 e2 => by
   have := hat ((AF.ds l).length + i) (p.1, .one p.2) v (by rw [List.getElem?_append_right (by omega), show (AF.ds l).length + i - (AF.ds l).length = i by omega]; unfold bxA; rw [List.getElem?_map, e1]; rfl) (by rw [List.getElem?_append_right (by omega), show (AF.ds l).length + i - dvs.length = i by omega]; exact e2)
   rw [zwo] at this
   exact this) b cs hb
  rw [Nat.zero_add] at k2 k3
  subst k2
  exact ⟨⟨vs⟩, ty, by show w.heap[bs (1000000 + q - 1000000)]? = _; rw [show 1000000 + q - 1000000 = q by omega]; exact k3, k4⟩
 ·obtain ⟨q, hq, rfl⟩ := (hbne b).1 hb
  intro h
  have h := h.2.2 q hq
  exact h (show bs (1000000 + q - 1000000) = bs q by rw [show 1000000 + q - 1000000 = q by omega])
 ·obtain ⟨q, hq, rfl⟩ := (hbne b).1 hb
  obtain ⟨q', hq', rfl⟩ := (hbne b').1 hb'
  have he : bs (1000000 + q - 1000000) = bs (1000000 + q' - 1000000) := he
  rw [show 1000000 + q - 1000000 = q by omega, show 1000000 + q' - 1000000 = q' by omega] at he
  rw [hinj q q' hq hq' he]
 ·obtain ⟨ao, cap, e1, e2, e3, e4⟩ := hR.evs e x he ho
  refine ⟨ao, cap, e1, e2, e3, ?_⟩
  rcases e4 with e4 | ⟨b, cells, ty, fps, j1, j2, j3, j4, j5⟩
  ·exact Or.inl e4
  ·rw [if_pos (hdeep e x he).1] at j5
   exact Or.inr ⟨b, cells, ty, fps, j1, j2, j3, j4, by rw [if_pos (hdeep e x he).1]; exact j5⟩
 ·rw [(hdeep e x he).2] at ho; cases ho
 ·exact hR.ebase e he b hb
 ·exact fun h => hφ e he b hb ⟨h.1, h.2.1⟩
 ·obtain ⟨q, hq, rfl⟩ := (hbne k).1 hk
  have hm : bs (1000000 + q - 1000000) ∈ g.φ e := hm
  rw [show 1000000 + q - 1000000 = q by omega] at hm
  exact hφ e he _ hm ⟨hblt q hq, hbf q hq⟩
def bxE (σ : St) : Nat -> Bxs -> (List V -> Prop) -> Prop
 | _, [], K => K []
 | j, b :: bs, K => σ.sl (1000000 + j) = .one (.bx (1000000 + j) 0) /\ zan (σ.bx (1000000 + j)) fun cs => cs.length = b.length /\ bxE σ (j + 1) bs fun vs => K (cs.map .one ++ vs)
theorem CRs.ones {σ : St} {g : Gh} {w : World} : ∀ {cs : List C} {vs : List Value}, CRs σ g w cs vs -> VRl σ g w (cs.map .one) vs
 | [], _, h => h
 | c :: cs, _, h => by obtain ⟨v, vs', rfl, h1, h2⟩ := h; exact ⟨v, vs', rfl, h1, CRs.ones h2⟩
theorem zfo {n0 : Nat -> Prop} {N : Nat} {σ : St} {g : Gh} {a : Act} {w : World} {bs : Nat -> Nat} (hR : Rel n0 N σ g a w) (hN : N <= 1000000) : ∀ {bx : Bxs} {j : Nat} {K : List V -> Prop}, (∀ q, q < bx.length -> g.R0.ξ (1000000 + (j + q)) = zme (bs (j + q))) -> bxE σ j bx K →
  ∃ vs bvs, K vs /\ zl4 w bs j bvs bx /\ VRl σ g w vs bvs.flatten /\ ∀ q, q < bx.length -> σ.bx (1000000 + (j + q)) ≠ none /\ g.β (1000000 + (j + q)) = bs (j + q)
 | [], j, K, _, h => ⟨[], [], h, trivial, rfl, fun q hq => by simp at hq⟩
 | b :: bx, j, K, hξ, h => by
  obtain ⟨h1, h2⟩ := h
  obtain ⟨cs, h3, h4, h5⟩ := zai h2
  obtain ⟨vs, bvs, k1, k2, k3, k4⟩ := zfo hR hN (bx := bx) (j := j + 1) (fun q hq => by have := hξ (q + 1) (by simpa using hq); rw [show j + (q + 1) = j + 1 + q by omega] at this; exact this) h5
  have h0 := hR.slots (1000000 + j)
  rw [h1, Array.getD_eq_getD_getElem?, Array.getElem?_eq_none (by rw [hR.size]; omega)] at h0
  have hx := hξ 0 (by simp)
  rw [Nat.add_zero] at hx
  have h0 : CR σ g w (.bx (1000000 + j) 0) (g.R0.ξ (1000000 + j)) := h0
  rw [hx] at h0
  have hβ : g.β (1000000 + j) = bs j := by
   have := h0.1
   unfold zme at this
   simp only [Value.pointer.injEq, Option.some.injEq] at this
   injection this with e
   exact e.symm
  obtain ⟨us, ty, j1, j2⟩ := hR.boxes _ cs h3
  rw [hβ] at j1
  refine ⟨_, us.toList :: bvs, k1, ⟨by rw [j2.len, h4], ⟨ty, j1⟩, k2⟩, VRl.append j2.ones k3, fun q hq => ?_⟩
  cases q with
  | zero => exact ⟨h0.2, hβ⟩
  | succ q => rw [show j + (q + 1) = j + 1 + q by omega]; exact k4 q (by simpa using hq)
def PB0 (P : Program) (rs : List ResultVar) (res : List (Bool × D)) (bx : Bxs) (pl : List (Nat × Nat × Nat)) (σ : St) : Prop := zan (zbm P σ rs) fun vs => bxE σ 0 bx fun cs => gvA σ (fun _ => True) [] pl (vs ++ cs) (res ++ bxA bx.flatten)
def PB (P : Program) (rs : List ResultVar) (res : List (Bool × D)) (bx : Bxs) (e : Exit) (σ : St) : Prop := match e with
 | .normal => PB0 P rs res bx [] σ \/ ∃ pl, PB0 P rs res bx pl σ
 | .ret => PB0 P rs res bx [] σ \/ ∃ pl, PB0 P rs res bx pl σ
 | _ => False
theorem zdc {σ : St} : ∀ {rs : List ResultVar} {vs : List V}, zbm P σ rs = some vs -> vs.length = rs.length
 | [], vs, h => by cases h; rfl
 | r :: rs, vs, h => by
  unfold zbm at h
  cases h1 : zmv P σ r with
  | none => rw [h1] at h; cases h
  | some v =>
   rw [h1] at h
   simp only [Option.bind_some] at h
   cases h2 : zbm P σ rs with
   | none => rw [h2] at h; cases h
   | some us => rw [h2] at h; cases h; simp [zdc h2]
theorem VRl.len {σ : St} {g : Gh} {w : World} : ∀ {xs : List V} {vs : List Value}, VRl σ g w xs vs -> vs.length = xs.length
 | [], _, h => by rw [show _ = [] from h]; rfl
 | x :: xs, _, h => by obtain ⟨v, vs', rfl, _, h2⟩ := h; simp [VRl.len h2]
theorem zcs {f : FuncId} {fn : Func} {c : Code} {bx bx' : Bxs} {l : List AF} {res : List (Bool × D)} (hc : zbd P f) (hf : P.funcs[f]? = some fn) (hb : fn.body = some c) (hd : zbz fn.ntmps c = true) (hN : l.length <= fn.ntmps) (hN2 : fn.ntmps <= 1000000) (hbl : bx'.length = bx.length) (hj : AF.okJ bx.length l = true) (hs : zay (AF.ds l ++ bxA bx.flatten)) (hfs : gFS (AF.ds l ++ bxA bx.flatten) = true) (hrl : fn.results.toList.length = res.length)
  (h : ex P c [] (PB P fn.results.toList res bx') (zdm l bx)) : PC P f bx l bx' res := by
 refine ⟨hc, hbl, fun w bs bvs dvs fp tp A hinj hbf hbx hv hn hl => ?_⟩
 refine calls_of_wp hf hb ?_
 obtain ⟨g, hg, hR⟩ := zhy (N := fn.ntmps) hinj hbf hbx hv hn hl hj hN hN2 hs hfs (ξ := fun i => if 1000000 <= i then zme (bs (i - 1000000)) else undef) (fun i hi => if_neg (by omega)) (fun i b => by
  by_cases h : 1000000 <= i
  ·rw [if_pos h]; exact fun e => by cases e
  ·rw [if_neg h]; exact fun e => by cases e) (fun j hj => by
  rw [if_pos (by omega), show 1000000 + j - 1000000 = j by omega])
 refine wp_mono (za7 (w0 := w) c (zdm l bx) _ hd h g _ w hR (fun k hk => hk.1) (Bk.refl _ _) hg) fun e a' w' hq => ?_
 obtain ⟨σ', g', h1, h2, h3, h4, h5⟩ := hq
 have hξ : ∀ q, q < bx'.length -> g'.R0.ξ (1000000 + (0 + q)) = zme (bs (0 + q)) := fun q hq => by
  rw [(Prod.mk.inj h5).2, Nat.zero_add]
  show (if 1000000 <= 1000000 + q then zme (bs (1000000 + q - 1000000)) else undef) = _
  rw [if_pos (by omega), show 1000000 + q - 1000000 = q by omega]
 have key : (∃ pl, PB0 P fn.results.toList res bx' pl σ') -> ∃ v, (results fn a'.tmps).run P w' = .ok v w' /\ ∃ us bvs' fp' tp', Ending.returned v = .returned (zb1 us) /\ zl4 w' bs 0 bvs' bx' /\ us.length = res.length ∧
   zao w' (fun k => (k < w'.heap.size /\ k ∉ fp' /\ ∀ j, j < bx.length -> k ≠ bs j) /\ (A k \/ w.heap.size <= k \/ k ∈ fp)) (res ++ bxA bx'.flatten) (us ++ bvs'.flatten) fp' tp' /\ fp'.Nodup /\ (∀ b ∈ fp', b ∈ fp \/ w.heap.size <= b) /\ Bk (fun k => k < w.heap.size /\ k ∉ fp /\ ∀ j, j < bx.length -> k ≠ bs j) w w' := by
  rintro ⟨pl, hk⟩
  obtain ⟨vs, hvs, hk⟩ := zai hk
  obtain ⟨us, r1, r2⟩ := zby h2 fn hvs
  obtain ⟨cs, bvs', k0, b1, b2, b3⟩ := zfo (bs := bs) h2 hN2 hξ hk
  obtain ⟨B, hB⟩ := h2.fam
  obtain ⟨s, k1, ⟨tp', k2⟩, k3, k4⟩ := zc1 h2 hB k0 (VRl.append r2 b2)
  rw [List.append_nil] at k4
  have hsp : s.Pairwise okP := (List.pairwise_reverse.1 (k4 List.Pairwise.nil)).imp fun h => h.symm
  have hin : ∀ b ∈ bks B s, ∃ e, σ'.On e /\ b ∈ g'.φ e := fun b hb => by
   obtain ⟨x, hx, hm⟩ := List.mem_flatMap.1 hb
   exact ⟨x.1, k3 x hx, hB.sub x.1 x.2 b (k3 x hx) hm⟩
  have hbβ : ∀ j, j < bx.length -> σ'.bx (1000000 + j) ≠ none /\ g'.β (1000000 + j) = bs j := fun j hj => by
   have := b3 j (by omega)
   rwa [Nat.zero_add] at this
  have hA : ∀ b, zbw σ' g' w' b -> (b < w'.heap.size /\ b ∉ bks B s /\ ∀ j, j < bx.length -> b ≠ bs j) /\ (A b \/ w.heap.size <= b \/ b ∈ fp) := fun b hb => by
   have hnb : ∀ j, j < bx.length -> b ≠ bs j := fun j hj e => hb.1.1 _ (hbβ j hj).1 (by rw [(hbβ j hj).2, e])
   refine ⟨⟨hb.1.2.2.1, fun hm => ?_, hnb⟩, ?_⟩
   ·obtain ⟨e, ho, hm⟩ := hin b hm
    exact hb.2 e ho hm
   ·have h0 := hb.1.2.2.2
    rw [(Prod.mk.inj h5).1] at h0
    rcases h0 with h0 | h0 | h0 | ⟨j, hj, h0⟩
    ·exact Or.inl h0
    ·exact Or.inr (Or.inl h0)
    ·exact Or.inr (Or.inr h0)
    ·exact absurd h0 (hnb j hj)
  refine ⟨_, r1, us, bvs', bks B s, tp', rfl, b1, by rw [r2.len, <- hrl]; exact zdc hvs, zao.keepA hA k2, zcv h2 hB k3 hsp, fun b hb => ?_, h4⟩
  obtain ⟨e, ho, hm⟩ := hin b hb
  have h0 := (h2.ebase e ho b hm).2
  rw [(Prod.mk.inj h5).2] at h0
  rcases h0 with h0 | h0 | ⟨j, hj, h0⟩
  ·exact Or.inl h0
  ·exact Or.inr h0
  ·have := h2.ebx e _ ho (hbβ j hj).1
   rw [(hbβ j hj).2] at this
   exact absurd (h0 ▸ hm) this
 have key' : ∀ {Y : Prop}, (PB0 P fn.results.toList res bx' [] σ' \/ ∃ pl, PB0 P fn.results.toList res bx' pl σ') -> ((∃ pl, PB0 P fn.results.toList res bx' pl σ') -> Y) -> Y := fun h k => h.elim (fun h => k ⟨[], h⟩) k
 cases e with
 | normal => exact ⟨h2.defers, key' h1 key⟩
 | ret => exact ⟨h2.defers, key' h1 key⟩
 | exit _ => exact h1.elim
 | goto _ => exact h1.elim
 | panic _ => exact h1.elim
 | outgrown => exact h1.elim
end Go.Proofs.Yteeaofpphmhjdaa
namespace Go.Proofs.Yteeaofpphmhjdaa
set_option linter.unusedSimpArgs false
set_option linter.unusedVariables false
set_option linter.unusedSectionVars false
set_option maxRecDepth 4000
open Go.RowKit
variable {P : Program}
structure KeptB (W : List Nat) (σ τ : St) : Prop where
 sl : ∀ i, τ.sl i = .one .any \/ (τ.sl i = σ.sl i /\ (τ.sl i).okU τ)
 bx : ∀ b cs, b ∉ W -> τ.bx b = some cs -> σ.bx b = some cs /\ zuu τ cs
 bxW : ∀ b ∈ W, σ.bx b ≠ none /\ τ.bx b ≠ none
 ev : ∀ e x, τ.ev e = some x -> σ.ev e = some x /\ x.on = true /\ x.deep = true
theorem Rel.givenB {W : List Nat} {n0 : Nat -> Prop} {N : Nat} {σ τ : St} {g g' : Gh} {a : Act} {w w' : World} (hR : Rel n0 N σ g a w) (hn0 : LtK n0 w) (hK : KeptB W σ τ) {fp : List Nat} (hfp : ∀ b ∈ fp, ∃ e, σ.On e /\ τ.ev e = none /\ b ∈ g.φ e) (hbk : Bk (fun k => k < w.heap.size /\ k ∉ fp /\ ∀ b ∈ W, k ≠ g.β b) w w')
  {ev' : Nat -> Option Ev} {F : List Nat} (hn : New τ g (fun b => b ∈ fp \/ w.heap.size <= b) w' ev' g' F) (hW : ∀ b ∈ W, ∀ cs, τ.bx b = some cs -> ∃ vs ty, w'.heap[g.β b]? = some (.cells vs ty (0, 0)) /\ CRs ⟨τ.sl, τ.bx, ev'⟩ g' w' cs vs.toList) : Rel n0 N ⟨τ.sl, τ.bx, ev'⟩ g' a w' := by
 have hOnσ : ∀ e, τ.On e -> σ.On e := fun e ⟨x, hx, ho⟩ => ⟨x, (hK.ev e x hx).1, ho⟩
 have hlt : ∀ e, σ.On e -> ∀ b ∈ g.φ e, b < w.heap.size := fun e ⟨x, hx, ho⟩ => (hR.evs e x hx ho).lt
 have hbne : ∀ b, τ.bx b ≠ none -> σ.bx b ≠ none := fun b hb => by
  by_cases hbW : b ∈ W
  ·exact (hK.bxW b hbW).1
  obtain ⟨cs, hcs⟩ := Option.ne_none_iff_exists'.1 hb
  rw [(hK.bx b cs hbW hcs).1]; simp
 have hfR : ∀ b ∈ fp, g.A0 b /\ g.R0 b /\ ¬ n0 b := fun b hb => by
  obtain ⟨e, ho, _, hm⟩ := hfp b hb
  obtain ⟨k1, k2⟩ := hR.ebase e ho b hm
  exact ⟨k1, k2, hR.etop e ho b hm⟩
 have hNB : ∀ b, (b ∈ fp \/ w.heap.size <= b) -> g.A0 b /\ g.R0 b /\ ¬ n0 b := fun b hb => by
  rcases hb with hb | hb
  ·exact hfR b hb
  ·have hnn := hn0.new hb
   exact ⟨(hR.anew b hnn).1, (hR.anew b hnn).2, hnn⟩
 have hβfp : ∀ b, τ.bx b ≠ none -> ¬ (g.β b ∈ fp \/ w.heap.size <= g.β b) := fun b hb h => by
  rcases h with h | h
  ·obtain ⟨e, ho, _, hm⟩ := hfp _ h
   exact hR.ebx e b ho (hbne b hb) hm
  ·have := hR.lt (hbne b hb); omega
 have hφfp : ∀ e, τ.On e -> ∀ b ∈ g.φ e, ¬ (b ∈ fp \/ w.heap.size <= b) := fun e ho b hb h => by
  rcases h with h | h
  ·obtain ⟨e', ho', hno, hm⟩ := hfp b h
   refine hR.apart e e' (hOnσ e ho) ho' (fun hee => ?_) b hb hm
   subst hee
   obtain ⟨x, hx, _⟩ := ho
   rw [hx] at hno; cases hno
  ·have := hlt e (hOnσ e ho) b hb; omega
 have hon : ∀ e, St.On ⟨τ.sl, τ.bx, ev'⟩ e -> τ.ev e ≠ none -> τ.On e := fun e ⟨x, hx, ho⟩ hee => ⟨x, (hn.old e hee).1.symm.trans hx, ho⟩
 have hkeep : ∀ b, b < w.heap.size -> b ∉ fp -> (∀ k ∈ W, b ≠ g.β k) -> w'.heap[b]? = w.heap[b]? := fun b h1 h2 h3 => hbk.block b ⟨h1, h2, h3⟩
 have hrn : ∀ b, zbw σ g w b -> w'.heap[b]? = w.heap[b]? /\ zbw ⟨τ.sl, τ.bx, ev'⟩ g' w' b := fun b hb => by
  obtain ⟨hf, hr⟩ := hb
  have hnb : ∀ e, St.On ⟨τ.sl, τ.bx, ev'⟩ e -> b ∉ g'.φ e := fun e ho hm => by
   by_cases hee : τ.ev e = none
   ·obtain ⟨x, hx, _⟩ := ho
    rcases ((hn.new e x hee hx).2.2.1 b hm).1 with h | h
    ·obtain ⟨e', ho', _, hm'⟩ := hfp b h
     exact hr e' ho' hm'
    ·have := hf.2.2.1; omega
   ·rw [(hn.old e hee).2.2] at hm
    exact hr e (hOnσ e (hon e ho hee)) hm
  refine ⟨hkeep b hf.2.2.1 (fun hm => by obtain ⟨e', ho', _, hm'⟩ := hfp b hm; exact hr e' ho' hm') (fun k hk e => hf.1 k (hK.bxW k hk).1 e.symm), ⟨fun k hk => by rw [hn.β]; exact hf.1 k (hbne k hk), fun e x hx hon' hh => hnb e ⟨x, hx, hon'⟩ (List.mem_of_mem_head? hh), Nat.lt_of_lt_of_le hf.2.2.1 hbk.size, by rw [hn.A0]; exact hf.2.2.2⟩, hnb⟩
 have hψ : ∀ e, τ.ev e ≠ none -> ev' e = τ.ev e /\ g'.ψ e = g.ψ e := fun e he => ⟨(hn.old e he).1, (hn.old e he).2.1⟩
 refine ⟨by rw [hR.defers], hR.size, by rw [hn.A0, hn.R0]; exact hR.anew, fun i => ?_, fun b cs hb => ?_, fun b hb => by rw [hn.β]; exact hR.base b (hbne b hb), fun b b' h1 h2 h3 => by rw [hn.β] at h3; exact hR.inj b b' (hbne b h1) (hbne b' h2) h3, fun e x he ho => ?_, fun e x he ho => ?_, hn.slc, fun e he b hb => ?_, fun e he b hb => ?_, fun e he => ?_, fun e e' h1 h2 hne b hb1 hb2 => ?_, fun e k he hk hm => ?_⟩
 ·rcases hK.sl i with h | ⟨h, hok⟩
  ·rw [show (⟨τ.sl, τ.bx, ev'⟩ : St).sl i = .one .any from h]; trivial
  ·rw [hn.R0]
   show VR _ g' w' (τ.sl i) _
   have hs := hR.slots i
   rw [<- h] at hs
   exact okU_vr hn.β hψ hrn hok hs
 ·by_cases hbW : b ∈ W
  ·rw [hn.β]; exact hW b hbW cs hb
  obtain ⟨hb1, hb2⟩ := hK.bx b cs hbW hb
  obtain ⟨vs, ty, k1, k2⟩ := hR.boxes b cs hb1
  have hne : τ.bx b ≠ none := by rw [show τ.bx b = some cs from hb]; simp
  have hnf := hβfp b hne
  exact ⟨vs, ty, by rw [hn.β, hkeep _ (hR.lt (hbne b hne)) (fun h => hnf (Or.inl h)) (fun k hk e => hbW (hR.inj b k (hbne b hne) (hK.bxW k hk).1 e ▸ hk))]; exact k1, zg1 hn.β hψ hrn hb2 k2⟩
 ·by_cases hee : τ.ev e = none
  ·obtain ⟨⟨k1, _, k0⟩, k2, k3, k4⟩ := hn.new e x hee he
   rw [k0]
   unfold zaq at k2
   obtain ⟨ao, cap, j1, j2, j3, j4⟩ := k2
   refine ⟨ao, cap, j1, j2, j3, ?_⟩
   rcases j4 with j4 | ⟨b, cells, ty, fps, j4, j5, j6, j7, j8⟩
   ·exact Or.inl j4
   ·exact Or.inr ⟨b, cells, ty, fps, j4, j5, j6, j7, by rw [if_pos k1]; exact j8⟩
  ·obtain ⟨o1, o2, o3⟩ := hn.old e hee
   have hx : τ.ev e = some x := o1.symm.trans he
   obtain ⟨k1, k2, k3⟩ := hK.ev e x hx
   have hE := hR.evs e x k1 k2
   have hno := hφfp e ⟨x, hx, k2⟩
   have hl := hlt e ⟨x, k1, k2⟩
   have hkp : ∀ b ∈ g.φ e, w'.heap[b]? = w.heap[b]? := fun b hb => hkeep b (hl b hb) (fun h => hno b hb (Or.inl h)) fun k' hk' e => hR.ebx _ k' ⟨x, k1, k2⟩ (hK.bxW k' hk').1 (e ▸ hb)
   rw [o2, o3]
   obtain ⟨ao, cap, r1, r2, r3, r4⟩ := hE
   refine ⟨ao, cap, r1, r2, r3, ?_⟩
   rcases r4 with r4 | ⟨b, cells, ty, fps, r4, r5, r6, r7, r8⟩
   ·exact Or.inl r4
   ·rw [if_pos k3] at r8
    exact Or.inr ⟨b, cells, ty, fps, r4, r5, by rw [hkp b (by rw [r5]; simp)]; exact r6, r7, by rw [if_pos k3]; exact zad.keep cells 0 x.sz x.rows fps r8 fun b' hb' => hkp b' (by rw [r5]; simp [hb'])⟩
 ·by_cases hee : τ.ev e = none
  ·rw [(hn.new e x hee he).1.2.1] at ho; cases ho
  ·have hx : τ.ev e = some x := (hn.old e hee).1.symm.trans he
   rw [(hK.ev e x hx).2.1] at ho; cases ho
 ·rw [hn.A0, hn.R0]
  by_cases hee : τ.ev e = none
  ·obtain ⟨x, hx, _⟩ := he
   have := hNB b ((hn.new e x hee hx).2.2.1 b hb).1
   exact ⟨this.1, this.2.1⟩
  ·rw [(hn.old e hee).2.2] at hb
   exact hR.ebase e (hOnσ e (hon e he hee)) b hb
 ·by_cases hee : τ.ev e = none
  ·obtain ⟨x, hx, _⟩ := he
   exact (hNB b ((hn.new e x hee hx).2.2.1 b hb).1).2.2
  ·rw [(hn.old e hee).2.2] at hb
   exact hR.etop e (hOnσ e (hon e he hee)) b hb
 ·by_cases hee : τ.ev e = none
  ·obtain ⟨x, hx, _⟩ := he
   exact (hn.new e x hee hx).2.2.2
  ·rw [(hn.old e hee).2.2]
   exact hR.nodup e (hOnσ e (hon e he hee))
 ·by_cases hee : τ.ev e = none
  ·obtain ⟨x, hx, _⟩ := h1
   by_cases hee' : τ.ev e' = none
   ·obtain ⟨x', hx', _⟩ := h2
    exact hn.apart e e' hee hee' (by rw [show ev' e = some x from hx]; simp) (by rw [show ev' e' = some x' from hx']; simp) hne b hb1 hb2
   ·rw [(hn.old e' hee').2.2] at hb2
    exact hφfp e' (hon e' h2 hee') b hb2 ((hn.new e x hee hx).2.2.1 b hb1).1
  ·rw [(hn.old e hee).2.2] at hb1
   by_cases hee' : τ.ev e' = none
   ·obtain ⟨x', hx', _⟩ := h2
    exact hφfp e (hon e h1 hee) b hb1 ((hn.new e' x' hee' hx').2.2.1 b hb2).1
   ·rw [(hn.old e' hee').2.2] at hb2
    exact hR.apart e e' (hOnσ e (hon e h1 hee)) (hOnσ e' (hon e' h2 hee')) hne b hb1 hb2
 ·rw [hn.β] at hm
  by_cases hee : τ.ev e = none
  ·obtain ⟨x, hx, _⟩ := he
   exact hβfp k hk ((hn.new e x hee hx).2.2.1 _ hm).1
  ·rw [(hn.old e hee).2.2] at hm
   exact hR.ebx e k (hOnσ e (hon e he hee)) (hbne k hk) hm
def mtK (W : List Nat) : List AF -> List V -> (List V -> Prop) -> Prop
 | [], [], K => K []
 | .d _ _ :: l, v :: vs, K => mtK W l vs fun u => K (v :: u)
 | .p j :: l, .one (.bx b o) :: vs, K => W[j]? = some b /\ o = 0 /\ mtK W l vs K
 | .fn g js :: l, .one (.fn g' bs) :: vs, K => g' = g /\ js.map (fun j => W[j]?) = bs.map some /\ mtK W l vs K
 | _, _, _ => False
theorem zpp {g : Gh} {W : List Nat} {bs : Nat -> Nat} (hb : ∀ j b, W[j]? = some b -> bs j = g.β b) : ∀ (js bs' : List Nat), js.map (fun j => W[j]?) = bs'.map some -> bs'.map (fun b => Value.pointer (some ⟨g.β b, 0, none⟩)) = js.map fun j => zme (bs j)
 | [], [], _ => rfl
 | [], _ :: _, e => by cases e
 | _ :: _, [], e => by cases e
 | j :: js, b :: bs', e => by
  simp only [List.map_cons, List.cons.injEq] at e
  rw [List.map_cons, List.map_cons, zpp hb js bs' e.2, hb j b e.1]
  rfl
theorem zdr {σ : St} {g : Gh} {w : World} {W : List Nat} {bs : Nat -> Nat} (hb : ∀ j b, W[j]? = some b -> bs j = g.β b) : ∀ {l : List AF} {xs : List V} {K : List V -> Prop} {vs : List Value}, mtK W l xs K -> VRl σ g w xs vs →
  ∃ us dvs, K us /\ VRl σ g w us dvs /\ dvs.length = (AF.ds l).length /\ vs = AF.vals bs l dvs
 | [], [], K, vs, h, hv => ⟨[], [], h, rfl, rfl, hv⟩
 | .d _ _ :: l, x :: xs, K, vs, h, hv => by
  obtain ⟨v, vs', rfl, h1, h2⟩ := hv
  obtain ⟨us, dvs, k1, k2, k3, k4⟩ := zdr hb (l := l) h h2
  exact ⟨x :: us, v :: dvs, k1, ⟨v, dvs, rfl, h1, k2⟩, by simp [AF.ds, k3], by rw [k4]; rfl⟩
 | .p j :: l, .one (.bx b o) :: xs, K, vs, h, hv => by
  obtain ⟨v, vs', rfl, h1, h2⟩ := hv
  obtain ⟨e1, rfl, h⟩ := h
  obtain ⟨us, dvs, k1, k2, k3, k4⟩ := zdr hb (l := l) h h2
  refine ⟨us, dvs, k1, k2, k3, ?_⟩
  have h1 : CR σ g w (.bx b 0) v := h1
  rw [k4, h1.1, <- hb j b e1]
  rfl
 | .fn f js :: l, .one (.fn f' bs') :: xs, K, vs, h, hv => by
  obtain ⟨v, vs', rfl, h1, h2⟩ := hv
  obtain ⟨rfl, e1, h⟩ := h
  obtain ⟨us, dvs, k1, k2, k3, k4⟩ := zdr hb (l := l) h h2
  refine ⟨us, dvs, k1, k2, k3, ?_⟩
  have h1 : CR σ g w (.fn f' bs') v := h1
  rw [k4, h1.1]
  rw [zpp hb js bs' e1]
  rfl
 | .d _ _ :: _, [], _, _, h, _ => h.elim
 | .p _ :: _, [], _, _, h, _ => h.elim
 | .fn _ _ :: _, [], _, _, h, _ => h.elim
 | [], _ :: _, _, _, h, _ => h.elim
 | .p _ :: _, .agg _ :: _, _, _, h, _ => h.elim
 | .p _ :: _, .tup _ :: _, _, _, h, _ => h.elim
 | .fn _ _ :: _, .agg _ :: _, _, _, h, _ => h.elim
 | .fn _ _ :: _, .tup _ :: _, _, _, h, _ => h.elim
 | .p _ :: _, .one (.t _) :: _, _, _, h, _ => h.elim
 | .p _ :: _, .one (.nl _) :: _, _, _, h, _ => h.elim
 | .p _ :: _, .one (.ow _ _) :: _, _, _, h, _ => h.elim
 | .p _ :: _, .one (.el _ _) :: _, _, _, h, _ => h.elim
 | .p _ :: _, .one (.eo _ _ _ _ _) :: _, _, _, h, _ => h.elim
 | .p _ :: _, .one (.fn _ _) :: _, _, _, h, _ => h.elim
 | .p _ :: _, .one (.cv _) :: _, _, _, h, _ => h.elim
 | .p _ :: _, .one .any :: _, _, _, h, _ => h.elim
 | .p _ :: _, .one (.rn _) :: _, _, _, h, _ => h.elim
 | .p _ :: _, .one (.er _ _) :: _, _, _, h, _ => h.elim
 | .fn _ _ :: _, .one (.t _) :: _, _, _, h, _ => h.elim
 | .fn _ _ :: _, .one (.nl _) :: _, _, _, h, _ => h.elim
 | .fn _ _ :: _, .one (.ow _ _) :: _, _, _, h, _ => h.elim
 | .fn _ _ :: _, .one (.el _ _) :: _, _, _, h, _ => h.elim
 | .fn _ _ :: _, .one (.eo _ _ _ _ _) :: _, _, _, h, _ => h.elim
 | .fn _ _ :: _, .one (.bx _ _) :: _, _, _, h, _ => h.elim
 | .fn _ _ :: _, .one (.cv _) :: _, _, _, h, _ => h.elim
 | .fn _ _ :: _, .one .any :: _, _, _, h, _ => h.elim
 | .fn _ _ :: _, .one (.rn _) :: _, _, _, h, _ => h.elim
 | .fn _ _ :: _, .one (.er _ _) :: _, _, _, h, _ => h.elim
def zvi (σ : St) : List Nat -> Bxs -> (List V -> Prop) -> Prop
 | [], [], K => K []
 | k :: W, b :: bx, K => zan (σ.bx k) fun cs => cs.length = b.length /\ zvi σ W bx fun l => K (cs.map .one ++ l)
 | _, _, _ => False
theorem zf5 {n0 : Nat -> Prop} {N : Nat} {σ : St} {g : Gh} {a : Act} {w : World} (hR : Rel n0 N σ g a w) {bs : Nat -> Nat} : ∀ {W : List Nat} {bx : Bxs} {j : Nat} {K : List V -> Prop}, (∀ i b, W[i]? = some b -> bs (j + i) = g.β b) -> zvi σ W bx K →
  ∃ l bvs, K l /\ VRl σ g w l bvs.flatten /\ zl4 w bs j bvs bx /\ W.length = bx.length /\ ∀ b ∈ W, σ.bx b ≠ none
 | [], [], j, K, _, h => ⟨[], [], h, rfl, trivial, rfl, fun b hb => by simp at hb⟩
 | k :: W, b :: bx, j, K, hb, h => by
  obtain ⟨cs, h1, h2, h3⟩ := zai h
  obtain ⟨l, bvs, k1, k2, k3, k4, k5⟩ := zf5 hR (W := W) (bx := bx) (j := j + 1) (fun i b hi => by have := hb (i + 1) b (by simpa using hi); rw [show j + (i + 1) = j + 1 + i by omega] at this; exact this) h3
  obtain ⟨us, ty, j1, j2⟩ := hR.boxes k cs h1
  have hk := hb 0 k rfl
  rw [Nat.add_zero] at hk
  refine ⟨_, us.toList :: bvs, k1, VRl.append j2.ones k2, ⟨by rw [j2.len, h2], ⟨ty, by rw [hk]; exact j1⟩, k3⟩, by simp [k4], fun x hx => ?_⟩
  rcases List.mem_cons.1 hx with rfl | hx
  ·rw [h1]; simp
  ·exact k5 x hx
 | [], _ :: _, _, _, _, h => h.elim
 | _ :: _, [], _, _, _, h => h.elim
theorem zpk {σ : St} {K K' : List V -> Prop} (hK : ∀ l, K l -> K' l) : ∀ {W : List Nat} {bx : Bxs}, zvi σ W bx K -> zvi σ W bx K' := fun {W} => by
 induction W generalizing K K' with
 | nil => intro bx h; cases bx with
  | nil => exact hK _ h
  | cons _ _ => exact h.elim
 | cons k W ih => intro bx h; cases bx with
  | nil => exact h.elim
  | cons b bx =>
   obtain ⟨cs, h1, h2, h3⟩ := zai h
   show zan (σ.bx k) _
   rw [h1]
   exact ⟨h2, ih (fun l => hK _) h3⟩
theorem zrq {W : List Nat} : ∀ {l : List AF} {xs : List V} {K K' : List V -> Prop}, (∀ u, K u -> K' u) -> mtK W l xs K -> mtK W l xs K' := fun {l} => by
 induction l with
 | nil => intro xs K K' hK h; cases xs with
  | nil => exact hK _ h
  | cons _ _ => exact h.elim
 | cons a l ih => intro xs K K' hK h; cases xs with
  | nil => cases a <;> exact h.elim
  | cons x xs =>
   cases a with
   | d b y => exact ih (fun u => hK _) h
   | p j =>
    cases x with
    | one c => cases c <;> first | exact h.elim | exact ⟨h.1, h.2.1, ih hK h.2.2⟩
    | agg _ => exact h.elim
    | tup _ => exact h.elim
   | fn g js =>
    cases x with
    | one c => cases c <;> first | exact h.elim | exact ⟨h.1, h.2.1, ih hK h.2.2⟩
    | agg _ => exact h.elim
    | tup _ => exact h.elim
def ze5 (d : Nat) : Nat -> List Nat -> Bxs -> (Nat -> Option (List C)) -> (Nat -> Option (List C))
 | m, k :: W, b :: bx, f => upd (ze5 d (m + b.length) W bx f) k (some (mC d m b))
 | _, _, _, f => f
theorem zlb (d : Nat) : ∀ (W : List Nat) (bx : Bxs) (m : Nat) (f : Nat -> Option (List C)) (b : Nat), b ∉ W -> ze5 d m W bx f b = f b
 | [], _, _, _, _, _ => by unfold ze5; rfl
 | k :: W, [], _, _, _, _ => by unfold ze5; rfl
 | k :: W, c :: bx, m, f, b, hb => by
  unfold ze5
  rw [zae _ _ (fun e => hb (by simp [e]))]
  exact zlb d W bx _ f b fun h => hb (by simp [h])
theorem zog (d : Nat) : ∀ (W : List Nat) (bx : Bxs) (m : Nat) (f : Nat -> Option (List C)) (b : Nat), W.length = bx.length -> b ∈ W -> ze5 d m W bx f b ≠ none
 | [], _, _, _, _, _, hb => by simp at hb
 | k :: W, [], _, _, _, hl, _ => by simp at hl
 | k :: W, c :: bx, m, f, b, hl, hb => by
  unfold ze5
  by_cases h : b = k
  ·subst h; rw [zab]; simp
  ·rw [zae _ _ h]
   exact zog d W bx _ f b (by simpa using hl) ((List.mem_cons.1 hb).resolve_left h)
theorem zgj {σ : St} {g : Gh} {w : World} {bs : Nat -> Nat} (d : Nat) {β : Nat -> Nat} : ∀ (W : List Nat) (bx : Bxs) (bvs : List (List Value)) (j m : Nat) (f : Nat -> Option (List C)), (∀ i b, W[i]? = some b -> bs (j + i) = β b) -> zl4 w bs j bvs bx -> CRs σ g w (mC d m bx.flatten) bvs.flatten -> W.length = bx.length →
  ∀ b ∈ W, ∀ cs, ze5 d m W bx f b = some cs -> ∃ vs ty, w.heap[β b]? = some (.cells vs ty (0, 0)) /\ CRs σ g w cs vs.toList
 | [], _, _, _, _, _, _, _, _, _, b, hb, _, _ => by simp at hb
 | k :: W, [], _, _, _, _, _, _, _, hl, _, _, _, _ => by simp at hl
 | k :: W, c :: bx, [], _, _, _, _, h0, _, _, _, _, _, _ => h0.elim
 | k :: W, c :: bx, vs :: bvs, j, m, f, hβ, h0, hc, hl, b, hb, cs, hs => by
  obtain ⟨h1, ⟨ty, h2⟩, h3⟩ := h0
  rw [List.flatten_cons, List.flatten_cons, zcy] at hc
  obtain ⟨v1, v2, e, c1, c2⟩ := hc.split
  obtain ⟨e1, e2⟩ := List.append_inj e (by rw [c1.len, ziu, h1])
  subst e1 e2
  unfold ze5 at hs
  by_cases h : b = k
  ·subst h
   rw [zab] at hs
   cases hs
   have := hβ 0 b rfl
   rw [Nat.add_zero] at this
   exact ⟨⟨vs⟩, ty, by rw [<- this]; exact h2, c1⟩
  ·rw [zae _ _ h] at hs
   exact zgj d W bx bvs (j + 1) (m + c.length) f (fun i b hi => by have := hβ (i + 1) b (by simpa using hi); rw [show j + (i + 1) = j + 1 + i by omega] at this; exact this) h3 c2 (by simpa using hl) b ((List.mem_cons.1 hb).resolve_left h) cs hs
def St.callP (σ : St) (d : Nat) (W : List Nat) (bx' : Bxs) (res : List (Bool × D)) : St := { sl := upd σ.sl d (zrr (mD d 0 res)), bx := ze5 d (za9 res).length W bx' σ.bx, ev := mE d 0 (za9 res ++ bx'.flatten) σ.ev }
theorem CRs.split_flat {σ : St} {g : Gh} {w w' : World} {A : Nat -> Prop} {d m : Nat} {l : List (Bool × T)} {c : Bxs} {us vs : List Value} (h : CRs σ g w (mC d 0 (l ++ c.flatten)) (us ++ vs)) (hl : us.length = l.length) : CRs σ g w (mC d 0 l) us /\ CRs σ g w (mC d l.length c.flatten) vs := by
 rw [zcy] at h
 obtain ⟨v1, v2, e, c1, c2⟩ := h.split
 obtain ⟨e1, e2⟩ := List.append_inj e (by rw [c1.len, ziu, hl])
 subst e1 e2
 rw [Nat.zero_add] at c2
 exact ⟨c1, c2⟩
theorem zao.one_vals {w : World} {A : Nat -> Prop} : ∀ {ds : List (Bool × D)} {vs : List Value} {fp tp : List Nat}, zao w A ds vs fp tp -> (vs.flatMap fun u => u.cells.toList).length = (za9 ds).length := fun {ds vs fp tp} h => by
 obtain ⟨tp', h'⟩ := h.flat
 rw [zao.len h']
 unfold bxA
 rw [List.length_map]
theorem zqa {W : List Nat} {o : Oper} {σ : St} {τs : Nat -> V} {τe : Nat -> Option Ev} {τb : Nat -> Option (List C)} {x : Operand} {asx : Array Operand} {ts : Array TypeId} {f : FuncId} {cvs : List V} {d : Nat} {bx bx' : Bxs} {l : List AF} {res : List (Bool × D)} {ps : List (Nat × Nat × Nat)} (ho : o.op = .call ⟨.value x, asx, ts⟩) (hd : o.dst = some d)
  (h : PC P f bx l bx' res) (hc : zax (σ.get P 0 x) = some (f, cvs)) (hK : KeptB W σ ⟨τs, ze5 d (za9 res).length W bx' τb, τe⟩) (hWn : W.Nodup)
  (hv : mtK W l (σ.gets P asx ts ++ cvs) fun us => zvi σ W bx fun cs => gvA σ (fun u => ∀ s ∈ u, τe s.1 = none) [] ps (us ++ cs) (AF.ds l ++ bxA bx.flatten)) (hf : mF d 0 (za9 res ++ bx'.flatten) τe) : zac P o σ (St.callP ⟨τs, τb, τe⟩ d W bx' res) := by
 intro n0 N g a w hR hn hdN
 obtain ⟨vs, h1, h2⟩ := zg5 hR ho hc h.1
 unfold Oper.wp
 rw [h1]
 obtain ⟨B, hB⟩ := hR.fam
 let bs : Nat -> Nat := fun j => g.β (W.getD j 0)
 have hbs : ∀ j b, W[j]? = some b -> bs j = g.β b := fun j b hj => by show g.β (W.getD j 0) = _; rw [List.getD_eq_getElem?_getD, hj]; rfl
 obtain ⟨us, dvs, a1, a2, a3, rfl⟩ := zdr hbs hv h2
 obtain ⟨cs, bvs, b1, b2, b3, b4, b5⟩ := zf5 hR (bs := bs) (j := 0) (fun i b hi => by rw [Nat.zero_add]; exact hbs i b hi) a1
 obtain ⟨s, k1, ⟨tp, k2⟩, k3, k4⟩ := zc1 hR hB b1 (VRl.append a2 b2)
 rw [List.append_nil] at k1 k4
 have hsp : s.Pairwise okP := (List.pairwise_reverse.1 (k4 List.Pairwise.nil)).imp fun h => h.symm
 have hnd := zcv hR hB k3 hsp
 have hfp : ∀ b ∈ bks B s, ∃ e, σ.On e /\ τe e = none /\ b ∈ g.φ e := fun b hb => by
  obtain ⟨x, hx, hm⟩ := List.mem_flatMap.1 hb
  exact ⟨x.1, k3 x hx, k1 x (List.mem_reverse.2 hx), hB.sub x.1 x.2 b (k3 x hx) hm⟩
 have hfn : ∀ b, zbw σ g w b -> b ∉ bks B s := fun b hb hm => by obtain ⟨e, h1, _, h3⟩ := hfp b hm; exact hb.2 e h1 h3
 have hWj : ∀ j, j < bx.length -> ∃ b, W[j]? = some b /\ b ∈ W /\ bs j = g.β b := fun j hj => by
  have hlt : j < W.length := by omega
  exact ⟨W[j], List.getElem?_eq_getElem hlt, List.getElem_mem hlt, hbs j _ (List.getElem?_eq_getElem hlt)⟩
 have hWb : ∀ b ∈ W, ∃ j, j < bx.length /\ bs j = g.β b := fun b hb => by
  obtain ⟨j, hj, rfl⟩ := List.getElem_of_mem hb
  exact ⟨j, by omega, hbs j _ (List.getElem?_eq_getElem hj)⟩
 have hinj : ∀ i j, i < bx.length -> j < bx.length -> bs i = bs j -> i = j := fun i j hi hj he => by
  obtain ⟨b, e1, e2, e3⟩ := hWj i hi
  obtain ⟨c, f1, f2, f3⟩ := hWj j hj
  have : b = c := hR.inj b c (b5 b e2) (b5 c f2) (by rw [<- e3, <- f3]; exact he)
  subst this
  have hi' : i < W.length := by omega
  have hj' : j < W.length := by omega
  rw [List.getElem?_eq_getElem hi'] at e1
  rw [List.getElem?_eq_getElem hj'] at f1
  exact (List.getElem_inj hWn).1 ((Option.some.inj e1).trans (Option.some.inj f1).symm)
 have hbf : ∀ j, j < bx.length -> bs j ∉ bks B s := fun j hj hm => by
  obtain ⟨b, _, e2, e3⟩ := hWj j hj
  obtain ⟨e, h1, _, h3⟩ := hfp _ hm
  exact hR.ebx e b h1 (b5 b e2) (e3 ▸ h3)
 have hfb : ∀ b, zbw σ g w b -> ∀ j, j < bx.length -> b ≠ bs j := fun b hb j hj e => by
  obtain ⟨c, _, e2, e3⟩ := hWj j hj
  exact hb.1.1 c (b5 c e2) (by rw [<- e3, e])
 refine (h.2.2 w bs bvs dvs (bks B s) tp (zbw σ g w) hinj hbf b3 (zao.keepA (fun b hb => ⟨⟨hb.1.2.2.1, hfn b hb, hfb b hb⟩, hb⟩) k2) hnd a3).mono ?_
 rintro e w' ⟨us', bvs', fp', tp', rfl, hbx', hlu, o1, o2, o3, hbk⟩
 obtain ⟨v1, v2, f1, f2, t1, t2, ev, ef, et, p1, p2⟩ := zao.split o1
 obtain ⟨rfl, rfl⟩ := List.append_inj ev (by rw [hlu, zao.len p1])
 subst ef
 obtain ⟨t1', p1'⟩ := p1.flat
 have pp := zao.append p1' p2
 rw [<- zd7] at pp
 have hnew := New.refl ⟨τs, ze5 d (za9 res).length W bx' τb, τe⟩ g (fun b => b ∈ bks B s \/ w.heap.size <= b) w' hR.slc
 obtain ⟨g', q1, q2, q3⟩ := New.mix (τ := ⟨τs, ze5 d (za9 res).length W bx' τb, τe⟩) (g := g) (NB := fun b => b ∈ bks B s \/ w.heap.size <= b) (w' := w') d (za9 res ++ bx'.flatten) _ (f1 ++ f2) _ 0 τe g [] hnew hf pp o2 (fun b hb' => ⟨o3 b hb', by simp⟩)
 have hbk' : Bk (fun k => k < w.heap.size /\ k ∉ bks B s /\ ∀ b ∈ W, k ≠ g.β b) w w' := ⟨hbk.os, hbk.tape, hbk.output, hbk.size, fun k hk => hbk.block k ⟨hk.1, hk.2.1, fun j hj e => by
  obtain ⟨c, _, e2, e3⟩ := hWj j hj
  exact hk.2.2 c e2 (by rw [<- e3, e])⟩⟩
 have hfree : ∀ k, ((k < w'.heap.size /\ k ∉ f1 ++ f2 /\ ∀ j, j < bx.length -> k ≠ bs j) /\ (zbw σ g w k \/ w.heap.size <= k \/ k ∈ bks B s)) -> zbw ⟨τs, ze5 d (za9 res).length W bx' τb, mE d 0 (za9 res ++ bx'.flatten) τe⟩ g' w' k := fun k hk => by
  have hOnσ : ∀ e, St.On ⟨τs, ze5 d (za9 res).length W bx' τb, τe⟩ e -> σ.On e := fun e ⟨x, hx, ho⟩ => ⟨x, (hK.ev e x hx).1, ho⟩
  have hno : ∀ e, St.On ⟨τs, ze5 d (za9 res).length W bx' τb, mE d 0 (za9 res ++ bx'.flatten) τe⟩ e -> k ∉ g'.φ e := fun e ho' hm => by
   by_cases hee : τe e = none
   ·obtain ⟨x, hx, _⟩ := ho'
    have := ((q1.new e x hee hx).2.2.1 k hm).2
    rw [List.nil_append] at this
    exact hk.1.2.1 this
   ·rw [(q1.old e hee).2.2] at hm
    obtain ⟨x, hx, hon⟩ := ho'
    have ho2 : St.On ⟨τs, ze5 d (za9 res).length W bx' τb, τe⟩ e := ⟨x, (q1.old e hee).1.symm.trans hx, hon⟩
    rcases hk.2 with h | h | h
    ·exact h.2 e (hOnσ e ho2) hm
    ·obtain ⟨y, hy, hyo⟩ := hOnσ e ho2
     have := (hR.evs e y hy hyo).lt k hm; omega
    ·obtain ⟨e', h1, h2, h3⟩ := hfp k h
     refine hR.apart e e' (hOnσ e ho2) h1 (fun ee => ?_) k hm h3
     subst ee
     obtain ⟨y, hy, _⟩ := ho2
     have hy : τe e = some y := hy
     rw [h2] at hy; cases hy
  have hbne : ∀ b, ze5 d (za9 res).length W bx' τb b ≠ none -> σ.bx b ≠ none := fun b hb => by
   by_cases hbW : b ∈ W
   ·exact (hK.bxW b hbW).1
   obtain ⟨cs, hcs⟩ := Option.ne_none_iff_exists'.1 hb
   rw [(hK.bx b cs hbW hcs).1]; simp
  refine ⟨⟨fun j hj e => ?_, fun e x hx hon hh => hno e ⟨x, hx, hon⟩ (List.mem_of_mem_head? hh), hk.1.1, ?_⟩, hno⟩
  ·have hj' := hbne j hj
   rw [q1.β] at e
   rcases hk.2 with h | h | h
   ·exact h.1.1 j hj' e
   ·have := hR.lt hj'; omega
   ·obtain ⟨e', h1, _, h3⟩ := hfp k h
    exact hR.ebx e' j h1 hj' (e ▸ h3)
  ·rw [q1.A0]
   rcases hk.2 with h | h | h
   ·exact h.1.2.2.2
   ·exact (hR.anew k (hn.new h)).1
   ·obtain ⟨e', h1, _, h3⟩ := hfp k h
    exact (hR.ebase e' h1 k h3).1
 have hcr := q3 ⟨τs, ze5 d (za9 res).length W bx' τb, mE d 0 (za9 res ++ bx'.flatten) τe⟩ w' rfl fun t v h => zag.keep (fun _ _ => rfl) hfree t v h
 obtain ⟨hc1, hc2⟩ := hcr.split_flat (A := fun _ => True) (w' := w') (m := 0) (zao.one_vals p1)
 have hR' := hR.givenB hn hK (fun b hb => by obtain ⟨e, x1, x2, x3⟩ := hfp b hb; exact ⟨e, x1, x2, x3⟩) hbk' q1 (zgj d W bx' bvs' 0 (za9 res).length τb (fun i b hi => by rw [Nat.zero_add]; exact hbs i b hi) hbx' hc2 (by rw [h.2.1]; omega))
 have hBk : Bk n0 w w' := ⟨hbk.os, hbk.tape, hbk.output, hbk.size, fun k hk => hbk.block k ⟨hn k hk, fun hm => by
  obtain ⟨e, h1, _, h3⟩ := hfp k hm
  exact hR.etop e h1 k h3 hk, fun j hj e => by
  obtain ⟨c, _, e2, e3⟩ := hWj j hj
  exact hR.base c (b5 c e2) (by rw [<- e3, <- e]; exact hk)⟩⟩
 refine ⟨g', ?_, hBk, q1.A0, q1.R0⟩
 have hp := hR'.put (some d) (x := zrr (mD d 0 res)) (v := zb1 us') (zjv (zor d 0 p1 hc1) (zo8 d res 0)) (fun i hi => by cases hi; exact hdN d hd)
 rw [hd]
 exact hp
end Go.Proofs.Yteeaofpphmhjdaa
namespace Go.Proofs.Yteeaofpphmhjdaa
set_option linter.unusedSimpArgs false
set_option linter.unusedVariables false
set_option linter.unusedSectionVars false
set_option maxRecDepth 4000
open Go.RowKit
variable {P : Program}
def subN : List Nat -> List Nat -> Prop
 | [], _ => True
 | x :: xs, l => noK x l = false /\ subN xs l
theorem zot : ∀ {x : Nat} {l : List Nat}, noK x l = false -> x ∈ l
 | _, [], h => by cases h
 | x, y :: l, h => by
  unfold noK at h
  by_cases e : x = y
  ·simp [e]
  ·rw [if_neg e] at h; exact List.mem_cons_of_mem _ (zot h)
theorem zez : ∀ {xs l : List Nat}, subN xs l -> ∀ x ∈ xs, x ∈ l
 | [], _, _, x, hx => by simp at hx
 | y :: xs, l, h, x, hx => by
  rcases List.mem_cons.1 hx with rfl | hx
  ·exact zot h.1
  ·exact zez h.2 x hx
theorem ze9 {σ : St} : ∀ (L : List Nat) (i : Nat), (i ∈ L -> zev (σ.lL L) i = σ.sl i) /\ (i ∉ L -> zev (σ.lL L) i = .one .any)
 | [], i => ⟨fun h => by simp at h, fun _ => rfl⟩
 | j :: L, i => by
  show (_ -> (if i = j then σ.sl j else zev (σ.lL L) i) = _) /\ (_ -> (if i = j then σ.sl j else zev (σ.lL L) i) = _)
  by_cases h : i = j
  ·subst h; rw [if_pos rfl]; exact ⟨fun _ => rfl, fun h => by simp at h⟩
  ·rw [if_neg h]
   exact ⟨fun hm => (ze9 L i).1 ((List.mem_cons.1 hm).resolve_left h), fun hm => (ze9 L i).2 fun h' => hm (List.mem_cons_of_mem _ h')⟩
theorem zcg {α : Type} (f : Nat -> α) : ∀ (L : List Nat) (i : Nat), (i ∈ L -> tbl (L.map fun b => (b, f b)) i = some (f i)) /\ (i ∉ L -> tbl (L.map fun b => (b, f b)) i = none)
 | [], i => ⟨fun h => by simp at h, fun _ => rfl⟩
 | j :: L, i => by
  show (_ -> (if i = j then some (f j) else tbl (L.map fun b => (b, f b)) i) = _) /\ (_ -> (if i = j then some (f j) else tbl (L.map fun b => (b, f b)) i) = _)
  by_cases h : i = j
  ·subst h; rw [if_pos rfl]; exact ⟨fun _ => rfl, fun h => by simp at h⟩
  ·rw [if_neg h]
   exact ⟨fun hm => (zcg f L i).1 ((List.mem_cons.1 hm).resolve_left h), fun hm => (zcg f L i).2 fun h' => hm (List.mem_cons_of_mem _ h')⟩
def blank (W : List Nat) (f : Nat -> Option (List C)) : Nat -> Option (List C)
 | b => if noK b W = true then f b else some []
theorem zr1 (W : List Nat) (f : Nat -> Option (List C)) (b : Nat) : blank W f b = if noK b W = true then f b else some [] := rfl
def St.wB (σ : St) (W : List Nat) : St := ⟨σ.sl, blank W σ.bx, σ.ev⟩
def St.BW (σ : St) (L W : List Nat) : List Nat := dif W ((σ.wB W).KB L)
def St.EW (σ : St) (L W : List Nat) : List Nat := (σ.wB W).KE L
def St.hW (σ : St) (L W : List Nat) : St := ⟨zev (σ.lL L), tbl (σ.lB (σ.BW L W)), tbl (σ.lE (σ.EW L W))⟩
section
variable {ks : List Fr} {Q : Exit -> St -> Prop} {σ : St} {ops : Array Oper} {os : List Oper} {ty : TypeId} {ps : String} {af : Array Edge} {d : Nat} {x : Operand} {asx : Array Operand} {ts : Array TypeId} {f : FuncId} {bx bx' : Bxs} {l : List AF} {res : List (Bool × D)}
theorem zar (L A W : List Nat) (pl : List (Nat × Nat × Nat)) (h : PC P f bx l bx' res) (hWn : W.Nodup) (hWl : W.length = bx'.length) (hw : wkK σ (A ++ L))
  (hk : subN (σ.BW L W) (σ.KB (A ++ L)) /\ subN W (σ.KB (A ++ L)) /\ subN (σ.EW L W) (σ.KE (A ++ L)) /\ okL ⟨zev (σ.lL L), ze5 d (za9 res).length W bx' (tbl (σ.lB (σ.BW L W))), tbl (σ.lE (σ.EW L W))⟩ (σ.lL L) /\ okB ⟨zev (σ.lL L), ze5 d (za9 res).length W bx' (tbl (σ.lB (σ.BW L W))), tbl (σ.lE (σ.EW L W))⟩ (σ.lB (σ.BW L W)) /\ okE (σ.lE (σ.EW L W)))
  (hp : zan (zax ((σ.hL (A ++ L)).get P 0 x)) fun p => p.1 = f /\ mtK W l ((σ.hL (A ++ L)).gets P asx ts ++ p.2) fun us => zvi (σ.hL (A ++ L)) W bx fun cs => gvA (σ.hL (A ++ L)) (zsb (σ.lE (σ.EW L W))) [] pl (us ++ cs) (AF.ds l ++ bxA bx.flatten))
  (hf : mF d 0 (za9 res ++ bx'.flatten) (tbl (σ.lE (σ.EW L W))))
  (k : exo P ops os ks Q ((σ.hW L W).callP d W bx' res)) : exo P ops (⟨some d, .call ⟨.value x, asx, ts⟩, ty, ps, af, none⟩ :: os) ks Q σ := by
 obtain ⟨⟨f', cvs⟩, h1, rfl, h2⟩ := zai hp
 obtain ⟨k1, k2, k3, k4, k5, k6⟩ := hk
 have hK : KeptB W (σ.hL (A ++ L)) ⟨zev (σ.lL L), ze5 d (za9 res).length W bx' (tbl (σ.lB (σ.BW L W))), tbl (σ.lE (σ.EW L W))⟩ := by
  refine ⟨fun i => ?_, fun b cs hb hcs => ?_, fun b hb => ⟨?_, zog d W bx' _ _ b hWl hb⟩, fun e x he => ?_⟩
  ·by_cases hi : i ∈ L
   ·refine Or.inr ⟨?_, zqe k4 i⟩
    show zev (σ.lL L) i = zev (σ.lL (A ++ L)) i
    rw [(ze9 L i).1 hi, (ze9 (A ++ L) i).1 (List.mem_append_right _ hi)]
   ·exact Or.inl ((ze9 L i).2 hi)
  ·have hcs : ze5 d (za9 res).length W bx' (tbl (σ.lB (σ.BW L W))) b = some cs := hcs
   rw [zlb d W bx' _ _ b hb] at hcs
   by_cases hm : b ∈ σ.BW L W
   ·refine ⟨?_, zqo k5 b cs hcs⟩
    have e1 := (zcg (fun b => (σ.bx b).getD []) (σ.BW L W) b).1 hm
    have e2 := (zcg (fun b => (σ.bx b).getD []) (σ.KB (A ++ L)) b).1 (zez k1 b hm)
    have e1 : tbl (σ.lB (σ.BW L W)) b = some ((σ.bx b).getD []) := e1
    rw [e1] at hcs
    cases hcs
    exact e2
   ·have e1 := (zcg (fun b => (σ.bx b).getD []) (σ.BW L W) b).2 hm
    have e1 : tbl (σ.lB (σ.BW L W)) b = none := e1
    rw [e1] at hcs; cases hcs
  ·have e2 := (zcg (fun b => (σ.bx b).getD []) (σ.KB (A ++ L)) b).1 (zez k2 b hb)
   have e2 : (σ.hL (A ++ L)).bx b = some ((σ.bx b).getD []) := e2
   rw [e2]; simp
  ·have he : tbl (σ.lE (σ.EW L W)) e = some x := he
   by_cases hm : e ∈ σ.EW L W
   ·refine ⟨?_, zn4 k6 e x he⟩
    have e1 := (zcg (fun e => (σ.ev e).getD ⟨false, 0, [], 0, false⟩) (σ.EW L W) e).1 hm
    have e2 := (zcg (fun e => (σ.ev e).getD ⟨false, 0, [], 0, false⟩) (σ.KE (A ++ L)) e).1 (zez k3 e hm)
    have e1 : tbl (σ.lE (σ.EW L W)) e = some ((σ.ev e).getD ⟨false, 0, [], 0, false⟩) := e1
    rw [e1] at he
    cases he
    exact e2
   ·have e1 := (zcg (fun e => (σ.ev e).getD ⟨false, 0, [], 0, false⟩) (σ.EW L W) e).2 hm
    have e1 : tbl (σ.lE (σ.EW L W)) e = none := e1
    rw [e1] at he; cases he
 refine zea rfl rfl (zac.pre (wkK_wk hw) (zqa (P := P) (o := ⟨some d, .call ⟨.value x, asx, ts⟩, ty, ps, af, none⟩) rfl rfl h h1 hK hWn (ps := pl) ?_ hf)) k
 exact zrq (fun us hu => zpk (fun cs hc => zeu (fun u hu => zik hu) hc) hu) h2
end
attribute [go_sem] AF.ds c1P zlx ze6 zbl zep zdm bxE PB PB0 mtK zvi ze5 St.callP subN zr1 St.wB St.BW St.EW St.hW bxA List.flatten_cons List.flatten_nil
end Go.Proofs.Yteeaofpphmhjdaa
namespace Go.Proofs.Yteeaofpphmhjdaa
set_option linter.unusedSimpArgs false
set_option linter.unusedVariables false
set_option linter.unusedSectionVars false
set_option maxRecDepth 4000
open Go.RowKit
variable {P : Program}
section
variable {ks : List Fr} {Q : Exit -> St -> Prop} {σ : St} {ops : Array Oper} {os : List Oper} {L : List (List Ky × List Ky)} {ty : TypeId} {ps : String} {af : Array Edge} {d : Nat} {x : Operand} {asx : Array Operand} {ts : Array TypeId} {f : FuncId} {bx bx' : Bxs} {l : List AF} {res : List (Bool × D)}
theorem zut {ds0 res0 : List D} {gR : List Ky} (h : FC P f ds0 res0) (hp : zan (zax (σ.get P 0 x)) fun p => p.1 = f /\ VDs σ (σ.gets P asx ts ++ p.2) ds0 /\ zfx d 0 (zav res0) σ.ev)
  (k : exd P ops os (L ++ [(gR ++ (zam (x :: asx.toList) ++ (vsK σ (σ.gets P asx ts ++ zwk (zax (σ.get P 0 x))) ++ eK (owL d 0 (zav res0)))), dK (some d) ++ eK (owL d 0 (zav res0)))]) ks Q (σ.callF d res0)) :
  zly P ops ⟨some d, .call ⟨.value x, asx, ts⟩, ty, ps, af, none⟩ os L gR ks Q σ := by
 obtain ⟨⟨f', cvs⟩, h1, rfl, h2, h3⟩ := zai hp
 rw [h1] at k
 exact zwd _ _ _ _ _ _ rfl (zib rfl rfl h h1 h2 h3) k
end
end Go.Proofs.Yteeaofpphmhjdaa
