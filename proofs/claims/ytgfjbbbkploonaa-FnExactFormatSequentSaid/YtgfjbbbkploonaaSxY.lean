/-
  The walk over plain data: made slices.
  Conditions: none.
-/
import Derived.Test.YtgfjbbbkploonaaSxX
import Derived.Laws.MakeOwn
namespace Go.Proofs.Ytgfjbbbkploonaa
set_option linter.unusedSimpArgs false
set_option linter.unusedVariables false
open Go.RowKit
variable {P : Program}

theorem made_rows (zc : Array Value) (n : Nat) (h : zc.size = n) : ∀ c, (madeCells zc (c * n)).toList = (List.replicate c zc.toList).flatten
  | 0 => by simp [madeCells]
  | c + 1 => by
    have ih := made_rows zc n h c
    have key : (madeCells zc ((c + 1) * n)).toList = (madeCells zc (c * n)).toList ++ zc.toList := by
      unfold madeCells
      simp only [Array.toList_map, Array.toList_range]
      rw [show (c + 1) * n = c * n + n by rw [Nat.add_mul, Nat.one_mul], List.range_add, List.map_append]
      congr 1
      refine List.ext_getElem (by simp [h]) fun j hj hj' => ?_
      have hjn : j < n := by simpa using hj
      simp only [List.getElem_map, List.getElem_range, h]
      rw [Nat.add_comm, Nat.add_mul_mod_self_right, Nat.mod_eq_of_lt hjn]
      simp [h, hjn]
    rw [key, ih, List.replicate_succ', List.flatten_append]
    simp

theorem OwnAll.rep_rows {w : World} {ts : List T} {vs : List Value} (h : OwnAll w ts vs []) : ∀ c : Nat, OwnAll w (List.replicate c ts).flatten (List.replicate c vs).flatten []
  | 0 => ⟨rfl, rfl⟩
  | c + 1 => by
    rw [List.replicate_succ, List.replicate_succ, List.flatten_cons, List.flatten_cons]
    exact h.append (OwnAll.rep_rows h c)
theorem s_make {d : Nat} {ty : TypeId} {ps : String} {af : Array Edge} {σ : St} {t el : TypeId} {l c : Operand} {n bts : Nat} {z : List C} {zts : List T} {kl kc : IntKind} {a b : Int}
    (h1 : elT P t = some el) (h2 : sizeT P el = some n) (h3 : bytesT P el = some bts) (h4 : zeroT P el = some z) (hz : z.length = n) (hq : dpCs σ z = some (zts, [])) (hl : σ.get P 0 l = .one (.t (.int kl a))) (hc : σ.get P 0 c = .one (.t (.int kc b)))
    (hp : 0 < bts) (h0 : 0 ≤ a) (hab : a ≤ b) (hb : (bts : Int) * b ≤ 281474976710656) (he : σ.ev (d * 32) = none) :
    StepSem P ⟨some d, .makeSlice t l c, ty, ps, af, none⟩ σ ((σ.apd (d * 32) [] ⟨true, n, List.replicate a.toNat zts, 0, true⟩).put (some d) (.one (.ow (d * 32) 0))) := by
  intro n0 N g act w hR hn hdN
  have v1 := hR.get P 0 l
  have v2 := hR.get P 0 c
  rw [hl] at v1
  rw [hc] at v2
  simp only [VR, CR, RepV] at v1 v2
  obtain ⟨i, zv, i1, i2, i3⟩ := zeroT_eq h4
  have hin : i.size = n := by unfold sizeT at h2; rw [i1] at h2; simpa using h2
  have hib : i.bytes = bts := by unfold bytesT at h3; rw [i1] at h3; simpa using h3
  have hb1 : b ≤ 281474976710656 := by
    have : (1 : Int) * b ≤ (bts : Int) * b := Int.mul_le_mul_of_nonneg_right (by omega) (by omega)
    omega
  have hcr := i3 σ g w
  obtain ⟨o1, _, o3⟩ := dpCs_own hR hcr hq
  have hzs : zv.cells.size = n := by have := hcr.len; simp at this; omega
  have hr := run_make (P := P) w t el i zv (elT_under h1) i1 i2 kl kc a b h0 hab (by rw [hib]; exact hb) (by omega)
  rw [hin] at hr
  have hrun : (execOp act.eval ⟨some d, .makeSlice t l c, ty, ps, af, none⟩).run P w = .ok (.value (.slice (some ⟨w.heap.size, 0, none⟩) a.toNat b.toNat)) (w.alloc (.cells (madeCells zv.cells (b.toNat * n)) el)) := by
    unfold execOp
    simp only [v1.1, v2.1, Sem.run_bind, hr, Result.andThen_ok, Sem.run_pure]
  have hrows : (List.replicate a.toNat zv.cells.toList).flatten = (madeCells zv.cells (b.toNat * n)).toList.take (a.toNat * n) := by
    rw [made_rows _ _ hzs, show b.toNat = a.toNat + (b.toNat - a.toNat) by omega, ← List.replicate_append_replicate, List.flatten_append, List.take_append_of_le_length (by simp [hzs]), List.take_of_length_le (by simp [hzs])]
  have hlen : lens n (List.replicate a.toNat zts) := fun r hr => by
    rw [List.eq_of_mem_replicate hr, o3, hz]
  obtain ⟨g', r1, r2, r3, r4⟩ := hR.newown hn (e := d * 32) he (cons := []) (by simp) (sz := n) (rows := List.replicate a.toNat zts) (vs := (List.replicate a.toNat zv.cells.toList).flatten) hlen (dp := true) (by simp) (fun _ => OwnAll.rep_rows o1 _) (by simp) List.nodup_nil (by simp) (madeCells zv.cells (b.toNat * n)) el b.toNat (by rw [size_madeCells]) (by simp; omega) (by unfold maxI; omega) (by rw [List.length_replicate]; exact hrows.symm)
  rw [List.length_replicate] at r2
  unfold Oper.wp
  rw [hrun]
  refine ⟨g', r1.put (some d) (x := .one (.ow (d * 32) 0)) ⟨r2, ⟨true, n, List.replicate a.toNat zts, 0, true⟩, by simp [St.apd, upd_same], Nat.le_refl _⟩ hdN, ?_, r3, r4⟩
  exact ⟨rfl, rfl, rfl, by simp, fun k hk => Below.heap_alloc w _ k (hn k hk)⟩

def mkD (P : Program) (σ : St) (t : TypeId) (l c : Operand) : Option (Prop × Ev) :=
  (elT P t).bind fun el => (sizeT P el).bind fun n => (bytesT P el).bind fun bts => (zeroT P el).bind fun z => (dpCs σ z).bind fun q => match σ.get P 0 l, σ.get P 0 c with
    | .one (.t (.int _ a)), .one (.t (.int _ b)) => if z.length = n ∧ q.2.length = 0 ∧ 0 < bts then some ((0 ≤ a ∧ a ≤ b ∧ (bts : Int) * b ≤ 281474976710656), ⟨true, n, List.replicate a.toNat q.1, 0, true⟩) else none
    | _, _ => none
def St.mk1 (σ : St) (d : Nat) : Option (Prop × Ev) → St
  | some (_, y) => σ.apd (d * 32) [] y
  | none => σ
section
variable {ks : List Fr} {Q : Exit → St → Prop} {σ : St} {ops : Array Oper} {os : List Oper} {ty : TypeId} {ps : String} {af : Array Edge} {d : Nat} {l c : Operand} {t : TypeId}
/-- A made slice. -/
theorem makeD (h : onSome (mkD P σ t l c) fun r => r.1 ∧ σ.ev (d * 32) = none) (k : exo P ops os ks Q ((σ.mk1 d (mkD P σ t l c)).put (some d) (.one (.ow (d * 32) 0)))) :
    exo P ops (⟨some d, .makeSlice t l c, ty, ps, af, none⟩ :: os) ks Q σ := by
  obtain ⟨⟨p, y⟩, h1, h2, h3⟩ := onSome_ex h
  rw [h1] at k
  unfold mkD at h1
  obtain ⟨el, e1, h1⟩ := Option.bind_eq_some_iff.1 h1
  obtain ⟨n, e2, h1⟩ := Option.bind_eq_some_iff.1 h1
  obtain ⟨bts, e3, h1⟩ := Option.bind_eq_some_iff.1 h1
  obtain ⟨z, e4, h1⟩ := Option.bind_eq_some_iff.1 h1
  obtain ⟨⟨q1, q2⟩, e5, h1⟩ := Option.bind_eq_some_iff.1 h1
  split at h1
  · rename_i kl a kc b hl hc
    split at h1
    · rename_i hh
      obtain ⟨k1, k2, k3⟩ := hh
      have : q2 = [] := List.eq_nil_of_length_eq_zero k2
      subst this
      simp only [Option.some.injEq, Prod.mk.injEq] at h1
      obtain ⟨rfl, rfl⟩ := h1
      exact exo_sem rfl rfl (s_make e1 e2 e3 e4 k1 e5 hl hc k3 h2.1 h2.2.1 h2.2.2 h3) k
    · cases h1
  · cases h1
end
attribute [go_sem] mkD St.mk1
end Go.Proofs.Ytgfjbbbkploonaa
