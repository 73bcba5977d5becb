/-
  The walk over plain data, and contracts of functions of the program and of its laws.
  Conditions: those that each theorem names.
-/
import Derived.Test.YteeaofpphmhjdaaQRC5
import Derived.Test.YteeaofpphmhjdaaQRC4
import Derived.OrdersIn
import Derived.Lib.Walk
import Derived.Lib.SliceRun
import Derived.Lib.AppendZeros
import Derived.Shelf.SlSortCmp.Whole1
import Derived.Deep.LoopGhost
import Derived.Sort.OwnSortedInts
import Derived.RegionTactic
import Derived.BigRegion
namespace Go.Proofs.Yteeaofpphmhjdaa
set_option linter.unusedSimpArgs false
set_option linter.unusedVariables false
set_option linter.unusedSectionVars false
set_option maxRecDepth 4000
open Go.RowKit
variable {P : Program} {N : Nat}
theorem zdw {w : World} {zt : T} {z : Value} (h : zar w zt z []) : ∀ n, zaq w (List.replicate n [zt]).flatten (List.replicate n z) []
 | 0 => ⟨rfl, rfl⟩
 | n + 1 => by
  rw [List.replicate_succ, List.replicate_succ, List.flatten_cons]
  exact ⟨z, List.replicate n z, [], [], rfl, rfl, h, zdw h n⟩
theorem zmn : ∀ {rows : List (List T)}, lens 1 rows -> rows.flatten.length = rows.length
 | [], _ => rfl
 | r :: rs, h => by
  rw [List.flatten_cons, List.length_append, zmn fun x hx => h x (by simp [hx]), h r (by simp), List.length_cons]; omega
theorem zix : ∀ {rows : List (List T)} (k : Nat), lens 1 rows -> (rows.take k).flatten = rows.flatten.take k
 | [], k, _ => by simp
 | r :: rs, 0, _ => rfl
 | r :: rs, k + 1, h => by
  obtain ⟨x, rfl⟩ := List.length_eq_one_iff.1 (h r (by simp))
  rw [List.take_succ_cons, List.flatten_cons, List.flatten_cons, zix k fun y hy => h y (by simp [hy])]
  rfl
theorem zlj : ∀ {rows : List (List T)} (k : Nat), flR rows = true -> flR (rows.take k) = true
 | [], k, _ => by simp [flR]
 | r :: rs, 0, _ => rfl
 | r :: rs, k + 1, h => by
  unfold flR at h
  rw [Bool.and_eq_true] at h
  rw [List.take_succ_cons]
  unfold flR
  rw [h.1, zlj k h.2]; rfl
def clrM (P : Program) (t : TypeId) (x lo : Operand) (d : Nat) (zt : T) (K : St -> Prop) (σ : St) : Prop := match σ.get P t x, σ.get P 0 lo with
 | .one (.ow e gn), .one (.t (.int _ k)) => zal (σ.ev e) fun y => y.gen = gn /\ y.on = true /\ y.deep = true /\ y.sz = 1 /\ flR y.rows = true /\ 0 <= k /\ k < y.rows.length /\ K ((σ.apd e [] ⟨true, 1, y.rows.take k.toNat ++ List.replicate (y.rows.length - k.toNat) [zt], gn, true⟩).put (some d) (.one .any))
 | _, _ => False
theorem qgw {t : TypeId} {x lo : Operand} {d : Nat} {zt : T} {K : St -> Prop} {σ : St} (h : clrM P t x lo d zt K σ) : ∃ e gn kk k rows, σ.get P t x = .one (.ow e gn) /\ σ.get P 0 lo = .one (.t (.int kk k)) /\ σ.ev e = some ⟨true, 1, rows, gn, true⟩ /\ flR rows = true /\ 0 <= k /\ k < rows.length /\ K ((σ.apd e [] ⟨true, 1, rows.take k.toNat ++ List.replicate (rows.length - k.toNat) [zt], gn, true⟩).put (some d) (.one .any)) := by
 unfold clrM at h
 split at h
 ·rename_i e gn kk k h1 h2
  obtain ⟨y, he, h3⟩ := zai h
  obtain ⟨dp, sz, rows, g, on⟩ := y
  obtain ⟨rfl, rfl, rfl, rfl, h4, h5, h6, h7⟩ := h3
  exact ⟨e, _, kk, k, rows, h1, h2, he, h4, h5, h6, h7⟩
 ·exact h.elim
theorem za4.clr {i d : Nat} {ops : Array Oper} {t el : TypeId} {x lo : Operand} {y0 y1 : TypeId} {p0 p1 : String} {f0 f1 : Array Edge} {σ : St} {Q : Exit -> St -> Prop} {z : Value} (m : Nat) (zt : T) (hz : ops.size = m + 2) (c0 : ops[m]? = some ⟨some d, .slice t x (some lo) none none, y0, p0, f0, none⟩) (c1 : ops[m + 1]? = some ⟨none, .call ⟨.builtin .clear, #[.tmp d], #[t]⟩, y1, p1, f1, none⟩)
  (hg : (ops.toList.all fun o => o.guard.isNone) = true) (hd : za6 N (.region i ops false) = true) (hdN : d < N) (hel : elT P t = some el) (hsz : zbg P el = some 1) (hzv : ∀ w, (zeroValue el).run P w = .ok z w) (hzc : z.cells = #[z]) (hz1 : z.oneCell' = true) (hzt : ∀ w, zar w zt z []) (hzf : zt.flat = true)
  (h : exo P ops (ops.toList.take m) [] (fun _ σ' => clrM P t x lo d zt (Q .normal) σ') σ) : za4 P N (.region i ops false) σ Q := fun n0 w0 A0 g a w hR hn hb hA => by
 refine wp_region ?_
 have hd' : ∀ o ∈ ops.toList, ∀ d, o.dst = some d -> d < N := fun o ho d hdd => by
  simp only [za6, Array.all_eq_true_iff_forall_mem] at hd
  have := hd o (by simpa using ho)
  rw [hdd] at this
  simpa using this
 have hg' : ∀ o ∈ ops.toList, o.guard = none := fun o ho => by
  have := List.all_eq_true.1 hg o ho
  simpa using this
 rw [hz, List.range_eq_range', show List.range' 0 (m + 2) = List.range' 0 m ++ [m, m + 1] by rw [show m + 2 = m + 1 + 1 from rfl, List.range'_1_concat, List.range'_1_concat]; simp]
 refine zk7 (w0 := w0) (A0 := A0) hg' ?_ m 0 (by omega) hd' σ g a w (by simpa [exo, zsb] using h) hR hn hb hA
 intro a w σ g hK hR hn hb hA
 obtain ⟨e, gn, kk, k, rows, s1, s2, he, hfl, hk0, hkl, hK⟩ := qgw hK
 have v1 := hR.get P t x
 rw [s1] at v1
 obtain ⟨v1, -⟩ := v1
 obtain ⟨vs0, fps, top, hT⟩ := hR.tgt he rfl
 have hlens := hT.lens
 simp only at hlens
 rcases hT.val with ⟨_, hh, _⟩ | ⟨b, cap, cells, cty, w1, w2, w3, w4, w5, w6, w7⟩
 ·simp only at hh; rw [hh] at hkl; simp at hkl; omega
 simp only at w1 w2 w5 w6
 obtain ⟨kn, rfl⟩ : ∃ kn : Nat, k = kn := ⟨k.toNat, by omega⟩
 rw [Int.toNat_natCast] at hK
 have hkl : kn < rows.length := by omega
 have hfps : fps = [] := by
  have hown := hT.own rfl
  simp only at hown
  have : ∀ {ts : List T} {vs : List Value} {f : List Nat}, (∀ c ∈ ts, c.flat = true) -> zaq w ts vs f -> f = [] := fun {ts} => by
   induction ts with
   | nil => intro vs f _ h; exact h.2
   | cons c ts ih =>
    intro vs f hc h
    obtain ⟨v, vs', f1, f2, _, rfl, h1, h2⟩ := h
    rw [ih (fun c' hc' => hc c' (by simp [hc'])) h2, List.append_nil]
    have hcf := hc c (by simp)
    cases c <;> simp only [T.flat, Bool.false_eq_true] at hcf <;> unfold zar at h1
    ·exact h1.2.2.2
    ·exact h1.2
    ·exact h1.2.2
    ·exact h1.2
  exact this (zf4 hfl) hown
 subst hfps
 have hbn := zcv (P := P) (low := some lo) (high := none) (len := rows.length) (cap := cap) hR true (l := (kn : Int)) (u := (rows.length : Int)) (by simp only [zh6, s2]) rfl (by omega) (by omega) (by omega) w2
 have hun : P.underlying t = some (.slice el) := zeg hel
 have e0 : (execOp a.eval ⟨some d, .slice t x (some lo) none none, y0, p0, f0, none⟩).run P w = .ok (.value (.slice (some ⟨b, kn, none⟩) (rows.length - kn) (cap - kn))) w := by
  unfold execOp
  have hcp : ¬ cap = kn := by omega
  rw [Int.toNat_natCast, Int.toNat_natCast, Option.map_some, Option.map_none] at hbn
  simp only [Instr.sliceAt, Instr.slice, Sem.run_bind, run_underlying hun, Result.andThen, v1, w1, Option.map_some, Option.map_none, hbn, zbm hsz, Sem.run_pure]
  rw [if_neg hcp]
  simp only [Addr.add]
  congr 2
  split <;> simp_all
 rw [wpOps_cons]
 unfold wpOp
 simp only [c0]
 rw [if_pos (by simp [Region.wanted])]
 refine Or.inl ?_
 unfold Oper.wp
 rw [e0]
 show wpOps P ops _ [m + 1] _ w
 rw [wpOps_cons]
 unfold wpOp
 simp only [c1]
 rw [if_pos (by simp [Region.wanted])]
 refine Or.inl ?_
 unfold Oper.wp
 have ev : (a.put (some d) (.slice (some ⟨b, kn, none⟩) (rows.length - kn) (cap - kn))).eval (.tmp d) = .slice (some ⟨b, kn, none⟩) (rows.length - kn) (cap - kn) := by
  show (a.tmps.setIfInBounds d _).getD d undef = _
  exact zcr hR.size hdN _ _
 have hcs : kn + (rows.length - kn) <= cells.size := by rw [w5]; omega
 have hst := run_storeCells_at P b kn cty (List.replicate (rows.length - kn) z) 0 cells w w4 (by simpa using hcs) (fun v hv => by rw [List.eq_of_mem_replicate hv]; exact hz1)
 have hzc' : (Builtin.zeroCells z.cells (rows.length - kn)).toList = List.replicate (rows.length - kn) z := by
  rw [hzc]
  simp [Builtin.zeroCells]
  apply List.ext_getElem
  ·simp
  ·intro i h1 h2
   simp [Nat.mod_one]
 simp only [Nat.add_zero, List.length_replicate] at hst
 have e1 : (execOp (a.put (some d) (.slice (some ⟨b, kn, none⟩) (rows.length - kn) (cap - kn))).eval ⟨none, .call ⟨.builtin .clear, #[.tmp d], #[t]⟩, y1, p1, f1, none⟩).run P w = .ok (.value (.tuple #[])) (w.setRow b (cells.toList.take kn ++ List.replicate (rows.length - kn) z ++ cells.toList.drop (kn + (rows.length - kn))).toArray) := by
  obtain ⟨n', hn'⟩ : ∃ n', rows.length - kn = n' + 1 := ⟨rows.length - kn - 1, by omega⟩
  rw [hn'] at ev hst hzc' ⊢
  unfold execOp
  simp [resolve, invoke, builtin, ev, Builtin.clear_, run_underlying hun, hzv, hzc', hst, Result.andThen]
 rw [e1]
 have hown := hT.own rfl
 simp only at hown
 rw [<- List.take_append_drop kn rows.flatten] at hown
 obtain ⟨u1, u2, f1, f2, hu, hf, k1, k2⟩ := hown.split
 obtain ⟨rfl, rfl⟩ := List.append_eq_nil_iff.1 hf.symm
 have hfl1 := zmn hlens
 have l1 : u1.length = kn := by rw [k1.len, List.length_take]; omega
 rw [Nat.mul_one] at w6
 obtain ⟨rest, hrest⟩ : ∃ rest, cells.toList = vs0 ++ rest := ⟨cells.toList.drop rows.length, by rw [<- w6, List.take_append_drop]⟩
 have hvl : vs0.length = rows.length := by
  have := hT.len
  simp only at this
  omega
 have hnew : cells.toList.take kn ++ List.replicate (rows.length - kn) z ++ cells.toList.drop (kn + (rows.length - kn)) = u1 ++ List.replicate (rows.length - kn) z ++ rest := by
  rw [show kn + (rows.length - kn) = vs0.length by omega, hrest, List.drop_left, hu, List.append_assoc u1 u2, <- l1, List.take_left]
 rw [hnew]
 have hsame : ∀ k, k ≠ b -> (w.setRow b (u1 ++ List.replicate (rows.length - kn) z ++ rest).toArray).heap[k]? = w.heap[k]? := fun k hk => setRow_other w _ k _ hk
 have hblk := setRow_heap w b cells (u1 ++ List.replicate (rows.length - kn) z ++ rest).toArray cty (0, 0) w4
 have hsize : (w.setRow b (u1 ++ List.replicate (rows.length - kn) z ++ rest).toArray).heap.size = w.heap.size := setRow_size _ _ _
 have hbk : Bk n0 w (w.setRow b (u1 ++ List.replicate (rows.length - kn) z ++ rest).toArray) := ⟨rfl, rfl, rfl, Nat.le_of_eq hsize.symm, fun k hk => hsame k fun e' => (hT.bx b (Or.inl w7.symm)).2.1.2.2 (e' ▸ hk)⟩
 generalize w.setRow b (u1 ++ List.replicate (rows.length - kn) z ++ rest).toArray = w' at hsame hblk hsize hbk ⊢
 have hyl : (rows.take kn ++ List.replicate (rows.length - kn) [zt]).length = rows.length := by simp; omega
 have hR' := hR.apd_fin (w' := w') (y := ⟨true, 1, rows.take kn ++ List.replicate (rows.length - kn) [zt], gn, true⟩) (v' := g.ψ e gn) (fp' := [b]) (fps2 := []) hT rfl (fun m hm => ⟨by
   obtain ⟨q, hq, hmq⟩ := hm
   rw [he, Option.some.injEq] at hq
   subst hq
   exact hmq, fun em => by simp only at em; rw [em]⟩) (cons := []) (fun p hp => by simp at hp) (fun b hb => by simp at hb) b (Or.inl w7.symm) (fun k _ hk => hsame k hk) (Nat.le_of_eq hsize.symm) hn (by simp) (fun c hc => by
   simp only [List.mem_singleton] at hc
   exact Or.inl hc) (fun c hc => by simpa using hc.symm) fun A' hA' => by
  refine ⟨some ⟨b, 0, none⟩, cap, by rw [hyl]; exact w1, by rw [hyl]; exact w2, w3, Or.inr ⟨b, _, cty, [], rfl, rfl, hblk, ?_, ?_⟩⟩
  ·have := congrArg List.length hrest
   simp only [List.length_append, Array.length_toList] at this
   simp only [List.size_toArray, List.length_append, List.length_replicate]
   omega
  ·simp only [if_true]
   have hl2 : lens 1 (rows.take kn ++ List.replicate (rows.length - kn) [zt]) := fun r hr => by
    rcases List.mem_append.1 hr with h | h
    ·exact hlens r (List.mem_of_mem_take h)
    ·rw [List.eq_of_mem_replicate h]; rfl
   have ha : zaq w' (rows.take kn ++ List.replicate (rows.length - kn) [zt]).flatten (u1 ++ List.replicate (rows.length - kn) z) [] := by
    rw [List.flatten_append, zix kn hlens]
    exact (k1.keep fun c hc => by simp at hc).append (zdw (hzt w') _)
   refine zae.of_vals hl2 ha fun j u hu => ?_
   rw [Nat.zero_add]
   simp only [List.getElem?_toArray]
   rw [List.getElem?_append_left (List.getElem?_eq_some_iff.1 hu).1]
   exact hu
 refine ⟨_, _, hK, (hR'.put (some d) (x := .one .any) (v := .slice (some ⟨b, kn, none⟩) (rows.length - kn) (cap - kn)) trivial fun j hj => by cases hj; exact hdN), hn.mono hbk.size, hb.trans hbk, hA⟩
def cutM (P : Program) (t : TypeId) (x hi : Operand) (d r : Nat) (K : St -> Prop) (σ : St) : Prop := match σ.get P t x, σ.get P 0 hi with
 | .one (.ow e gn), .one (.t (.int _ k)) => zal (σ.ev e) fun y => y.gen = gn /\ y.on = true /\ y.deep = true /\ y.sz = 1 /\ flR y.rows = true /\ 0 <= k /\ k < y.rows.length /\ K (((σ.apd e [] ⟨true, 1, y.rows.take k.toNat, gn + 1, true⟩).put (some d) (.one (.ow e (gn + 1)))).put (some r) (.one (.ow e (gn + 1))))
 | _, _ => False
theorem qgs {t : TypeId} {x hi : Operand} {d r : Nat} {K : St -> Prop} {σ : St} (h : cutM P t x hi d r K σ) : ∃ e gn kk k rows, σ.get P t x = .one (.ow e gn) /\ σ.get P 0 hi = .one (.t (.int kk k)) /\ σ.ev e = some ⟨true, 1, rows, gn, true⟩ /\ flR rows = true /\ 0 <= k /\ k < rows.length /\ K (((σ.apd e [] ⟨true, 1, rows.take k.toNat, gn + 1, true⟩).put (some d) (.one (.ow e (gn + 1)))).put (some r) (.one (.ow e (gn + 1)))) := by
 unfold cutM at h
 split at h
 ·rename_i e gn kk k h1 h2
  obtain ⟨y, he, h3⟩ := zai h
  obtain ⟨dp, sz, rows, g, on⟩ := y
  obtain ⟨rfl, rfl, rfl, rfl, h4, h5, h6, h7⟩ := h3
  exact ⟨e, _, kk, k, rows, h1, h2, he, h4, h5, h6, h7⟩
 ·exact h.elim
theorem za4.cutO {i d r : Nat} {ops : Array Oper} {t el : TypeId} {x hi : Operand} {y0 y1 : TypeId} {p0 p1 : String} {f0 f1 : Array Edge} {σ : St} {Q : Exit -> St -> Prop} (m : Nat) (hz : ops.size = m + 2) (c0 : ops[m]? = some ⟨some d, .slice t x none (some hi) none, y0, p0, f0, none⟩) (c1 : ops[m + 1]? = some ⟨some r, .assign (.tmp d), y1, p1, f1, none⟩)
  (hg : (ops.toList.all fun o => o.guard.isNone) = true) (hd : za6 N (.region i ops false) = true) (hdN : d < N /\ r < N) (hel : elT P t = some el) (hsz : zbg P el = some 1)
  (h : exo P ops (ops.toList.take m) [] (fun _ σ' => cutM P t x hi d r (Q .normal) σ') σ) : za4 P N (.region i ops false) σ Q := fun n0 w0 A0 g a w hR hn hb hA => by
 refine wp_region ?_
 have hd' : ∀ o ∈ ops.toList, ∀ d, o.dst = some d -> d < N := fun o ho d hdd => by
  simp only [za6, Array.all_eq_true_iff_forall_mem] at hd
  have := hd o (by simpa using ho)
  rw [hdd] at this
  simpa using this
 have hg' : ∀ o ∈ ops.toList, o.guard = none := fun o ho => by
  have := List.all_eq_true.1 hg o ho
  simpa using this
 rw [hz, List.range_eq_range', show List.range' 0 (m + 2) = List.range' 0 m ++ [m, m + 1] by rw [show m + 2 = m + 1 + 1 from rfl, List.range'_1_concat, List.range'_1_concat]; simp]
 refine zk7 (w0 := w0) (A0 := A0) hg' ?_ m 0 (by omega) hd' σ g a w (by simpa [exo, zsb] using h) hR hn hb hA
 intro a w σ g hK hR hn hb hA
 obtain ⟨e, gn, kk, k, rows, s1, s2, he, hfl, hk0, hkl, hK⟩ := qgs hK
 have v1 := hR.get P t x
 rw [s1] at v1
 obtain ⟨v1, -⟩ := v1
 obtain ⟨ao, cap, w1, w2, w3, w4⟩ := hR.evs e _ he rfl
 simp only at w1 w2 w4
 obtain ⟨kn, rfl⟩ : ∃ kn : Nat, k = kn := ⟨k.toNat, by omega⟩
 rw [Int.toNat_natCast] at hK
 have hkl : kn < rows.length := by omega
 rcases w4 with ⟨_, _, hh, _⟩ | ⟨b, cells, cty, fps, rfl, w5, w6, w7, w8⟩
 ·rw [hh] at hkl; simp at hkl
 rw [if_pos trivial] at w8
 have hfps := zae.flat hfl w8
 subst hfps
 have hbn := zcv (P := P) (low := none) (high := some hi) (len := rows.length) (cap := cap) hR true (l := 0) (u := (kn : Int)) rfl (by simp only [zh6, s2]) (by omega) (by omega) (by omega) w2
 have hun : P.underlying t = some (.slice el) := zeg hel
 have e0 : (execOp a.eval ⟨some d, .slice t x none (some hi) none, y0, p0, f0, none⟩).run P w = .ok (.value (.slice (some ⟨b, 0, none⟩) kn cap)) w := by
  unfold execOp
  have hcp : ¬ cap = 0 := by omega
  rw [Int.toNat_natCast, show ((0 : Int).toNat) = 0 from rfl, Option.map_some, Option.map_none] at hbn
  simp only [Instr.sliceAt, Instr.slice, Sem.run_bind, run_underlying hun, Result.andThen, v1, w1, Option.map_some, Option.map_none, hbn, zbm hsz, Sem.run_pure]
  rw [if_neg hcp]
  simp only [Addr.add]
  congr 2
 have ev : (a.put (some d) (.slice (some ⟨b, 0, none⟩) kn cap)).eval (.tmp d) = .slice (some ⟨b, 0, none⟩) kn cap := by
  show (a.tmps.setIfInBounds d _).getD d undef = _
  exact zcr hR.size hdN.1 _ _
 rw [wpOps_cons]
 unfold wpOp
 simp only [c0]
 rw [if_pos (by simp [Region.wanted])]
 refine Or.inl ?_
 unfold Oper.wp
 rw [e0]
 show wpOps P ops _ [m + 1] _ w
 rw [wpOps_cons]
 unfold wpOp
 simp only [c1]
 rw [if_pos (by simp [Region.wanted])]
 refine Or.inl ?_
 unfold Oper.wp
 have e1 : ∀ (a : Act) (w : World), (execOp a.eval ⟨some r, .assign (.tmp d), y1, p1, f1, none⟩).run P w = .ok (.value (a.eval (.tmp d))) w := fun a w => rfl
 rw [e1, ev]
 obtain ⟨vs0, fps, top, hT⟩ := hR.tgt he rfl
 have hmem : b ∈ g.φ e := by rw [w5]; simp
 have htop : some b = top := by
  rcases hT.val with ⟨_, hh, _⟩ | ⟨b', cap', cells', cty', q1, _, _, _, _, _, q7⟩
  ·simp only at hh; rw [hh] at hkl; simp at hkl
  ·simp only at q1
   rw [w1] at q1
   injection q1 with q1 _ _
   simp only [Option.some.injEq, Addr.mk.injEq, and_true] at q1
   rw [q1]; exact q7.symm
 have hR' := hR.apd_fin (w' := w) (y := ⟨true, 1, rows.take kn, gn + 1, true⟩) (v' := .slice (some ⟨b, 0, none⟩) kn cap) (fp' := [b]) (fps2 := []) hT rfl (fun m hm => by
   obtain ⟨q, hq, hmq⟩ := hm
   rw [he, Option.some.injEq] at hq
   subst hq
   simp only at hmq ⊢
   exact ⟨by omega, fun em => by omega⟩) (cons := []) (fun p hp => by simp at hp) (fun b hb => by simp at hb) b (Or.inl htop) (fun k _ _ => rfl) (Nat.le_refl _) hn (by simp) (fun c hc => by
   simp only [List.mem_singleton] at hc
   exact Or.inl hc) (fun c hc => by simpa using hc.symm) fun A' hA' => by
  refine ⟨some ⟨b, 0, none⟩, cap, by simp only [List.length_take]; congr 1; omega, by simp only [List.length_take]; omega, w3, Or.inr ⟨b, cells, cty, [], rfl, rfl, w6, w7, ?_⟩⟩
  simp only [if_true]
  have : ∀ (rs : List (List T)) (o k : Nat), flR rs = true -> zae w cells o 1 rs [] -> zae w cells o 1 (rs.take k) [] := fun rs => by
   induction rs with
   | nil => intro o k _ h; rw [List.take_nil]; exact h
   | cons r rs ih =>
    intro o k hf h
    cases k with
    | zero => rw [List.take_zero]; unfold zae; rfl
    | succ k =>
     unfold flR at hf
     rw [Bool.and_eq_true] at hf
     unfold zae at h
     obtain ⟨h1, f1, f2, h2, h3, h4⟩ := h
     obtain ⟨rfl, rfl⟩ := List.append_eq_nil_iff.1 h2.symm
     rw [List.take_succ_cons]
     unfold zae
     exact ⟨h1, [], [], rfl, h3, ih _ k hf.2 h4⟩
  exact this rows 0 kn hfl w8
 have hval : ∀ (σ' : St) (g' : Gh), σ'.ev e = some ⟨true, 1, rows.take kn, gn + 1, true⟩ -> g'.ψ e (gn + 1) = .slice (some ⟨b, 0, none⟩) kn cap -> VR σ' g' w (.one (.ow e (gn + 1))) (.slice (some ⟨b, 0, none⟩) kn cap) := fun σ' g' h1 h2 => ⟨h2.symm, _, h1, Nat.le_refl _⟩
 have hE : (σ.apd e [] ⟨true, 1, rows.take kn, gn + 1, true⟩).ev e = some ⟨true, 1, rows.take kn, gn + 1, true⟩ := by simp [St.apd, zac]
 have hR1 := hR'.put (some d) (x := .one (.ow e (gn + 1))) (v := .slice (some ⟨b, 0, none⟩) kn cap) (hval _ _ hE (by simp only [zac])) (fun j hj => by cases hj; exact hdN.1)
 have hR2 := hR1.put (some r) (x := .one (.ow e (gn + 1))) (v := .slice (some ⟨b, 0, none⟩) kn cap) (hval _ _ hE (by simp only [zac])) (fun j hj => by cases hj; exact hdN.2)
 exact ⟨_, _, hK, hR2, hn, hb, hA⟩
attribute [go_sem] clrM cutM
end Go.Proofs.Yteeaofpphmhjdaa
namespace Go.Proofs.Yteeaofpphmhjdaa
set_option linter.unusedSimpArgs false
set_option linter.unusedVariables false
set_option linter.unusedSectionVars false
set_option maxRecDepth 4000
open Go.RowKit
variable {P : Program}
theorem zpn {f : FuncId} {fn : Func} {c : Code} {bx bx' : Bxs} {l : List AF} {res : List (Bool × D)} (hc : zaz P f) (hf : P.funcs[f]? = some fn) (hb : fn.body = some c) (hN : l.length <= fn.ntmps) (hN2 : fn.ntmps <= 1000000) (hbl : bx'.length = bx.length) (hj : AF.okJ bx.length l = true) (hs : za8 (AF.ds l ++ bxA bx.flatten)) (hfs : gFS (AF.ds l ++ bxA bx.flatten) = true) (hrl : fn.results.toList.length = res.length)
  (h : za4 P fn.ntmps c (ze3 l bx) (PB P fn.results.toList res bx')) : PC P f bx l bx' res := by
 refine ⟨hc, hbl, fun w bs bvs dvs fp tp A hinj hbf hbx hv hn hl => ?_⟩
 refine calls_of_wp hf hb ?_
 obtain ⟨g, hg, hR⟩ := zhe (N := fn.ntmps) hinj hbf hbx hv hn hl hj hN hN2 hs hfs (ξ := fun i => if 1000000 <= i then zne (bs (i - 1000000)) else undef) (fun i hi => if_neg (by omega)) (fun i b => by
  by_cases h : 1000000 <= i
  ·rw [if_pos h]; exact fun e => by cases e
  ·rw [if_neg h]; exact fun e => by cases e) (fun j hj => by
  rw [if_pos (by omega), show 1000000 + j - 1000000 = j by omega])
 refine wp_mono (h _ w _ g _ w hR (fun k hk => hk.1) (Bk.refl _ _) hg) fun e a' w' hq => ?_
 obtain ⟨σ', g', h1, h2, h3, h4, h5⟩ := hq
 have hξ : ∀ q, q < bx'.length -> g'.R0.ξ (1000000 + (0 + q)) = zne (bs (0 + q)) := fun q hq => by
  rw [(Prod.mk.inj h5).2, Nat.zero_add]
  show (if 1000000 <= 1000000 + q then zne (bs (1000000 + q - 1000000)) else undef) = _
  rw [if_pos (by omega), show 1000000 + q - 1000000 = q by omega]
 have key : (∃ pl, PB0 P fn.results.toList res bx' pl σ') -> ∃ v, (results fn a'.tmps).run P w' = .ok v w' /\ ∃ us bvs' fp' tp', Ending.returned v = .returned (zbd us) /\ zmd w' bs 0 bvs' bx' /\ us.length = res.length ∧
   zao w' (fun k => (k < w'.heap.size /\ k ∉ fp' /\ ∀ j, j < bx.length -> k ≠ bs j) /\ (A k \/ w.heap.size <= k \/ k ∈ fp)) (res ++ bxA bx'.flatten) (us ++ bvs'.flatten) fp' tp' /\ fp'.Nodup /\ (∀ b ∈ fp', b ∈ fp \/ w.heap.size <= b) /\ Bk (fun k => k < w.heap.size /\ k ∉ fp /\ ∀ j, j < bx.length -> k ≠ bs j) w w' := by
  rintro ⟨pl, hk⟩
  obtain ⟨vs, hvs, hk⟩ := zai hk
  obtain ⟨us, r1, r2⟩ := zba h2 fn hvs
  obtain ⟨cs, bvs', k0, b1, b2, b3⟩ := zfj (bs := bs) h2 hN2 hξ hk
  obtain ⟨B, hB⟩ := h2.fam
  obtain ⟨s, k1, ⟨tp', k2⟩, k3, k4⟩ := zc2 h2 hB k0 (VRl.append r2 b2)
  rw [List.append_nil] at k4
  have hsp : s.Pairwise okP := (List.pairwise_reverse.1 (k4 List.Pairwise.nil)).imp fun h => h.symm
  have hin : ∀ b ∈ bks B s, ∃ e, σ'.On e /\ b ∈ g'.φ e := fun b hb => by
   obtain ⟨x, hx, hm⟩ := List.mem_flatMap.1 hb
   exact ⟨x.1, k3 x hx, hB.sub x.1 x.2 b (k3 x hx) hm⟩
  have hbβ : ∀ j, j < bx.length -> σ'.bx (1000000 + j) ≠ none /\ g'.β (1000000 + j) = bs j := fun j hj => by
   have := b3 j (by omega)
   rwa [Nat.zero_add] at this
  have hA : ∀ b, zby σ' g' w' b -> (b < w'.heap.size /\ b ∉ bks B s /\ ∀ j, j < bx.length -> b ≠ bs j) /\ (A b \/ w.heap.size <= b \/ b ∈ fp) := fun b hb => by
   have hnb : ∀ j, j < bx.length -> b ≠ bs j := fun j hj e => hb.1.1 _ (hbβ j hj).1 (by rw [(hbβ j hj).2, e])
   refine ⟨⟨hb.1.2.2.1, fun hm => ?_, hnb⟩, ?_⟩
   ·obtain ⟨e, ho, hm⟩ := hin b hm
    exact hb.2 e ho hm
   ·have h0 := hb.1.2.2.2
    rw [(Prod.mk.inj h5).1] at h0
    rcases h0 with h0 | h0 | h0 | ⟨j, hj, h0⟩
    ·exact Or.inl h0
    ·exact Or.inr (Or.inl h0)
    ·exact Or.inr (Or.inr h0)
    ·exact absurd h0 (hnb j hj)
  refine ⟨_, r1, us, bvs', bks B s, tp', rfl, b1, by rw [r2.len, <- hrl]; exact zdo hvs, zao.keepA hA k2, zcw h2 hB k3 hsp, fun b hb => ?_, h4⟩
  obtain ⟨e, ho, hm⟩ := hin b hb
  have h0 := (h2.ebase e ho b hm).2
  rw [(Prod.mk.inj h5).2] at h0
  rcases h0 with h0 | h0 | ⟨j, hj, h0⟩
  ·exact Or.inl h0
  ·exact Or.inr h0
  ·have := h2.ebx e _ ho (hbβ j hj).1
   rw [(hbβ j hj).2] at this
   exact absurd (h0 ▸ hm) this
 have key' : ∀ {Y : Prop}, (PB0 P fn.results.toList res bx' [] σ' \/ ∃ pl, PB0 P fn.results.toList res bx' pl σ') -> ((∃ pl, PB0 P fn.results.toList res bx' pl σ') -> Y) -> Y := fun h k => h.elim (fun h => k ⟨[], h⟩) k
 cases e with
 | normal => exact ⟨h2.defers, key' h1 key⟩
 | ret => exact ⟨h2.defers, key' h1 key⟩
 | exit _ => exact h1.elim
 | goto _ => exact h1.elim
 | panic _ => exact h1.elim
 | outgrown => exact h1.elim
end Go.Proofs.Yteeaofpphmhjdaa
namespace Go.Proofs.Yteeaofpphmhjdaa
set_option linter.unusedSimpArgs false
set_option linter.unusedVariables false
set_option linter.unusedSectionVars false
set_option maxRecDepth 4000
open Go.RowKit
variable {P : Program}
def C.fb (j : Nat) (ts : List T) : C -> C
 | .bx b o => if b = j then .el ts o else .bx b o
 | .fn f [k] => if k = j then .t (.fn f [.ptr ts]) else .fn f [k]
 | .fn _ _ => .any
 | c => c
def zzi : List C -> Option (List T)
 | [] => some []
 | .t x :: cs => (zzi cs).map (x :: ·)
 | .rn x :: cs => (zzi cs).map (x :: ·)
 | _ :: _ => none
def fbS (f : Nat -> V) (j : Nat) (ts : List T) : Nat -> V := fun i => (f i).map (C.fb j ts)
def fbB (f : Nat -> Option (List C)) (j : Nat) (ts : List T) : Nat -> Option (List C) := fun b => if b = j then none else (f b).map fun cs => cs.map (C.fb j ts)
theorem fbS_at (f : Nat -> V) (j : Nat) (ts : List T) (i : Nat) : fbS f j ts i = (f i).map (C.fb j ts) := rfl
def St.fb (σ : St) (j : Nat) (ts : List T) : St := ⟨fbS σ.sl j ts, fbB σ.bx j ts, σ.ev⟩
theorem zwi {σ : St} {g : Gh} {w : World} : ∀ {cs : List C} {ts : List T} {vs : List Value}, zzi cs = some ts -> CRs σ g w cs vs -> ∀ (i : Nat) (t : T), ts[i]? = some t -> ∃ v, vs[i]? = some v /\ zaf w (Fix σ g w) t v
 | [], ts, vs, h, _, i, t, ht => by
  unfold zzi at h
  cases h
  simp at ht
 | c :: cs, ts, vs, h, hv, i, t, ht => by
  obtain ⟨v, vs', rfl, h1, h2⟩ := hv
  have key : ∀ x, (zzi cs).map (x :: ·) = some ts -> zaf w (Fix σ g w) x v -> ∃ v', (v :: vs')[i]? = some v' /\ zaf w (Fix σ g w) t v' := fun x hx hr => by
   cases hc : zzi cs with
   | none => rw [hc] at hx; cases hx
   | some ts' =>
    rw [hc] at hx
    simp only [Option.map_some, Option.some.injEq] at hx
    subst hx
    cases i with
    | zero =>
     simp only [List.getElem?_cons_zero, Option.some.injEq] at ht
     subst ht
     exact ⟨v, rfl, hr⟩
    | succ i =>
     simp only [List.getElem?_cons_succ] at ht ⊢
     exact zwi hc h2 i t ht
  cases c with
  | t x => exact key x h h1
  | rn x => exact key x h (zaf.keep (fun _ _ => rfl) (fun b hb => hb.1) x v h1)
  | _ => cases h
theorem fb_wk {σ : St} {j : Nat} {cs : List C} {ts : List T} (hb : σ.bx j = some cs) (ht : zzi cs = some ts) : Wk σ (σ.fb j ts) := by
 intro n0 N g a w h
 have hj : σ.bx j ≠ none := by rw [hb]; simp
 have hbx : ∀ b, (σ.fb j ts).bx b ≠ none ↔ b ≠ j /\ σ.bx b ≠ none := fun b => by
  show (if b = j then none else (σ.bx b).map fun cs => cs.map (C.fb j ts)) ≠ none ↔ _
  by_cases hbj : b = j
  ·rw [if_pos hbj]; simp [hbj]
  ·rw [if_neg hbj]; simp [hbj]
 have hf : ∀ b, Fix σ g w b -> Fix (σ.fb j ts) g w b := fun b hf => ⟨fun k hk => hf.1 k ((hbx k).1 hk).2, hf.2.1, hf.2.2⟩
 have hfr : ∀ b, zby σ g w b -> zby (σ.fb j ts) g w b := fun b hb => ⟨hf b hb.1, hb.2⟩
 obtain ⟨vs, ty, e1, e2⟩ := h.boxes j cs hb
 have hfix : Fix (σ.fb j ts) g w (g.β j) := by
  refine ⟨fun k hk e => ((hbx k).1 hk).1 (h.inj k j ((hbx k).1 hk).2 hj e), fun e x hx ho hh => ?_, ?_, (h.anew _ (h.base j hj)).1⟩
  ·exact h.ebx e j ⟨x, hx, ho⟩ hj (List.mem_of_mem_head? hh)
  ·exact (Array.getElem?_eq_some_iff.1 e1).1
 have hat : zat w (Fix (σ.fb j ts) g w) (g.β j) 0 ts := zat.mk fun i t hi => by
  obtain ⟨v, k1, k2⟩ := zwi ht e2 i t hi
  refine ⟨v, ?_, zaf.keep (fun _ _ => rfl) hf t v k2⟩
  have : vs[i]? = some v := by rw [<- Array.getElem?_toList]; exact k1
  rw [Nat.zero_add]
  simp [World.cell?, e1, this]
 have cr : ∀ c v, CR σ g w c v -> CR (σ.fb j ts) g w (c.fb j ts) v := fun c v hc => by
  cases c with
  | t y => exact zaf.keep (fun _ _ => rfl) hf y v hc
  | nl s => exact hc
  | ow e' n => exact hc
  | bx b o =>
   show CR _ _ _ (if b = j then .el ts o else .bx b o) v
   by_cases he : b = j
   ·subst he
    rw [if_pos rfl]
    exact ⟨g.β b, 0, by rw [Nat.zero_add]; exact hc.1, hfix, hat⟩
   ·rw [if_neg he]; exact ⟨hc.1, (hbx b).2 ⟨he, hc.2⟩⟩
  | el cs o => obtain ⟨b, q, h1, h2, h3⟩ := hc; exact ⟨b, q, h1, hf b h2, zat.keep (fun _ _ => rfl) hf b rfl q cs h3⟩
  | eo e' s sz i o => exact hc
  | fn f caps =>
   match caps, hc with
   | [], _ => trivial
   | [k], hc =>
    show CR _ _ _ (if k = j then .t (.fn f [.ptr ts]) else .fn f [k]) v
    by_cases he : k = j
    ·subst he
     rw [if_pos rfl]
     show zaf _ _ _ _
     unfold zaf
     refine ⟨_, hc.1, ?_⟩
     unfold zab
     refine ⟨_, [], rfl, ?_, by unfold zab; rfl⟩
     unfold zaf
     exact ⟨g.β k, 0, rfl, hfix, hat⟩
    ·rw [if_neg he]
     exact ⟨hc.1, fun b hb => (hbx b).2 ⟨by rw [List.mem_singleton.1 hb]; exact he, hc.2 b hb⟩⟩
   | _ :: _ :: _, _ => trivial
  | cv u => exact hc
  | any => trivial
  | rn y => exact zaf.keep (fun _ _ => rfl) hfr y v hc
  | er cs o => obtain ⟨b, q, h1, h2, h3⟩ := hc; exact ⟨b, q, h1, hfr b h2, zat.keep (fun _ _ => rfl) hfr b rfl q cs h3⟩
 refine ⟨g, ⟨h.defers, h.size, h.anew, fun i => VR.map cr (h.slots i), fun b cs' hb' => ?_, fun b hb => h.base b ((hbx b).1 hb).2, fun b b' h1 h2 => h.inj b b' ((hbx b).1 h1).2 ((hbx b').1 h2).2, fun e' z hz h1 => ?_, fun e' z hz h1 => ?_, h.slc, h.ebase, h.etop, h.nodup, h.apart, fun e' k he hk => h.ebx e' k he ((hbx k).1 hk).2⟩, rfl, rfl⟩
 ·have hne := (hbx b).1 (by rw [hb']; simp)
  cases hc : σ.bx b with
  | none => exact absurd hc hne.2
  | some cs0 =>
   have hb' : (if b = j then none else (σ.bx b).map fun cs => cs.map (C.fb j ts)) = some cs' := hb'
   rw [if_neg hne.1, hc] at hb'
   simp only [Option.map_some, Option.some.injEq] at hb'
   subst hb'
   obtain ⟨vs, ty, k1, k2⟩ := h.boxes b cs0 hc
   exact ⟨vs, ty, k1, CRs.map cr k2⟩
 ·obtain ⟨ao, cap, e1, e2, e3, e4⟩ := h.evs e' z hz h1
  refine ⟨ao, cap, e1, e2, e3, ?_⟩
  rcases e4 with e4 | ⟨b, cells, ty, fps, k1, k2, k3, k4, k5⟩
  ·exact Or.inl e4
  ·refine Or.inr ⟨b, cells, ty, fps, k1, k2, k3, k4, ?_⟩
   split at k5
   ·rw [if_pos ‹_›]; exact k5
   ·rw [if_neg ‹_›]; exact ⟨k5.1, zah.keep (fun _ _ => rfl) hf b rfl 0 z.sz z.rows k5.2⟩
 ·exact ⟨zaf.keep (fun _ _ => rfl) hf _ _ (h.offs e' z hz h1).1, (h.offs e' z hz h1).2⟩
section
variable {ks : List Fr} {Q : Exit -> St -> Prop} {σ : St} {ops : Array Oper} {os : List Oper} {o : Oper}
theorem frzX (j : Nat) (hg : o.guard = none) (hs : zpm o.op = true) (k : zal (σ.bx j) fun cs => zal (zzi cs) fun ts => exo P ops (o :: os) ks Q (σ.fb j ts)) : exo P ops (o :: os) ks Q σ := by
 obtain ⟨cs, hx, h1⟩ := zai k
 obtain ⟨ts, ht, h2⟩ := zai h1
 exact ztz (fb_wk hx ht) hg hs h2
end
attribute [go_sem] C.fb St.fb fbS_at zzi
end Go.Proofs.Yteeaofpphmhjdaa
namespace Go.Proofs.Yteeaofpphmhjdaa
set_option linter.unusedSimpArgs false
set_option linter.unusedVariables false
set_option linter.unusedSectionVars false
set_option maxRecDepth 4000
open Go.RowKit
variable {P : Program} {N : Nat}
theorem za4.cond {c : Operand} {x y : Code} {σ : St} {Q : Exit -> St -> Prop} {b : Bool} (hv : σ.get P 0 c = .one (.t (.bool b))) (ht : b = true -> za4 P N x σ Q) (hf : b = false -> za4 P N y σ Q) : za4 P N (.cond c x y) σ Q := fun n0 w0 A0 g a w h1 h2 h3 h4 => by
 have hs := h1.get P 0 c
 rw [hv] at hs
 simp only [VR, CR, zaf] at hs
 exact wp_cond_split hs (fun e => ht e n0 w0 A0 g a w h1 h2 h3 h4) (fun e => hf e n0 w0 A0 g a w h1 h2 h3 h4)
theorem za4.condT {c : Operand} {x y : Code} {σ : St} {Q : Exit -> St -> Prop} (hv : σ.get P 0 c = .one (.t (.bool true))) (ht : za4 P N x σ Q) : za4 P N (.cond c x y) σ Q := za4.cond hv (fun _ => ht) (fun h => by cases h)
end Go.Proofs.Yteeaofpphmhjdaa
namespace Go.Proofs.Yteeaofpphmhjdaa
set_option linter.unusedSimpArgs false
set_option linter.unusedVariables false
set_option linter.unusedSectionVars false
set_option maxRecDepth 4000
open Go.RowKit
variable {P : Program}
theorem zn0 {r : Option Nat} {n : Nat} {ds : List Deferred} {D : Nat -> Prop} {a0 : Act} {ops : Array Oper} {σs : Nat -> St} {L : List (List Ky × List Ky)} {n0 : Nat -> Prop} {N : Nat} {w0 : World} {A0 : (Nat -> Prop) × RP} {Q : Exit -> Act -> World -> Prop}
  (hL : ∀ i (h : i < ops.size), Loc P ops ops[i] (L.getD i ([], [])).1 (L.getD i ([], [])).2 (σs i) (σs (i + 1))) (hord : zox ops L = true) (hnd : ∀ o ∈ ops, Oper.nodef o = true) (hdst : ∀ o ∈ ops, ∀ d, o.dst = some d -> d < N /\ D d)
  (hQ : ∀ g a w, Rel n0 N (σs ops.size) g a w -> LtK n0 w -> Bk n0 w0 w -> (g.A0, g.R0) = A0 -> Ag D a0 a -> Q .normal { a with defers := ds } w) :
  ∀ (fuel : Nat) (listed : Array Bool) (g : Gh) (a : Act) (w : World), listed.size = ops.size -> cnt (fun i => listed.getD i false) ops.size = fuel →
   (∀ j (h : j < ops.size), listed.getD j false = true -> ∀ e ∈ ops[j].after, Region.binds .any e = true -> listed.getD e.on false = true) →
   Rel n0 N (Fp σs (fun i => L.getD i ([], [])) (fun i => listed.getD i false) ops.size) g a w -> LtK n0 w -> Bk n0 w0 w -> (g.A0, g.R0) = A0 -> Ag D a0 a -> wpAnyIn (FR r) n P .any ops Q fuel listed { a with defers := ds } w := by
 have hok : ∀ i, i < ops.size -> okK (L.getD i ([], [])).2 = true := fun i h => (hL i h).1
 have hRk : ∀ i, i < ops.size -> okK (L.getD i ([], [])).1 = true := fun i h => (hL i h).2.1
 have hoff : ∀ i, i < ops.size -> ∀ k : Ky, k.1 < 3 -> k ∉ (L.getD i ([], [])).2 -> za0 (σs i) (σs (i + 1)) k := fun i h => (hL i h).2.2.1
 have hget : ∀ j (h : j < ops.size), ops.getD j default = ops[j] := fun j h => by simp [Array.getD, h]
 unfold zox at hord
 simp only [List.all_eq_true, List.mem_range, Bool.and_eq_true] at hord
 have hlt : ∀ j (h : j < ops.size), ∀ e ∈ ops[j].after, Region.binds .any e = true -> e.on < j := fun j h e he hb => by
  have := (hord j h).1.1
  rw [hget j h] at this
  have := (Array.all_eq_true_iff_forall_mem.1 this) e he
  simpa [hb] using this
 have hbef : ∀ j (h : j < ops.size), ∀ i, i < ops.size -> ((Region.before ops).getD j 0).testBit i = true -> ∃ e ∈ ops[j].after, Region.binds .any e = true /\ (e.on = i \/ ((Region.before ops).getD e.on 0).testBit i = true) := fun j h i hi hb => by
  have := (hord j h).1.2 i hi
  rw [hb, hget j h] at this
  simp only [Bool.not_true, Bool.false_or] at this
  obtain ⟨e, he, h1⟩ := Array.any_eq_true'.1 this
  simp only [Bool.and_eq_true, Bool.or_eq_true, beq_iff_eq] at h1
  exact ⟨e, he, h1.1, h1.2⟩
 have hdis : ∀ i j, i < j -> j < ops.size -> ((Region.before ops).getD j 0).testBit i = false -> (∀ k ∈ (L.getD i ([], [])).2, k ∉ (L.getD j ([], [])).1 /\ k ∉ (L.getD j ([], [])).2) /\ ∀ k ∈ (L.getD i ([], [])).1, k ∉ (L.getD j ([], [])).2 := fun i j hij hj hb => by
  have := (hord j hj).2 i hij
  rw [hb] at this
  simp only [Bool.false_or, Bool.and_eq_true, List.all_eq_true, Bool.not_eq_true', List.contains_eq_mem, decide_eq_false_iff_not] at this
  exact ⟨fun k hk => this.1 k hk, fun k hk => this.2 k hk⟩
 intro fuel
 induction fuel with
 | zero =>
  intro listed g a w hsz hc hcl hrel hn hb hA hag
  have hall := zjc _ hc
  refine ⟨?_, ?_⟩
  ·unfold Region.ready
   rw [List.filter_eq_nil_iff]
   intro i hi
   have hi' := List.mem_range.1 hi
   have := hall i hi'
   simp only [Array.getD_eq_getD_getElem?] at this ⊢
   rw [Array.getElem?_eq_getElem (by omega)] at this ⊢
   simp only [Option.getD_some] at this ⊢
   simp [this]
  ·refine hQ g a w ?_ hn hb hA hag
   rwa [zkx hok hoff ops.size (Nat.le_refl _) hall] at hrel
 | succ fuel ih =>
  intro listed g a w hsz hc hcl hrel hn hb hA hag
  have hbb : ∀ j (h : j < ops.size), listed.getD j false = true -> ∀ i, i < ops.size -> ((Region.before ops).getD j 0).testBit i = true -> listed.getD i false = true := by
   intro j
   induction j using Nat.strongRecOn with
   | _ j ihj =>
    intro h hl i hi hbi
    obtain ⟨e, he, h1, h2⟩ := hbef j h i hi hbi
    have hle := hcl j h hl e he h1
    have hlt' := hlt j h e he h1
    rcases h2 with rfl | h2
    ·exact hle
    ·exact ihj e.on hlt' (by omega) hle i hi h2
  refine ⟨fun hr => ?_, fun i hi => ?_⟩
  ·-- some operation is due
   exfalso
   have : ∀ j, j < ops.size -> listed.getD j false = true := by
    intro j
    induction j using Nat.strongRecOn with
    | _ j ihj =>
     intro hj
     cases hl : listed.getD j false with
     | true => rfl
     | false =>
      exfalso
      have hmem : j ∈ Region.ready .any ops listed := by
       unfold Region.ready
       rw [List.mem_filter]
       refine ⟨List.mem_range.2 hj, ?_⟩
       have hl' : listed.getD j true = false := by
        simp only [Array.getD_eq_getD_getElem?] at hl ⊢
        rw [Array.getElem?_eq_getElem (by omega)] at hl ⊢
        exact hl
       rw [hl', Array.getElem?_eq_getElem hj]
       simp only [Bool.not_false, Bool.true_and, Option.map_some, Option.getD_some]
       rw [Array.all_eq_true_iff_forall_mem]
       intro e he
       cases hbd : Region.binds .any e with
       | false => rfl
       | true => simpa using ihj e.on (hlt j hj e he hbd) (by have := hlt j hj e he hbd; omega)
      rw [hr] at hmem
      exact absurd hmem (by simp)
   have hz : cnt (fun i => listed.getD i false) ops.size = 0 := by
    have : ∀ m, m <= ops.size -> cnt (fun i => listed.getD i false) m = 0 := by
     intro m
     induction m with
     | zero => intro _; rfl
     | succ m ihm => intro hm; unfold cnt; rw [if_pos (this m (by omega)), ihm (by omega)]
    exact this _ (Nat.le_refl _)
   omega
  ·unfold Region.ready at hi
   rw [List.mem_filter] at hi
   obtain ⟨hi1, hi2⟩ := hi
   have hi' := List.mem_range.1 hi1
   rw [Array.getElem?_eq_getElem hi'] at hi2
   simp only [Option.map_some, Option.getD_some, Bool.and_eq_true, Bool.not_eq_true'] at hi2
   obtain ⟨hl0, hafter⟩ := hi2
   have hl : listed.getD i false = false := by
    simp only [Array.getD_eq_getD_getElem?] at hl0 ⊢
    rw [Array.getElem?_eq_getElem (by omega)] at hl0 ⊢
    exact hl0
   have hdue : ∀ e ∈ ops[i].after, Region.binds .any e = true -> listed.getD e.on false = true := fun e he hbd => by
    have := (Array.all_eq_true_iff_forall_mem.1 hafter) e he
    simpa [hbd] using this
   have h1 : ∀ j, j < ops.size -> ((Region.before ops).getD i 0).testBit j = true -> listed.getD j false = true := fun j hj hbj => by
    obtain ⟨e, he, k1, k2⟩ := hbef i hi' j hj hbj
    have hle := hdue e he k1
    have hlt' := hlt i hi' e he k1
    rcases k2 with rfl | k2
    ·exact hle
    ·exact hbb e.on (by omega) hle j hj k2
   have h2 : ∀ j, j < ops.size -> listed.getD j false = true -> ((Region.before ops).getD j 0).testBit i = true -> listed.getD i false = true := fun j hj hlj hbj => hbb j hj hlj i hi' hbj
   have hset : ∀ j, (listed.setIfInBounds i true).getD j false = if j = i then true else listed.getD j false := fun j => by
    simp only [Array.getD_eq_getD_getElem?, Array.getElem?_setIfInBounds]
    by_cases hji : j = i
    ·subst hji; rw [if_pos rfl, if_pos (by omega), if_pos rfl]; rfl
    ·rw [if_neg (fun h => hji h.symm), if_neg hji]
   obtain ⟨_, _, _, hstep⟩ := hL i hi'
   have hG := hstep _ (fun k hk => zy1 (σs := σs) (RW := fun i => L.getD i ([], [])) (b := fun j i => ((Region.before ops).getD j 0).testBit i) (p := fun i => listed.getD i false) hok hoff hRk hdis hi' hl h1 h2 hk)
   have hw := zpu (σs := σs) (RW := fun i => L.getD i ([], [])) (b := fun j i => ((Region.before ops).getD j 0).testBit i) (p := fun i => listed.getD i false) hok hdis hi' hl h1 h2 (p' := fun j => (listed.setIfInBounds i true).getD j false) hset
   have hcnt := znk (p := fun i => listed.getD i false) (q := fun j => (listed.setIfInBounds i true).getD j false) hl hset ops.size hi'
   have hG' := hG n0 N g a w hrel hn (fun d h => (hdst _ (Array.getElem_mem hi') d h).1)
   rw [<- hw] at hG'
   have next : ∀ a' w', (∃ g', Rel n0 N (Fp σs (fun i => L.getD i ([], [])) (fun j => (listed.setIfInBounds i true).getD j false) ops.size) g' a' w' /\ Bk n0 w w' /\ g'.A0 = g.A0 /\ g'.R0 = g.R0) -> Ag D a0 a' -> wpAnyIn (FR r) n P .any ops Q fuel (listed.setIfInBounds i true) { a' with defers := ds } w' := by
    rintro a' w' ⟨g', k1, k2, k3, k4⟩ hag'
    refine ih _ g' a' w' (by simpa using hsz) (by omega) (fun j hj hlj e he hbd => ?_) k1 (hn.mono k2.size) (hb.trans k2) (by rw [k3, k4]; exact hA) hag'
    rw [hset] at hlj ⊢
    by_cases heo : e.on = i
    ·rw [if_pos heo]
    ·rw [if_neg heo]
     by_cases hji : j = i
     ·subst hji; exact hdue e he hbd
     ·rw [if_neg hji] at hlj; exact hcl j hj hlj e he hbd
   have hput : ∀ v, Ag D a0 (a.put ops[i].dst v) := fun v => hag.put (fun d hd => (hdst _ (Array.getElem_mem hi') d hd).2) v
   unfold wpOpIn
   rw [Array.getElem?_eq_getElem hi']
   simp only
   split
   ·rename_i hwd
    rw [if_pos hwd] at hG'
    exact qd3 (hnd _ (Array.getElem_mem hi')) (fun a' w' ⟨g', hh⟩ => hh.1.defers) hG' fun v w' hk => next _ w' hk (hput v)
   ·rename_i hwd
    rw [if_neg hwd] at hG'
    obtain ⟨g', k1, k2, k3⟩ := hG'
    refine ⟨fun _ _ => trivial, ?_⟩
    rw [zcf]
    exact next _ _ ⟨g', k1, Bk.refl _ _, k2, k3⟩ (hput _)
def zdz (P : Program) (N : Nat) (D : Nat -> Prop) (c : Code) (σ : St) (Q : Exit -> St -> Prop) : Prop :=
 ∀ (r : Option Nat) (n : Nat) (ds : List Deferred) (n0 : Nat -> Prop) (w0 : World) (A0 : (Nat -> Prop) × RP) (a0 : Act) (g : Gh) (a : Act) (w : World), Rel n0 N σ g a w -> LtK n0 w -> Bk n0 w0 w -> (g.A0, g.R0) = A0 -> Ag D a0 a -> c.wpIn (FR r) n P (zrl n0 N w0 A0 ds D a0 Q) { a with defers := ds } w
variable {N : Nat} {D : Nat -> Prop}
theorem zrl.mono {n0 : Nat -> Prop} {w0 : World} {A0 : (Nat -> Prop) × RP} {ds : List Deferred} {a0 : Act} {Q Q' : Exit -> St -> Prop} (h : ∀ e σ, Q e σ -> Q' e σ) {e : Exit} {a : Act} {w : World} (k : zrl n0 N w0 A0 ds D a0 Q e a w) : zrl n0 N w0 A0 ds D a0 Q' e a w := by
 obtain ⟨a1, k1, k2, k3⟩ := k
 exact ⟨a1, k1, k2, k3.mono h⟩
theorem zdz.ofEx {c : Code} {σ : St} {Q : Exit -> St -> Prop} (hp : (zb4 c && za6 N c) = true) (hd : ∀ d ∈ zbk c, D d) (h : ex P c [] Q σ) : zdz P N D c σ Q := fun r n ds n0 w0 A0 a0 g a w h1 h2 h3 h4 h5 =>
 zbu c σ Q (Bool.and_eq_true .. ▸ hp).1 (Bool.and_eq_true .. ▸ hp).2 hd h g a w h1 h2 h3 h4 h5
def thenR (P : Program) (N : Nat) (D : Nat -> Prop) (y : Code) (Q : Exit -> St -> Prop) (e : Exit) (σ : St) : Prop := match e with
 | .normal => zdz P N D y σ Q
 | e => Q e σ
theorem zdz.seq {x y : Code} {σ : St} {Q : Exit -> St -> Prop} (h : zdz P N D x σ (thenR P N D y Q)) : zdz P N D (.seq x y) σ Q := fun r n ds n0 w0 A0 a0 g a w h1 h2 h3 h4 h5 => by
 refine wpIn_seq (wpIn_mono (h r n ds n0 w0 A0 a0 g a w h1 h2 h3 h4 h5) fun e a' w' hq => ?_)
 obtain ⟨a1, rfl, hg1, σ', g', k1, k2, k3, k4, k5⟩ := hq
 cases e with
 | normal => exact k1 r n ds n0 w0 A0 a0 g' a1 w' k2 k3 k4 k5 hg1
 | exit i => exact ⟨a1, rfl, hg1, σ', g', k1, k2, k3, k4, k5⟩
 | goto l => exact ⟨a1, rfl, hg1, σ', g', k1, k2, k3, k4, k5⟩
 | ret => exact ⟨a1, rfl, hg1, σ', g', k1, k2, k3, k4, k5⟩
 | panic ch => exact ⟨a1, rfl, hg1, σ', g', k1, k2, k3, k4, k5⟩
 | outgrown => exact ⟨a1, rfl, hg1, σ', g', k1, k2, k3, k4, k5⟩
theorem zdz.block {i : Nat} {b : Code} {σ : St} {Q : Exit -> St -> Prop} (h : zdz P N D b σ (blkQ i Q)) : zdz P N D (.block i b) σ Q := fun r n ds n0 w0 A0 a0 g a w h1 h2 h3 h4 h5 => by
 refine wpIn_block (wpIn_mono (h r n ds n0 w0 A0 a0 g a w h1 h2 h3 h4 h5) fun e a' w' hq => ?_)
 obtain ⟨a1, rfl, hg1, σ', g', k1, k2, k3, k4, k5⟩ := hq
 cases e with
 | exit j =>
  simp only [Exit.inBlock]
  simp only [blkQ] at k1
  split at k1
  ·rw [if_pos ‹_›]; exact ⟨a1, rfl, hg1, σ', g', k1, k2, k3, k4, k5⟩
  ·rw [if_neg ‹_›]; exact ⟨a1, rfl, hg1, σ', g', k1, k2, k3, k4, k5⟩
 | normal => exact ⟨a1, rfl, hg1, σ', g', k1, k2, k3, k4, k5⟩
 | goto l => exact ⟨a1, rfl, hg1, σ', g', k1, k2, k3, k4, k5⟩
 | ret => exact ⟨a1, rfl, hg1, σ', g', k1, k2, k3, k4, k5⟩
 | panic ch => exact ⟨a1, rfl, hg1, σ', g', k1, k2, k3, k4, k5⟩
 | outgrown => exact ⟨a1, rfl, hg1, σ', g', k1, k2, k3, k4, k5⟩
theorem zdz.cond {c : Operand} {x y : Code} {σ : St} {Q : Exit -> St -> Prop} {b : Bool} (hv : σ.get P 0 c = .one (.t (.bool b))) (ht : b = true -> zdz P N D x σ Q) (hf : b = false -> zdz P N D y σ Q) : zdz P N D (.cond c x y) σ Q := fun r n ds n0 w0 A0 a0 g a w h1 h2 h3 h4 h5 => by
 have hv' := h1.get P 0 c
 rw [hv] at hv'
 simp only [VR, CR, zaf] at hv'
 exact wpIn_cond_split hv' (fun e => ht e r n ds n0 w0 A0 a0 g a w h1 h2 h3 h4 h5) (fun e => hf e r n ds n0 w0 A0 a0 g a w h1 h2 h3 h4 h5)
theorem zdz.skip {σ : St} {Q : Exit -> St -> Prop} (h : Q .normal σ) : zdz P N D .skip σ Q := fun r n ds n0 w0 A0 a0 g a w h1 h2 h3 h4 h5 => wpIn_skip ⟨a, rfl, h5, σ, g, h, h1, h2, h3, h4⟩
theorem zdz.drawn {id : Nat} {ops : Array Oper} {σ : St} {Q : Exit -> St -> Prop} (hm : P.follows .mixedOrders = true) (hnd : ops.all Oper.nodef = true) (hdn : za6 N (.region id ops true) = true) (hdd : ∀ d ∈ zbk (.region id ops true), D d) (h : exd P ops ops.toList [] [] Q σ) : zdz P N D (.region id ops true) σ Q := by
 intro r n ds n0 w0 A0 a0 g a w hR hn hbk hA hag
 obtain ⟨L, σs, h0, hloc, hord, hK⟩ := zd8 ops.toList 0 [] (fun _ => σ) rfl (Nat.zero_le _) rfl (fun j _ hj => by omega) h
 refine wpIn_region_any hm ?_
 have hb : Below w.heap.size w { w with drawn := w.drawn + 1 } := ⟨rfl, rfl, rfl, Nat.le_refl _, fun _ _ => rfl⟩
 have hR' : Rel n0 N (σs 0) g a { w with drawn := w.drawn + 1 } := by
  rw [h0]
  exact hR.after hn hb (New.refl σ g (w.heap.size <= ·) _ hR.slc)
 have hF : Fp σs (fun i => L.getD i ([], [])) (fun i => (Array.replicate ops.size false).getD i false) ops.size = σs 0 := by
  have hp : ∀ i, (Array.replicate ops.size false).getD i false = false := fun i => by
   simp only [Array.getD_eq_getD_getElem?, Array.getElem?_replicate]; split <;> rfl
  have : ∀ m, Fp σs (fun i => L.getD i ([], [])) (fun i => (Array.replicate ops.size false).getD i false) m = σs 0 := by
   intro m
   induction m with
   | zero => rfl
   | succ m ih => unfold Fp; rw [hp, if_neg (by simp)]; exact ih
  exact this _
 have hcnt : cnt (fun i => (Array.replicate ops.size false).getD i false) ops.size = ops.size := by
  have hp : ∀ i, (Array.replicate ops.size false).getD i false = false := fun i => by
   simp only [Array.getD_eq_getD_getElem?, Array.getElem?_replicate]; split <;> rfl
  have : ∀ m, cnt (fun i => (Array.replicate ops.size false).getD i false) m = m := by
   intro m
   induction m with
   | zero => rfl
   | succ m ih => unfold cnt; rw [hp, if_neg (by simp), ih]; omega
  exact this _
 have hd : ∀ o ∈ ops, ∀ d, o.dst = some d -> d < N /\ D d := fun o ho d hod => by
  refine ⟨?_, hdd d (by simp only [zbk, List.mem_filterMap]; exact ⟨o, by simpa using ho, hod⟩)⟩
  simp only [za6, Array.all_eq_true_iff_forall_mem] at hdn
  have := hdn o ho
  rw [hod] at this
  simpa using this
 refine zn0 (w0 := w0) (A0 := A0) (a0 := a0) hloc hord (Array.all_eq_true_iff_forall_mem.1 hnd) hd (fun g' a' w' k1 k2 k3 k4 k5 => ⟨a', rfl, k5, _, g', hK, k1, k2, k3, k4⟩) ops.size _ g a _ (by simp) hcnt (fun j h hl => ?_) (by rw [hF]; exact hR') (hn.mono (Nat.le_refl _)) (hbk.trans (Bk.of_below hb hn)) hA hag
 simp only [Array.getD_eq_getD_getElem?, Array.getElem?_replicate] at hl
 split at hl <;> cases hl
end Go.Proofs.Yteeaofpphmhjdaa
namespace Go.Proofs.Yteeaofpphmhjdaa
set_option linter.unusedSimpArgs false
set_option linter.unusedVariables false
set_option linter.unusedSectionVars false
set_option maxRecDepth 4000
open Go.RowKit
variable {P : Program}
theorem zja {F1 : FuncId} {ag : Bool} {sz t p1 p2 id N m : Nat} {asg bd : Code} (hB : zpe P F1 ag sz) (hc : zaz P F1) (hpa : zb4 asg = true) (hda : za6 N asg = true) (hp1 : p1 < N) (hp2 : p2 < N) (ht : t < 1000000)
  (H : Nat -> St) (rows : List (List T)) (hag : ag = true \/ sz = 1) (hslot : ∀ k, (H k).sl t = .one (.fn F1 [id]) /\ (H k).bx id = some [.rn (.sl sz rows)]) (hany : ∀ k, ∀ i ∈ p1 :: p2 :: (zbk asg ++ zbk bd), (H k).sl i = .one .any)
  (hround : ∀ k, k < rows.length -> ze7 P asg (((H k).put (some p1) (.one (.t (.int .i64 ((rows.length - 1 - k : Nat) : Int))))).put (some p2) (rowN ag (rows.getD (rows.length - 1 - k) []))) fun e σ2 => e = .normal /\ zdz P N (fun i => i ∈ p1 :: p2 :: (zbk asg ++ zbk bd)) bd σ2 fun e σ3 => e = .normal /\ Wk σ3 (H (k + 1)))
  {n0 : Nat -> Prop} {g : Gh} {a : Act} {w0 w : World} (hR : Rel n0 N (H 0) g a w) (hn : LtK n0 w) (hb : Bk n0 w0 w) {Q : Exit -> Act -> World -> Prop}
  (hQ : ∀ g' w', Rel (fun b => n0 b \/ b = w.heap.size \/ b = w.heap.size + 1) N (H rows.length) g' a w' -> LtK (fun b => n0 b \/ b = w.heap.size \/ b = w.heap.size + 1) w' -> Bk n0 w0 w' -> w'.heap[w.heap.size]? = some (.deferred (some [])) →
   (g'.A0, g'.R0) = ((fun b => g.A0 b /\ b ≠ w.heap.size /\ b ≠ w.heap.size + 1), g.R0) -> Q .normal { a with defers := [{ target := .collected w.heap.size, args := #[] }] } w') :
  (Code.rangeFunc (.tmp t) #[p1, p2] asg bd).wpIn (FR none) m P Q a w := by
 obtain ⟨n1, hn1⟩ : ∃ n1 : Nat -> Prop, n1 = fun b => n0 b \/ b = w.heap.size \/ b = w.heap.size + 1 := ⟨_, rfl⟩
 obtain ⟨A1, hA1⟩ : ∃ A1 : (Nat -> Prop) × RP, A1 = ((fun b => g.A0 b /\ b ≠ w.heap.size /\ b ≠ w.heap.size + 1), g.R0) := ⟨_, rfl⟩
 rw [<- hn1, <- hA1] at hQ
 have hD1 : n1 w.heap.size := by rw [hn1]; exact Or.inr (Or.inl rfl)
 have hl1 : n1 (w.heap.size + 1) := by rw [hn1]; exact Or.inr (Or.inr rfl)
 have hsub : ∀ b, n0 b -> n1 b := fun b h => by rw [hn1]; exact Or.inl h
 have hl0 : ¬ n0 (w.heap.size + 1) := hn.new (by omega)
 have hAl : ∀ g' : Gh, (g'.A0, g'.R0) = A1 -> ¬ g'.A0 (w.heap.size + 1) := fun g' h k => by rw [hA1] at h; rw [(Prod.mk.inj h).1] at k; exact k.2.2 rfl
 have hv0 : a.tmps.getD t undef = .func (.func F1) #[] ⟨[.pointer (some ⟨g.β id, 0, none⟩)]⟩ := by
  have := hR.slot_at ht
  rw [(hslot 0).1] at this
  exact this.1
 have hβ : ∀ {k g' W}, Rel n1 N (H k) g' a W -> g'.β id = g.β id := fun {k g' W} h => by
  have h1 := h.slot_at ht
  rw [(hslot k).1] at h1
  have h2 := h1.1
  rw [hv0] at h2
  simp only [List.map_cons, List.map_nil, Value.func.injEq, Array.mk.injEq, List.cons.injEq, Value.pointer.injEq, Option.some.injEq, Addr.mk.injEq, and_true, true_and] at h2
  exact h2.symm
 refine wpIn_rangeFunc ?_
 intro fn hfn
 obtain ⟨rec, hrec⟩ : ∃ rec : LoopState -> Loop, rec = fun st => { state := st, pending := none, fn, tmps := a.tmps, params := #[p1, p2], assign := asg, body := bd, defers := w.heap.size } := ⟨_, rfl⟩
 obtain ⟨W1, hW1⟩ : ∃ W1, (w.alloc (.deferred (some []))).alloc (.loop (rec .ready)) = W1 := ⟨_, rfl⟩
 have hL1 : W1.heap[w.heap.size + 1]? = some (.loop (rec .ready)) := by
  rw [<- hW1]; have := World.alloc_heap_new (w.alloc (.deferred (some []))) (.loop (rec .ready)); rwa [World.size_alloc] at this
 have hK1 : W1.heap[w.heap.size]? = some (.deferred (some [])) := by
  rw [<- hW1]; exact (Below.heap_alloc _ _ _ (by simp)).trans (World.alloc_heap_new w _)
 have hR1 : Rel n1 N (H 0) { g with A0 := fun b => g.A0 b /\ b ≠ w.heap.size /\ b ≠ w.heap.size + 1 } a W1 := by rw [<- hW1, hn1]; exact hR.enter _ _
 have hb1 : Bk n0 w0 W1 := by rw [<- hW1]; exact (hb.trans (Bk.of_alloc hn _)).trans (Bk.of_alloc (hn.mono (by simp)) _)
 have hz1 : LtK n1 W1 := by
  rw [<- hW1, hn1]
  rintro k (h | rfl | rfl)
  ·have := hn k h; simp; omega
  ·simp; omega
  ·simp
 have hg : a.eval (.tmp t) = .func (.func F1) #[] #[.pointer (some ⟨g.β id, 0, none⟩)] := hv0
 refine ⟨w.heap.size + 1, [{ target := .collected w.heap.size, args := #[] }], W1, { target := .fn (.func F1) #[.pointer (some ⟨g.β id, 0, none⟩)], args := #[.func (.yield (w.heap.size + 1)) #[] #[]] }, W1, F1,
  #[.func (.yield (w.heap.size + 1)) #[] #[]] ++ #[.pointer (some ⟨g.β id, 0, none⟩)], W1, ?_, ?_, fun _ _ => trivial, ?_, (fun h => by cases h), ?_⟩
 ·rw [<- hW1, hrec]; exact run_enterLoop_outer _ _ _ _ _
 ·simp only [resolve, hg]
  simp [go_sem]
 ·have hc' : ∀ (args : Array Value) (w : World), (callFunc F1 args).run P w = .ok (.enter F1 args) w := hc
  simp [invoke, go_sem, hc']
 ·have hgA : ∀ {g' : Gh}, (g'.A0, g'.R0) = A1 -> g'.R0 = g.R0 := fun {g'} h => by rw [hA1] at h; exact (Prod.mk.inj h).2
  obtain ⟨J, hJ⟩ : ∃ J : Nat -> World -> Prop, J = fun k W => (∃ gk, Rel n1 N (H k) gk a W /\ (gk.A0, gk.R0) = A1) /\ LtK n1 W /\ Bk n0 w0 W /\ W.heap[w.heap.size + 1]? = some (.loop (rec .ready)) /\ W.heap[w.heap.size]? = some (.deferred (some [])) := ⟨_, rfl⟩
  have hmax : rows.length <= zd0 := by obtain ⟨_, _, _, h, _⟩ := zoy hR1 (hslot 0).2; exact h
  refine CallsIn.mono (zes.2 (zes.1 (hB (w.heap.size + 1) (g.β id) rows.length W1 J hmax ?_ ?_ ?_))) ?_
  ·rintro W h
   rw [hJ] at h
   obtain ⟨⟨gk, k1, k2⟩, _⟩ := h
   obtain ⟨ao, cap, h1, _⟩ := zoy k1 (hslot 0).2
   rw [hβ k1] at h1
   exact ⟨ao, cap, h1⟩
  ·rintro k W h hk
   rw [hJ] at h
   obtain ⟨⟨gk, k1, k2⟩, k3, k4, k5, k6⟩ := h
   obtain ⟨ao, cap, h1, _, h2⟩ := zoy k1 (hslot k).2
   rw [hβ k1] at h1
   obtain ⟨b, o, rfl, h3⟩ := h2.resolve_left (fun e => by rw [e] at hk; simp at hk)
   have hi : rows.length - 1 - k < rows.length := by omega
   obtain ⟨h4, h5⟩ := h3.at (rows.length - 1 - k) rows[rows.length - 1 - k] (by simp [hi])
   obtain ⟨vs, h6, h7⟩ := h5.valsN
   refine ⟨b, o, cap, vs, h1, by rw [h6.len]; exact h4, h7, ?_⟩
   have hy := run_yield (P := P) (args := #[.int .i64 ((rows.length - 1 - k : Nat) : Int), agv ag vs]) k5 (by rw [hrec]; rfl)
   rw [hrec] at hy
   refine ⟨fn, _, asg, bd, hy, roundIn_of_wpIn hfn ?_⟩
   clear hy
   have hda' : a.defers = [] := k1.defers
   have hex := hround k hk
   rw [show rows.getD (rows.length - 1 - k) [] = rows[rows.length - 1 - k] by simp [hi]] at hex
   have q1 : Rel n1 N (((H k).put (some p1) (.one (.t (.int .i64 ((rows.length - 1 - k : Nat) : Int))))).put (some p2) (rowN ag rows[rows.length - 1 - k])) gk ((a.put (some p1) (.int .i64 ((rows.length - 1 - k : Nat) : Int))).put (some p2) (agv ag vs)) W := by
    refine (k1.put (some p1) (v := .int .i64 ((rows.length - 1 - k : Nat) : Int)) ?_ (fun i e => by cases e; exact hp1)).put (some p2) ?_ (fun i e => by cases e; exact hp2)
    ·show zaf _ _ _ _
     unfold zaf
     have m1 : IntKind.min .i64 = -9223372036854775808 := by decide
     have m2 : IntKind.max .i64 = 9223372036854775807 := by decide
     unfold zd0 at hmax
     exact ⟨rfl, by omega, by omega⟩
    ·exact (Mv.of_eq gk W rfl rfl).vr (qfw (hag.imp (fun h => h) fun h => by rw [h4, h]) h6)
   have q2 : Ag (fun i => i ∈ p1 :: p2 :: (zbk asg ++ zbk bd)) a ((a.put (some p1) (.int .i64 ((rows.length - 1 - k : Nat) : Int))).put (some p2) (agv ag vs)) :=
    ((Ag.refl _ a).put (fun i e => by cases e; simp) _).put (fun i e => by cases e; simp) _
   have ef : (#[p1, p2].zip #[.int .i64 ((rows.length - 1 - k : Nat) : Int), agv ag vs]).foldl (fun (tmps : Array Value) (x : Nat × Value) => match x with | (t, v) => tmps.setIfInBounds t v) a.tmps = ((a.put (some p1) (.int .i64 ((rows.length - 1 - k : Nat) : Int))).put (some p2) (agv ag vs)).tmps := by simp [Act.put]
   show asg.wpIn (FR (some (w.heap.size + 1))) 5 P _ { tmps := (#[p1, p2].zip #[.int .i64 ((rows.length - 1 - k : Nat) : Int), agv ag vs]).foldl (fun (tmps : Array Value) (x : Nat × Value) => match x with | (t, v) => tmps.setIfInBounds t v) a.tmps, defers := [] } W
   rw [ef]
   refine wpIn_mono (zbu (r := some (w.heap.size + 1)) (n := 5) (ds := []) (D := fun i => i ∈ p1 :: p2 :: (zbk asg ++ zbk bd)) (a0 := a) asg _ _ hpa hda (fun d hd => by simp [hd]) hex gk _ W q1 k3 (Bk.refl n1 W) k2 q2) ?_
   rintro e a2 W2 ⟨a1, rfl, q3, σ2, g2, ⟨rfl, hex2⟩, q4, q5, q6, q7⟩
   have r1 : W2.heap[w.heap.size + 1]? = some (.loop (rec .ready)) := (q6.block _ hl1).trans k5
   refine ⟨_, run_beginRound r1 (by rw [hrec]), ?_⟩
   have q4' := q4.putObj hl1 (hAl g2 q7) (.loop { rec .ready with state := .busy })
   have q5' : LtK n1 (W2.putObj (w.heap.size + 1) (.loop { rec .ready with state := .busy })) := fun b hb => by have := q5 b hb; simpa using this
   refine wpIn_mono (hex2 (some (w.heap.size + 1)) 5 [] n1 _ _ a g2 _ _ q4' q5' (Bk.refl n1 _) q7 q3) ?_
   rintro e a3 W3 ⟨a4, rfl, s3, σ3, g3, ⟨rfl, hwk⟩, s4, s5, s6, s7⟩
   have r2 : W3.heap[w.heap.size + 1]? = some (.loop { rec .ready with state := .busy }) := (s6.block _ hl1).trans (World.putObj_heap_same (Array.getElem?_eq_some_iff.1 r1).1)
   have r3 := run_endRound (P := P) none r2
   obtain ⟨g4, t1, t2, t3⟩ := hwk _ _ _ _ _ s4
   have hA4 : (g4.A0, g4.R0) = A1 := by rw [t2, t3]; exact s7
   have t4 : Rel n1 N (H (k + 1)) g4 a W3 := t1.frame s3 hda' k1.size (hany (k + 1))
   refine ⟨_, _, r3, rfl, ?_⟩
   rw [hJ]
   refine ⟨⟨g4, t4.putObj hl1 (hAl g4 hA4) _, hA4⟩, fun b hb => by have := s5 b hb; simpa using this, ?_, by rw [World.putObj_heap_same (Array.getElem?_eq_some_iff.1 r2).1, hrec]; rfl, ?_⟩
   ·exact (((k4.trans (q6.mono hsub)).trans (Bk.putObj _ hl0 _)).trans (s6.mono hsub)).trans (Bk.putObj _ hl0 _)
   ·rw [World.putObj_heap_other (by omega), s6.block _ hD1, World.putObj_heap_other (by omega), q6.block _ hD1]; exact k6
  ·rw [hJ]
   exact ⟨⟨_, hR1, hA1.symm⟩, hz1, hb1, hL1, hK1⟩
  ·rintro e W2 ⟨⟨v, rfl⟩, h⟩
   rw [hJ] at h
   obtain ⟨⟨gk, k1, k2⟩, k3, k4, k5, k6⟩ := h
   refine ⟨none, _, by have := run_endLoop (P := P) k5 (by rw [hrec]; simp); rw [hrec] at this; exact this, ?_⟩
   have hda' : a.defers = [] := k1.defers
   show Q .normal { a with defers := [{ target := .collected w.heap.size, args := #[] }] ++ a.defers } _
   rw [hda', List.append_nil]
   exact hQ gk _ (k1.putObj hl1 (hAl gk k2) _) (fun b hb => by have := k3 b hb; simpa using this) (k4.trans (Bk.putObj _ hl0 _)) ((World.putObj_heap_other (by omega)).trans k6) k2
def zse (P : Program) (N : Nat) (g : Operand) (ps : Array Tmp) (asg bd q : Code) (Q : Exit -> St -> Prop) (σ : St) : Prop :=
 ∃ (F1 : FuncId) (ag : Bool) (sz t p1 p2 id : Nat) (H : Nat -> St) (rows : List (List T)), g = .tmp t /\ ps = #[p1, p2] /\ zpe P F1 ag sz /\ zaz P F1 /\ (p1 < N /\ p2 < N /\ t < 1000000) /\ (ag = true \/ sz = 1) ∧
  (∀ k, (H k).sl t = .one (.fn F1 [id]) /\ (H k).bx id = some [.rn (.sl sz rows)]) /\ (∀ k, ∀ i ∈ p1 :: p2 :: (zbk asg ++ zbk bd), (H k).sl i = .one .any) ∧
  (∀ k, k < rows.length -> ze7 P asg (((H k).put (some p1) (.one (.t (.int .i64 ((rows.length - 1 - k : Nat) : Int))))).put (some p2) (rowN ag (rows.getD (rows.length - 1 - k) []))) fun e σ2 => e = .normal /\ zdz P N (fun i => i ∈ p1 :: p2 :: (zbk asg ++ zbk bd)) bd σ2 fun e σ3 => e = .normal /\ Wk σ3 (H (k + 1))) ∧
  Wk σ (H 0) /\ ze7 P q (H rows.length) Q
theorem zlw {N n : Nat} {n0 : Nat -> Prop} {w0 : World} {A0 : (Nat -> Prop) × RP} : ∀ {c p q : Code} {g : Operand} {ps : Array Tmp} {asg bd : Code} {Q1 Q2 : Exit -> St -> Prop} {Q : Exit -> Act -> World -> Prop}, zda c = some (p, (g, ps, asg, bd), q) →
  za6 N p = true -> za6 N q = true -> zb4 q = true -> (zb4 asg = true /\ za6 N asg = true) -> (∀ σ, Q1 .normal σ -> zse P N g ps asg bd q Q2 σ) →
  (∀ e a w, e ≠ .normal -> qaa n0 N w0 A0 Q1 e a w -> Q e a w) -> (∀ e a w, zz7 n0 N w0 A0 Q2 e a w -> Q e a w) →
  ∀ {σ : St} {gh : Gh} {a : Act} {w : World}, ze7 P p σ Q1 -> Rel n0 N σ gh a w -> LtK n0 w -> Bk n0 w0 w -> (gh.A0, gh.R0) = A0 -> c.wpIn (FR none) n P Q a w := by
 intro c
 have loop : ∀ {g : Operand} {ps : Array Tmp} {asg bd : Code} {Q1 Q2 : Exit -> St -> Prop} {Q : Exit -> Act -> World -> Prop}, (zb4 asg = true /\ za6 N asg = true) -> (∀ σ, Q1 .normal σ -> zse P N g ps asg bd .skip Q2 σ) →
   (∀ a w, zz7 n0 N w0 A0 Q2 .normal a w -> Q .normal a w) -> ∀ {σ : St} {gh : Gh} {a : Act} {w : World}, ze7 P .skip σ Q1 -> Rel n0 N σ gh a w -> LtK n0 w -> Bk n0 w0 w -> (gh.A0, gh.R0) = A0 -> (Code.rangeFunc g ps asg bd).wpIn (FR none) n P Q a w := by
  intro g ps asg bd Q1 Q2 Q ha hL hq σ gh a w hex hR hn hb hA
  obtain ⟨F1, ag, sz, t, p1, p2, id, H, rows, rfl, rfl, h1, h2, h3, h4, h5, h6, h7, h8, h9⟩ := hL σ hex
  obtain ⟨g1, k1, k2, k3⟩ := h8 _ _ _ _ _ hR
  refine zja h1 h2 ha.1 ha.2 h3.1 h3.2.1 h3.2.2 H rows h4 h5 h6 h7 k1 hn hb fun g' w' q1 q2 q3 q4 q5 => hq _ _ ?_
  refine ⟨w.heap.size, _, a, H rows.length, g', rfl, h9, q1, q2, q3, q4, Or.inr (Or.inl rfl), hn.new (Nat.le_refl _), fun b hb => Or.inl hb, ?_, ?_, ?_⟩
  ·rw [(Prod.mk.inj q5).1]; exact fun h => h.2.1 rfl
  ·rw [(Prod.mk.inj q5).1, <- hA]; intro b hb; rw [k2] at hb; exact hb.1
  ·rw [(Prod.mk.inj q5).2, <- hA]; exact k3
 induction c with
 | rangeFunc g ps asg bd _ _ =>
  intro p q g' ps' asg' bd' Q1 Q2 Q h hdp hdq hpq ha hL hx hq σ gh a w hex hR hn hb hA
  simp only [zda, Option.some.injEq, Prod.mk.injEq] at h
  obtain ⟨rfl, ⟨rfl, rfl, rfl, rfl⟩, rfl⟩ := h
  exact loop ha hL (fun a w => hq .normal a w) hex hR hn hb hA
 | block i b _ =>
  intro p q g' ps' asg' bd' Q1 Q2 Q h hdp hdq hpq ha hL hx hq σ gh a w hex hR hn hb hA
  cases b with
  | rangeFunc g ps asg bd =>
   simp only [zda, Option.some.injEq, Prod.mk.injEq] at h
   obtain ⟨rfl, ⟨rfl, rfl, rfl, rfl⟩, rfl⟩ := h
   exact wpIn_block (loop (Q := Exit.inBlock i Q) ha hL (fun a w k => hq .normal a w k) hex hR hn hb hA)
  | _ => simp [zda] at h
 | seq x y ihx ihy =>
  intro p q g' ps' asg' bd' Q1 Q2 Q h hdp hdq hpq ha hL hx hq σ gh a w hex hR hn hb hA
  unfold zda at h
  split at h
  ·rename_i p1 r1 q1 hs
   simp only [Option.some.injEq, Prod.mk.injEq] at h
   obtain ⟨rfl, rfl, rfl⟩ := h
   simp only [za6, zb4, Bool.and_eq_true] at hdq hpq
   refine wpIn_seq (ihx (Q1 := Q1) (Q2 := fun e σ => match e with | .normal => ze7 P y σ Q2 | e => Q2 e σ) hs hdp hdq.1 hpq.1 ha hL (fun e a w he k => ?_) (fun e a w k => ?_) hex hR hn hb hA)
   ·have := hx e a w he k
    cases e <;> first | exact absurd rfl he | exact this
   ·cases e with
    | normal => exact wpIn_mono (zr5 hpq.2 hdq.2 k) hq
    | exit i => exact hq _ _ _ k
    | goto l => exact hq _ _ _ k
    | ret => exact hq _ _ _ k
    | panic ch => exact hq _ _ _ k
    | outgrown => exact hq _ _ _ k
  ·split at h
   ·rename_i p1 r1 q1 hs
    simp only [Option.some.injEq, Prod.mk.injEq] at h
    obtain ⟨rfl, rfl, rfl⟩ := h
    simp only [za6, Bool.and_eq_true] at hdp
    refine wpIn_seq (wpIn_mono (Q := qaa n0 N w0 A0 _) ((wpIn_wide (n := n)).2 (za7 x σ _ hdp.1 hex gh a w hR hn hb hA)) fun e a' w' k => ?_)
    cases e with
    | normal =>
     obtain ⟨σ', g', h1, h2, h3, h4, h5⟩ := k
     exact ihy hs hdp.2 hdq hpq ha hL hx hq h1 h2 h3 h4 h5
    | exit i => exact hx _ _ _ (by simp) k
    | goto l => exact hx _ _ _ (by simp) k
    | ret => exact hx _ _ _ (by simp) k
    | panic ch => exact hx _ _ _ (by simp) k
    | outgrown => exact hx _ _ _ (by simp) k
   ·cases h
 | _ => intro p q g' ps' asg' bd' Q1 Q2 Q h; simp [zda] at h
theorem FC_ofR {f : FuncId} {fn : Func} {c p q asg bd : Code} {g : Operand} {ps : Array Tmp} {args res : List D} (hc : zaz P f) (hf : P.funcs[f]? = some fn) (hb : fn.body = some c) (hs : zda c = some (p, (g, ps, asg, bd), q))
  (hd : (za6 fn.ntmps p && za6 fn.ntmps q && zb4 q && (zb4 asg && za6 fn.ntmps asg)) = true) (hN : (rd args).length <= fn.ntmps)
  (h : ex P p [] (fun e σ => match e with | .normal => zse P fn.ntmps g ps asg bd q (PS P fn.results.toList res) σ | .ret => PS P fn.results.toList res .ret σ | _ => False) (zft args)) : FC P f args res := by
 refine ⟨hc, fun w vs fp tp hv hn => ?_⟩
 refine (zes (r := none) (n := 0)).1 (callsIn_of_wp_marks hf hb trivial ?_)
 obtain ⟨hr, rfl, rfl⟩ := zbq hv
 have hv' : zao w (fun b => b < w.heap.size /\ True /\ b ∉ ([] : List Nat)) (rd args) vs [] [] := zao.keepA (fun b hb => ⟨hb.1, trivial, hb.2⟩) hv
 obtain ⟨gh, hg, hR⟩ := Rel.start (A0 := fun _ => True) (R0 := RP.of fun b => b ∈ ([] : List Nat) \/ w.heap.size <= b) (N := fn.ntmps) hv' hn (zci args) hN (fun _ _ => trivial) (fun b hb => ⟨trivial, Or.inl hb⟩) (fun b hb => ⟨trivial, by
  by_cases hlt : b < w.heap.size
  ·exact Or.inl (Classical.byContradiction fun h => hb ⟨hlt, h⟩)
  ·exact Or.inr (by omega)⟩)
 have hR0 : Rel (fun b => b < w.heap.size /\ b ∉ ([] : List Nat)) fn.ntmps (zft args) gh { tmps := (⟨vs⟩ : Array Value) ++ Array.replicate (fn.ntmps - vs.length) undef, defers := [] } w := zhm hr hR ⟨rfl, hg⟩
 simp only [Bool.and_eq_true] at hd
 obtain ⟨⟨⟨d1, d2⟩, d3⟩, d4, d5⟩ := hd
 refine zlw (n := 0) (w0 := w) hs d1 d2 d3 ⟨d4, d5⟩ (fun σ h => h) ?_ ?_ h hR0 (fun k hk => hk.1) (Bk.refl _ _) hg
 ·rintro e a' w' he ⟨σ', g', h1, h2, h3, h4, h5⟩
  cases e with
  | normal => exact absurd rfl he
  | ret =>
   have hr0 : g'.R0 = RP.of fun b => b ∈ ([] : List Nat) \/ w.heap.size <= b := (Prod.mk.inj h5).2
   obtain ⟨v, r1, us, fp', tp', r2, r3, r4, r5⟩ := qdp h2 hr0 fn h1
   show LeavesInM _ _ _ _ _ _ a'.defers .returning w'
   rw [h2.defers]
   exact ⟨v, r1, us, fp', tp', r2, r3, r4, r5, h4⟩
  | exit _ => exact h1.elim
  | goto _ => exact h1.elim
  | panic _ => exact h1.elim
  | outgrown => exact h1.elim
 ·rintro e a' w' ⟨D, n1, a1, σ, g', rfl, h1, h2, h3, h4, h5, h6, h7, h8, h9, h10, h11⟩
  have hk : (e = .normal \/ e = .ret) /\ (zal (zbf P σ fn.results.toList) (fun vs => zqv σ [] vs res) \/ PX P fn.results.toList res σ) := by
   cases e with
   | normal => exact ⟨Or.inl rfl, h1⟩
   | ret => exact ⟨Or.inr rfl, h1⟩
   | exit _ => exact h1.elim
   | goto _ => exact h1.elim
   | panic _ => exact h1.elim
   | outgrown => exact h1.elim
  have q1 := (h2.putObj h6 h9 (.deferred none)).leave (n0 := fun b => b < w.heap.size /\ b ∉ ([] : List Nat)) (A1 := fun _ => True) h8 (fun _ _ => trivial) (fun b hb => ⟨trivial, by
   rw [h11]
   by_cases hlt : b < w.heap.size
   ·exact absurd ⟨hlt, by simp⟩ hb
   ·exact Or.inr (by omega)⟩)
  obtain ⟨v, r1, us, fp', tp', r2, r3, r4, r5⟩ := qdp q1 h11 fn hk.2
  have main : LeavesInM (FR none) 0 P fn a1.tmps (fun e w' => ∃ us fp' tp', e = .returned (zbd us) /\ GDs w' res us fp' tp' /\ fp'.Nodup /\ (∀ b ∈ fp', b ∈ ([] : List Nat) \/ w.heap.size <= b) /\ Bk (fun k => k < w.heap.size /\ k ∉ ([] : List Nat)) w w') [{ target := .collected D, args := #[] }] .returning w' :=
   ⟨by simp, Or.inl ⟨D, _, rfl, run_takeDeferred h5, ⟨v, r1, us, fp', tp', r2, r3, r4, r5, h4.trans (Bk.putObj _ h7 _)⟩⟩⟩
  rcases hk.1 with rfl | rfl <;> exact main
def nkR (σ' : St) (e : Exit) (σ : St) : Prop := match e with
 | .normal => Wk σ σ'
 | _ => False
theorem zsr (σ' σ : St) : nkR σ' .normal σ = Wk σ σ' := rfl
def RdR (P : Program) (N : Nat) (D : Nat -> Prop) (bd : Code) (σ' : St) (e : Exit) (σ : St) : Prop := match e with
 | .normal => zdz P N D bd σ (nkR σ')
 | _ => False
theorem loopR {N t p1 p2 : Nat} {asg bd q : Code} {Q : Exit -> St -> Prop} {σ : St} {F1 : FuncId} {ag : Bool} {sz : Nat} (hB : zpe P F1 ag sz) (hc : zaz P F1) (id : Nat) (H : Nat -> St) (rows : List (List T)) (h1 : (decide (p1 < N) && decide (p2 < N) && decide (t < 1000000)) = true) (h2 : (ag || sz == 1) = true)
  (h3 : ∀ k, (H k).sl t = .one (.fn F1 [id]) /\ (H k).bx id = some [.rn (.sl sz rows)]) (h4 : ∀ k, zx5 (H k).sl (p1 :: p2 :: (zbk asg ++ zbk bd))) (h6 : Wk σ (H 0))
  (h5 : ∀ k, k < rows.length -> ex P asg [] (RdR P N (fun i => i ∈ p1 :: p2 :: (zbk asg ++ zbk bd)) bd (H (k + 1))) (((H k).put (some p1) (.one (.t (.int .i64 ((rows.length - 1 - k : Nat) : Int))))).put (some p2) (rowN ag (rows.getD (rows.length - 1 - k) []))))
  (h7 : ex P q [] Q (H rows.length)) : zse P N (.tmp t) #[p1, p2] asg bd q Q σ := by
 simp only [Bool.and_eq_true, decide_eq_true_eq, Bool.or_eq_true, beq_iff_eq] at h1 h2
 refine ⟨F1, ag, sz, t, p1, p2, id, H, rows, rfl, rfl, hB, hc, ⟨h1.1.1, h1.1.2, h1.2⟩, h2, h3, fun k => zir (h4 k), fun k hk => ?_, h6, h7⟩
 refine zb1 (fun e σ2 h => ?_) (h5 k hk)
 cases e with
 | normal =>
  refine ⟨rfl, fun r n ds n0 w0 A0 a0 g a w k1 k2 k3 k4 k5 => wpIn_mono (h r n ds n0 w0 A0 a0 g a w k1 k2 k3 k4 k5) fun e a' w' => zrl.mono fun e σ3 h => ?_⟩
  cases e with
  | normal => exact ⟨rfl, h⟩
  | exit _ => exact (show False from h).elim
  | goto _ => exact (show False from h).elim
  | ret => exact (show False from h).elim
  | panic _ => exact (show False from h).elim
  | outgrown => exact (show False from h).elim
 | exit _ => exact (show False from h).elim
 | goto _ => exact (show False from h).elim
 | ret => exact (show False from h).elim
 | panic _ => exact (show False from h).elim
 | outgrown => exact (show False from h).elim
def HdR (P : Program) (fn : Func) (res : List D) (g : Operand) (ps : Array Tmp) (asg bd q : Code) (e : Exit) (σ : St) : Prop := match e with
 | .normal => zse P fn.ntmps g ps asg bd q (PS P fn.results.toList res) σ
 | .ret => PS P fn.results.toList res .ret σ
 | _ => False
theorem zr3 (fn : Func) (res : List D) (g : Operand) (ps : Array Tmp) (asg bd q : Code) (σ : St) : HdR P fn res g ps asg bd q .normal σ = zse P fn.ntmps g ps asg bd q (PS P fn.results.toList res) σ := rfl
theorem zs0 (N : Nat) (D : Nat -> Prop) (bd : Code) (σ' σ : St) : RdR P N D bd σ' .normal σ = zdz P N D bd σ (nkR σ') := rfl
theorem zl7 (N : Nat) (D : Nat -> Prop) (y : Code) (Q : Exit -> St -> Prop) (σ : St) : thenR P N D y Q .normal σ = zdz P N D y σ Q := rfl
theorem qgj {f : FuncId} {fn : Func} {c p q asg bd : Code} {g : Operand} {ps : Array Tmp} {args res : List D} (hc : zaz P f) (hf : P.funcs[f]? = some fn) (hb : fn.body = some c) (hs : zda c = some (p, (g, ps, asg, bd), q))
  (hd : (za6 fn.ntmps p && za6 fn.ntmps q && zb4 q && (zb4 asg && za6 fn.ntmps asg)) = true) (hN : (rd args).length <= fn.ntmps)
  (h : ex P p [] (HdR P fn res g ps asg bd q) (zft args)) : FC P f args res :=
 FC_ofR hc hf hb hs hd hN (zb1 (fun e σ h => by cases e <;> exact h) h)
attribute [go_sem] zr3 zs0 zsr zl7
end Go.Proofs.Yteeaofpphmhjdaa
namespace Go.Proofs.Yteeaofpphmhjdaa
set_option linter.unusedSimpArgs false
set_option linter.unusedVariables false
set_option linter.unusedSectionVars false
set_option maxRecDepth 4000
open Go.RowKit
variable {P : Program}
def VDn (σ : St) : List V -> List D -> Prop
 | [], ds => ds = []
 | v :: vs, ds => ∃ d ds', ds = d :: ds' /\ (VD σ v d \/ ∃ s sz, v = .one (.nl s) /\ d = .one (.pin (.slice none 0 0) (.sl sz []))) /\ VDn σ vs ds'
theorem VD.rep1 {n0 : Nat -> Prop} {N : Nat} {σ : St} {g : Gh} {a : Act} {w : World} (hR : Rel n0 N σ g a w) {x : V} {d : D} (h : VD σ x d) {v : Value} (hv : VR σ g w x v) : zta w (· < w.heap.size) d v := by
 have : VDs σ [x] [d] := ⟨d, [], rfl, h, rfl⟩
 obtain ⟨_, _, e, h1, _⟩ := VDs.rep hR this (vs := [v]) ⟨v, [], rfl, hv, rfl⟩
 cases e
 exact h1
theorem VDn.rep {n0 : Nat -> Prop} {N : Nat} {σ : St} {g : Gh} {a : Act} {w : World} (hR : Rel n0 N σ g a w) : ∀ {xs : List V} {ds : List D}, VDn σ xs ds -> ∀ {vs : List Value}, VRl σ g w xs vs -> zbc w (· < w.heap.size) ds vs
 | [], ds, h, vs, hv => by rw [show ds = [] from h]; exact hv
 | x :: xs, ds, h, vs, hv => by
  obtain ⟨d, ds', rfl, h1, h2⟩ := h
  obtain ⟨v, vs', rfl, k1, k2⟩ := hv
  refine ⟨v, vs', rfl, ?_, VDn.rep hR h2 k2⟩
  rcases h1 with h1 | ⟨s, sz, rfl, rfl⟩
  ·exact VD.rep1 hR h1 k1
  ·have k1 : v = .slice none 0 0 := k1
   subst k1
   show zaf _ _ (.pin _ _) _
   unfold zaf
   refine ⟨rfl, ?_⟩
   unfold zaf
   exact ⟨none, 0, rfl, Nat.le_refl _, by simp, Or.inl rfl⟩
theorem zrs {o : Oper} {σ : St} {x : Operand} {asx : Array Operand} {ts : Array TypeId} {f : FuncId} {cvs : List V} {d : Nat} {ds res : List D} (ho : o.op = .call ⟨.value x, asx, ts⟩) (hd : o.dst = some d)
  (h : FC P f ds res) (hc : zau (σ.get P 0 x) = some (f, cvs)) (hv : VDn σ (σ.gets P asx ts ++ cvs) ds) (hf : zg1 d 0 (za2 res) σ.ev) : zad P o σ (σ.callF d res) := by
 intro n0 N g a w hR hn hdN
 obtain ⟨vs, h1, h2⟩ := zc7 hR ho hc h.1
 unfold Oper.wp
 rw [h1]
 refine (h.use (VDn.rep hR hv h2)).mono ?_
 rintro e w' ⟨us, fp, rfl, o1, o2, o3, hb⟩
 obtain ⟨g', k1, k2, k3⟩ := New.cells (σ := σ) (g := g) (NB := (w.heap.size <= ·)) (w' := w') d (za2 res) _ fp 0 σ.ev g [] (New.refl _ _ _ _ hR.slc) (fun e h1 h2 => absurd h1 h2) hf o1.cells o2 (fun b hb' => ⟨o3 b hb', by simp⟩)
 have hR' := hR.after hn hb k1
 refine ⟨g', ?_, Bk.of_below hb hn, k1.A0, k1.R0⟩
 have hp := hR'.put (some d) (x := znd (zs5 d 0 res)) (v := zbd us) (zey (zjw d 0 o1 (k3 _ _ rfl)) (zg7 d res 0)) (fun i hi => by cases hi; exact hdN d hd)
 rw [hd]
 exact hp
section
variable {ks : List Fr} {Q : Exit -> St -> Prop} {σ : St} {ops : Array Oper} {os : List Oper} {ty : TypeId} {ps : String} {af : Array Edge}
theorem callFn {d : Nat} {x : Operand} {asx : Array Operand} {ts : Array TypeId} {f : FuncId} {ds res : List D} (h : FC P f ds res) (hp : zal (zau (σ.get P 0 x)) fun p => p.1 = f /\ VDn σ (σ.gets P asx ts ++ p.2) ds /\ zg1 d 0 (za2 res) σ.ev)
  (k : exo P ops os ks Q (σ.callF d res)) : exo P ops (⟨some d, .call ⟨.value x, asx, ts⟩, ty, ps, af, none⟩ :: os) ks Q σ := by
 obtain ⟨⟨f', cvs⟩, h1, rfl, h2, h3⟩ := zai hp
 exact zco rfl rfl (zrs rfl rfl h h1 h2 h3) k
end
theorem vdn_nl (σ : St) (s sz : Nat) (vs : List V) (ds : List D) : VDn σ (.one (.nl s) :: vs) (.one (.pin (.slice none 0 0) (.sl sz [])) :: ds) = VDn σ vs ds := propext ⟨fun h => by
 obtain ⟨d, ds', e, _, h⟩ := h
 obtain ⟨rfl, rfl⟩ := List.cons.inj e
 exact h, fun h => ⟨_, _, rfl, Or.inr ⟨_, _, rfl, rfl⟩, h⟩⟩
theorem vdn_t (σ : St) (t : T) (vs : List V) (ds : List D) : VDn σ (.one (.t t) :: vs) (.one t :: ds) = VDn σ vs ds := propext ⟨fun h => by
 obtain ⟨d, ds', e, _, h⟩ := h
 obtain ⟨rfl, rfl⟩ := List.cons.inj e
 exact h, fun h => ⟨_, _, rfl, Or.inl rfl, h⟩⟩
theorem qff (σ : St) : VDn σ [] [] = True := by unfold VDn; simp
end Go.Proofs.Yteeaofpphmhjdaa
namespace Go.Proofs
open Go.Shelf
set_option maxRecDepth 100000
def Try.laysSF_ren : Go.Shelf.Ren := ⟨fun | 6 => 61 | 15 => 107 | 14 => 106 | 28 => 127 | 29 => 128 | 20 => 119 | 21 => 120 | 22 => 121 | 23 => 122 | 24 => 123 | 25 => 124 | 26 => 125 | 27 => 126 | 46 => 132 | 47 => 133 | 48 => 134 | 49 => 135 | 50 => 136 | 57 => 137 | n => n, fun | 22 => 27 | 24 => 3 | 25 => 74 | 3 => 3 | 39 => 113 | 0 => 0 | 53 => 127 | 55 => 58 | 4 => 4 | 46 => 121 | 45 => 120 | 50 => 37 | 5 => 5 | 9 => 9 | 66 => 130 | 70 => 134 | 76 => 136 | 77 => 75 | n => n, fun | n => n⟩
theorem Try.laysSF : Go.Proofs.SlLaysF.n6 Try.prog Try.laysSF_ren := {
 mixed := by kernel_rfl
 f6 := ⟨Try.f61.name, by decide, Try.func61.trans (congrArg some (by kernel_rfl))⟩
 f14 := ⟨Try.f106.name, by decide, Try.func106.trans (congrArg some (by kernel_rfl))⟩
 f15 := Try.func107.trans (congrArg some (by kernel_rfl))
 f20 := ⟨Try.f119.name, by decide, Try.func119.trans (congrArg some (by kernel_rfl))⟩
 f21 := ⟨Try.f120.name, by decide, Try.func120.trans (congrArg some (by kernel_rfl))⟩
 f22 := ⟨Try.f121.name, by decide, Try.func121.trans (congrArg some (by kernel_rfl))⟩
 f23 := ⟨Try.f122.name, by decide, Try.func122.trans (congrArg some (by kernel_rfl))⟩
 f24 := ⟨Try.f123.name, by decide, Try.func123.trans (congrArg some (by kernel_rfl))⟩
 f25 := ⟨Try.f124.name, by decide, Try.func124.trans (congrArg some (by kernel_rfl))⟩
 f26 := ⟨Try.f125.name, by decide, Try.func125.trans (congrArg some (by kernel_rfl))⟩
 f27 := ⟨Try.f126.name, by decide, Try.func126.trans (congrArg some (by kernel_rfl))⟩
 f28 := Try.func127.trans (congrArg some (by kernel_rfl))
 f29 := Try.func128.trans (congrArg some (by kernel_rfl))
 f46 := ⟨Try.f132.name, by decide, Try.func132.trans (congrArg some (by kernel_rfl))⟩
 f47 := Try.func133.trans (congrArg some (by kernel_rfl))
 f48 := Try.func134.trans (congrArg some (by kernel_rfl))
 f49 := ⟨Try.f135.name, by decide, Try.func135.trans (congrArg some (by kernel_rfl))⟩
 f50 := ⟨Try.f136.name, by decide, Try.func136.trans (congrArg some (by kernel_rfl))⟩
 f57 := ⟨Try.f137.name, by decide, Try.func137.trans (congrArg some (by kernel_rfl))⟩
 t0 := Try.underlying0
 a0 := Try.isAgg0
 z0 := Try.sizeOf0
 v0 := Try.zeroValue0
 t3 := Try.underlying3
 a3 := Try.isAgg3
 z3 := Try.sizeOf3
 v3 := Try.zeroValue3
 t4 := Try.underlying4
 a4 := Try.isAgg4
 z4 := Try.sizeOf4
 v4 := Try.zeroValue4
 t5 := Try.underlying5
 a5 := Try.isAgg5
 z5 := Try.sizeOf5
 v5 := Try.zeroValue5
 t9 := Try.underlying9
 a9 := Try.isAgg9
 z9 := Try.sizeOf9
 v9 := Try.zeroValue9
 t22 := Try.underlying27
 a22 := Try.isAgg27
 z22 := Try.sizeOf27
 v22 := Try.zeroValue27
 a24 := Try.isAgg3
 z24 := Try.sizeOf3
 t25 := Try.underlying74
 a25 := Try.isAgg74
 z25 := Try.sizeOf74
 v25 := Try.zeroValue74
 t39 := Try.underlying113
 a39 := Try.isAgg113
 z39 := Try.sizeOf113
 v39 := Try.zeroValue113
 t45 := Try.underlying120
 a45 := Try.isAgg120
 z45 := Try.sizeOf120
 v45 := Try.zeroValue120
 t46 := Try.underlying121
 a46 := Try.isAgg121
 z46 := Try.sizeOf121
 v46 := Try.zeroValue121
 t50 := Try.underlying37
 a50 := Try.isAgg37
 z50 := Try.sizeOf37
 v50 := Try.zeroValue37
 t53 := Try.underlying127
 a53 := Try.isAgg127
 z53 := Try.sizeOf127
 v53 := Try.zeroValue127
 t55 := Try.underlying58
 a55 := Try.isAgg58
 z55 := Try.sizeOf58
 v55 := Try.zeroValue58
 t66 := Try.underlying130
 a66 := Try.isAgg130
 z66 := Try.sizeOf130
 v66 := Try.zeroValue130
 t70 := Try.underlying134
 a70 := Try.isAgg134
 z70 := Try.sizeOf134
 v70 := Try.zeroValue134
 t76 := Try.underlying136
 a76 := Try.isAgg136
 z76 := Try.sizeOf136
 v76 := Try.zeroValue136
 t77 := Try.underlying75
 a77 := Try.isAgg75
 z77 := Try.sizeOf75
 v77 := Try.zeroValue75 }
end Go.Proofs
namespace Go.Proofs.Yteeaofpphmhjdaa
set_option linter.unusedSimpArgs false
set_option linter.unusedVariables false
set_option linter.unusedSectionVars false
set_option maxRecDepth 4000
open Go.RowKit
theorem zkg (xs : List Int) (i : Nat) (v : Int) (hi : i < xs.length) : zcq (xs.map fun s => [T.int .i64 s]) i 0 [.int .i64 v] = (xs.set i v).map fun s => [T.int .i64 s] := by
 unfold zcq setR
 rw [List.getD_eq_getElem?_getD, List.getElem?_map, List.getElem?_eq_getElem hi]
 simp [List.map_set]
theorem zvInt : ∀ w, (zeroValue 3).run Try.prog w = .ok (.int .i64 0) w := Try.zeroValue3
theorem zmk (xs : List Int) (p : Int -> Bool) (g : FuncId) (caps : List T) (H : ∀ x ∈ xs, FC Try.prog g (iD x :: caps.map .one) [bD (p x)]) : FC Try.prog 117 [.one (zas xs), .one (.fn g caps)] [iD (zsw xs p)] := by
 refine zd2 (fun hw => ?_) Try.call117
 have hl : xs.length <= 9223372036854775807 := by simpa [zm1, wfT] using hw.1.1
 refine zay Try.call117 Try.func117 rfl (by kernel_rfl) (zbb (by kernel_rfl)) ?_
 simp -implicitDefEqProofs only [go_sem, Try.results117]
 refine zak (fun k : Nat => hd [(0, vT (zas xs)), (1, vT (.fn g caps)), (7, vI xs.length), (8, vI k)] [] []) (fun k => k <= xs.length /\ ∀ x ∈ xs.take k, p x = false) (fun k => xs.length - k) 0 (zaa ?_) ?_ ?_
 ·simp -implicitDefEqProofs only [go_sem]
 ·simp
 ·intro k ⟨hk, hr⟩
  by_cases hlt : k < xs.length
  ·simp -implicitDefEqProofs only [go_sem, zag, hlt, ne_eq]
   refine callF (H xs[k] (List.getElem_mem hlt)) (by simp -implicitDefEqProofs only [go_sem, ne_eq]) ?_
   simp -implicitDefEqProofs only [go_sem, ne_eq]
   refine ⟨fun h => ?_, fun h => ⟨k + 1, ⟨hlt, zds hlt hr h⟩, by omega, zaa (by simp -implicitDefEqProofs only [go_sem]; rw [zaw (by omega)])⟩⟩
   rw [zeo hlt hr h]
  ·simp -implicitDefEqProofs only [go_sem, hlt]
   rw [List.take_of_length_le (by omega)] at hr
   rw [zfo hr]
def kq (p : Int -> Bool) (x : Int) : Bool := !p x
def kpq (p : Int -> Bool) (xs : List Int) (j : Nat) : List Int := (xs.take j).filter (kq p)
theorem zpt (p : Int -> Bool) (xs : List Int) {j : Nat} (h : j < xs.length) : kpq p xs (j + 1) = kpq p xs j ++ if kq p xs[j] = true then [xs[j]] else [] := by
 unfold kpq
 rw [List.take_succ_eq_append_getElem h, List.filter_append]
 congr 1
 rw [List.filter_cons]
 split <;> simp
abbrev bxA1 (a : List Int) : Bxs := [[(false, zas a)]]
set_option maxHeartbeats 2000000 in
theorem delF_c (xs : List Int) (a : List Int) (p : Int -> Bool) (g : FuncId) (hl : xs.length <= 1048577) (H : ∀ x ∈ xs, FC Try.prog g [iD x, .one (.ptr [zas a])] [bD (p x)]) : PC Try.prog 104 (bxA1 a) [.d true (.one (zas xs)), .fn g [0]] (bxA1 a) [(true, .one (zas (xs.filter (kq p))))] := by
 have HI := zmk xs p g [.ptr [zas a]] H
 refine zpn Try.call104 Try.func104 rfl (by simp only [List.length_cons, List.length_nil, Try.ntmps104]; omega) (by simp only [Try.ntmps104]; omega) rfl rfl (by simp [za8, T.isPin, AF.ds, bxA]) (by simp [gFS, T.fs, T.flat, AF.ds, bxA]) rfl ?_
 by_cases hany : (xs.any p) = true
 ·obtain ⟨c, hc, hid, hno, hye⟩ : ∃ c, ∃ hc : c < xs.length, zsw xs p = (c : Nat) /\ (∀ x ∈ xs.take c, p x = false) /\ p xs[c] = true := by
   have hlt : xs.findIdx p < xs.length := List.findIdx_lt_length.2 (List.any_eq_true.1 hany)
   refine ⟨_, hlt, ?_, fun x hx => ?_, List.findIdx_getElem (p := p) (w := hlt)⟩
   ·unfold zsw; rw [if_pos hany]
   ·obtain ⟨q, hq, rfl⟩ := List.getElem_of_mem hx
    rw [List.length_take] at hq
    rw [List.getElem_take]
    have := List.not_of_lt_findIdx (p := p) (xs := xs) (show q < xs.findIdx p by omega)
    simpa using this
  rw [hid] at HI
  have hn1 : ((c : Int) == -1) = false := by rw [beq_eq_false_iff_ne]; omega
  have hw1 : IntKind.i64.wrap ((c : Int) + 1) = ((c + 1 : Nat) : Int) := zaw (by omega)
  have hk0 : kpq p xs (c + 1) = xs.take c := by
   rw [zpt p xs hc]
   unfold kpq
   rw [show kq p xs[c] = false by unfold kq; rw [hye]; rfl, if_neg (by simp), List.append_nil, List.filter_eq_self]
   intro x hx
   unfold kq
   rw [hno x hx]; rfl
  refine za4.cut 3 rfl (by kernel_rfl) ?_
  simp -implicitDefEqProofs only [go_sem, Try.results104]
  refine callF (HI) (by simp -implicitDefEqProofs only [go_sem, hn1, hw1]) ?_
  simp -implicitDefEqProofs only [go_sem, hn1, hw1]
  refine zak (fun x : Nat × List Int => hd [(0, .one (.ow 0 0)), (1, .one (.fn g [1000000])), (5, vI (kpq p xs x.1).length), (6, vI x.1), (1000000, .one (.bx 1000000 0))] [(1000000, [.rn (zas a)])] [(0, ⟨true, 1, x.2.map fun s => [.int .i64 s], 0, true⟩)])
   (fun x => x.1 <= xs.length /\ x.2.length = xs.length /\ x.2.take (kpq p xs x.1).length = kpq p xs x.1 /\ x.2.drop x.1 = xs.drop x.1 /\ (kpq p xs x.1).length < x.1) (fun x => xs.length - x.1) (c + 1, xs) (zaa ?_) ?_ ?_
  ·simp -implicitDefEqProofs only [go_sem]
   rw [hk0, List.length_take, Nat.min_eq_left (by omega)]
  ·refine ⟨hc, rfl, ?_, rfl, ?_⟩
   ·rw [hk0, List.length_take, Nat.min_eq_left (by omega)]
   ·rw [hk0, List.length_take]; simp only; omega
  ·rintro ⟨j, R⟩ ⟨hj, hRl, hRt, hRd, hcj⟩
   simp only at hj hRl hRt hRd hcj
   by_cases hlt : j < xs.length
   ·have hjR : j < R.length := by omega
    have hRj : R[j] = xs[j] := by
     have := congrArg (fun l => l[0]?) hRd
     simp only [List.getElem?_drop, Nat.add_zero, List.getElem?_eq_getElem hjR, List.getElem?_eq_getElem hlt] at this
     exact Option.some.inj this
    have hks := zpt p xs hlt
    have HC := H xs[j] (List.getElem_mem hlt)
    have hcR : (kpq p xs j).length < R.length := by omega
    have hlRi : ((j : Int) < (R.length : Int)) = True := by simp; omega
    have hRd2 : R.drop (j + 1) = xs.drop (j + 1) := by
     have := congrArg (List.drop 1) hRd
     simpa [List.drop_drop] using this
    cases hb : p xs[j]
    ·rw [hb] at HC
     rw [show kq p xs[j] = true by unfold kq; rw [hb]; rfl, if_pos rfl] at hks
     have hst := zkg R (kpq p xs j).length xs[j] hcR
     simp -implicitDefEqProofs only [go_sem, hlRi, hjR, zag, hRj]
     refine callF (HC) (by simp -implicitDefEqProofs only [go_sem]) ?_
     simp -implicitDefEqProofs only [go_sem]
     refine ⟨hcR, ?_⟩
     refine zeu (by simp -implicitDefEqProofs only [go_sem]; simp) ?_
     simp -implicitDefEqProofs only [go_sem, hst]
     refine ⟨(j + 1, R.set (kpq p xs j).length xs[j]), ⟨hlt, by rw [List.length_set]; exact hRl, ?_, ?_, ?_⟩, by simp only; omega, zaa ?_⟩
     ·simp only
      rw [hks, List.length_append, List.length_singleton, List.take_succ_eq_append_getElem (by rw [List.length_set]; exact hcR), List.getElem_set_self, List.take_set_of_le (Nat.le_refl _), hRt]
     ·simp only
      rw [List.drop_set_of_lt (by omega)]
      exact hRd2
     ·simp only
      rw [hks, List.length_append, List.length_singleton]; omega
     ·simp -implicitDefEqProofs only [go_sem]
      rw [zaw (by omega), zaw (by omega), hks, List.length_append, List.length_singleton]
      exact ⟨rfl, rfl⟩
    ·rw [hb] at HC
     rw [show kq p xs[j] = false by unfold kq; rw [hb]; rfl, if_neg (by simp), List.append_nil] at hks
     simp -implicitDefEqProofs only [go_sem, hlRi, hjR, zag, hRj]
     refine callF (HC) (by simp -implicitDefEqProofs only [go_sem]) ?_
     simp -implicitDefEqProofs only [go_sem]
     refine ⟨(j + 1, R), ⟨hlt, hRl, by rw [hks]; exact hRt, hRd2, by rw [hks]; simp only; omega⟩, by simp only; omega, zaa ?_⟩
     simp -implicitDefEqProofs only [go_sem]
     rw [zaw (by omega), hks]
     exact ⟨rfl, rfl⟩
   ·have hlRi : ((j : Int) < (R.length : Int)) = False := by simp; omega
    have hjn : j = xs.length := by omega
    subst hjn
    have hkf : kpq p xs xs.length = xs.filter (kq p) := by unfold kpq; rw [List.take_length]
    rw [hkf] at hRt hcj ⊢
    generalize xs.filter (kq p) = F at hRt hcj ⊢
    have hFR : F.length < R.length := by omega
    have hflR : ∀ l : List Int, flR (l.map fun s => [T.int .i64 s]) = true := fun l => by
     induction l with
     | nil => rfl
     | cons a l ih => rw [List.map_cons]; unfold flR; rw [ih]; rfl
    simp -implicitDefEqProofs only [go_sem, hlRi]
    refine za4.seq ?_
    refine za4.clr 2 (.int .i64 0) rfl rfl rfl rfl (by kernel_rfl) (by simp only [Try.ntmps104]; omega) (el := 3) (by kernel_rfl) (by kernel_rfl) zvInt rfl rfl (fun w => by unfold zar; exact ⟨rfl, by decide, by decide, rfl⟩) rfl ?_
    simp -implicitDefEqProofs only [go_sem, List.take_succ_cons, List.take_zero, hflR]
    refine ⟨hFR, ?_⟩
    obtain ⟨Z, hZ⟩ : ∃ Z, List.take F.length (R.map fun s => [T.int .i64 s]) ++ List.replicate (R.length - F.length) [T.int .i64 0] = Z := ⟨_, rfl⟩
    have hZl : Z.length = R.length := by rw [<- hZ]; simp; omega
    have hZf : flR Z = true := by
     rw [<- hZ]
     have : ∀ a b : List (List T), flR a = true -> flR b = true -> flR (a ++ b) = true := fun a b ha hb => by
      induction a with
      | nil => exact hb
      | cons r rs ih =>
       unfold flR at ha
       rw [Bool.and_eq_true] at ha
       show flR (r :: (rs ++ b)) = true
       unfold flR
       rw [ha.1, ih ha.2]; rfl
     refine this _ _ (zlj _ (hflR R)) ?_
     have : ∀ n, flR (List.replicate n [T.int .i64 0]) = true := fun n => by
      induction n with
      | zero => rfl
      | succ n ih => rw [List.replicate_succ]; unfold flR; rw [ih]; rfl
     exact this _
    have hZt : Z.take F.length = F.map fun s => [T.int .i64 s] := by
     rw [<- hZ, List.take_append_of_le_length (by simp; omega), List.take_take, Nat.min_self, <- List.map_take, hRt]
    rw [hZ]
    have hZF : F.length < Z.length := by omega
    refine za4.seq ?_
    refine za4.cutO 2 rfl rfl rfl rfl (by kernel_rfl) (by simp only [Try.ntmps104]; omega) (el := 3) (by kernel_rfl) (by kernel_rfl) ?_
    simp -implicitDefEqProofs only [go_sem, List.take_succ_cons, List.take_zero, hZf, hZF, hZt]
    refine za4.ofEx (by kernel_rfl) ?_
    simp -implicitDefEqProofs only [go_sem]
 ·have hany : (xs.any p) = false := by rw [<- Bool.not_eq_true]; exact hany
  have hid : zsw xs p = -1 := by unfold zsw; rw [hany]; rfl
  rw [hid] at HI
  have hall := List.any_eq_false.1 hany
  have hf : xs.filter (kq p) = xs := by
   rw [List.filter_eq_self]
   intro x hx
   unfold kq
   rw [Bool.not_eq_true', <- Bool.not_eq_true]
   exact hall x hx
  rw [hf]
  refine za4.cut 3 rfl (by kernel_rfl) ?_
  simp -implicitDefEqProofs only [go_sem, Try.results104]
  refine callF (HI) (by simp -implicitDefEqProofs only [go_sem]) ?_
  simp -implicitDefEqProofs only [go_sem]
end Go.Proofs.Yteeaofpphmhjdaa
namespace Go.Proofs.Yteeaofpphmhjdaa
set_option linter.unusedSimpArgs false
set_option linter.unusedVariables false
set_option linter.unusedSectionVars false
set_option maxRecDepth 4000
open Go.RowKit
theorem zws : ∀ {c : List Int}, zch (c.map fun s => [T.int .i64 s]) -> ∀ l ∈ c, -9223372036854775808 <= l /\ l <= 9223372036854775807
 | [], _, l, hl => by simp at hl
 | x :: c, h, l, hl => by
  have h' : zsk [T.int .i64 x] /\ zch (c.map fun s => [T.int .i64 s]) := h
  have m1 : IntKind.min .i64 = -9223372036854775808 := by decide
  have m2 : IntKind.max .i64 = 9223372036854775807 := by decide
  rcases List.mem_cons.1 hl with rfl | hl
  ·have h2 : wfT (T.int .i64 l) := h'.1.1
   unfold wfT at h2
   rw [m1, m2] at h2
   exact h2
  ·exact zws h'.2 l hl
def abW (n : Int) : Int := if n < 0 then IntKind.i64.wrap (0 - n) else n
theorem qdm {n : Int} (h : -9223372036854775808 < n) (h2 : n <= 9223372036854775807) : abW n = ab n := by
 unfold abW
 split
 ·rw [zam (by omega) (by omega)]; unfold ab; omega
 ·unfold ab; omega
theorem abW_in {n : Int} (h : -9223372036854775808 <= n) (h2 : n <= 9223372036854775807) : inB (abW n) 1 12 = (decide (0 < ab n) && decide (ab n <= 12)) := by
 by_cases e : n = -9223372036854775808
 ·subst e; decide
 ·rw [qdm (by omega) h2]
  unfold inB
  congr 1
theorem zky (n : Int) : FC Try.prog 98 [iD n] [iD (abW n)] := by
 refine zay Try.call98 Try.func98 rfl (by kernel_rfl) (zbb (by kernel_rfl)) ?_
 simp -implicitDefEqProofs only [go_sem, Try.results98]
 refine ⟨fun h => ?_, fun h => ?_⟩
 ·have : n < 0 := by simpa using h
  unfold abW; rw [if_pos this]
 ·have : ¬ n < 0 := by simpa using h
  unfold abW; rw [if_neg this]
theorem zoh (c : List Int) : FC Try.prog 63 [.one (zas c)] [bD (pcl c)] := by
 refine zd2 (fun hw => ?_) Try.call63
 have hl : c.length <= 9223372036854775807 := by have := hw.1.1; simpa using this
 have hwf := zws hw.1.2
 refine zay Try.call63 Try.func63 rfl (by kernel_rfl) (zbb (by kernel_rfl)) ?_
 simp -implicitDefEqProofs only [go_sem, Try.results63]
 refine zak (fun k : Nat => hd [(0, vT (zas c)), (3, vI k)] [] []) (fun k => k <= c.length /\ pcl c = zxn (pv c k) (c.drop k) /\ (0 < k -> -12 <= c.getD (k - 1) 0 /\ c.getD (k - 1) 0 <= 12)) (fun k => c.length - k) 0 (zaa ?_) ?_ ?_
 ·simp -implicitDefEqProofs only [go_sem]
 ·exact ⟨Nat.zero_le _, rfl, fun h => absurd h (by omega)⟩
 ·intro k ⟨hk, hr, hpr⟩
  by_cases hlt : k < c.length
  ·have hsu := zxf c hlt
   have hgd : c.getD k 0 = c[k] := by rw [List.getD_eq_getElem?_getD, List.getElem?_eq_getElem hlt]; rfl
   rw [List.drop_eq_getElem_cons hlt] at hr
   unfold zxn at hr
   have hb := hwf c[k] (List.getElem_mem hlt)
   have HA := zky c[k]
   have HI := l1In_c (abW c[k]) 1 12
   rw [abW_in hb.1 hb.2] at HI
   cases h1 : (decide (0 < ab c[k]) && decide (ab c[k] <= 12))
   ·rw [h1] at HI
    have hno : pcl c = false := by
     rw [hr]
     have hpv : 0 <= pv c k := by unfold pv ab; split <;> omega
     rw [Bool.and_eq_false_iff, decide_eq_false_iff_not, decide_eq_false_iff_not] at h1
     rcases h1 with h1 | h1
     ·rw [show decide (pv c k < ab c[k]) = false by simp; omega]; rfl
     ·rw [show decide (ab c[k] <= 12) = false by simpa using h1]; simp
    simp -implicitDefEqProofs only [go_sem, hlt]
    refine drawn (by kernel_rfl) ?_
    simp -implicitDefEqProofs only [go_sem, zag, hlt]
    refine zfi (HA) (by simp -implicitDefEqProofs only [go_sem]) ?_
    simp -implicitDefEqProofs only [go_sem]
    refine zfi (HI) (by simp -implicitDefEqProofs only [go_sem]) ?_
    simp -implicitDefEqProofs only [go_sem]
    refine ⟨by kernel_rfl, ?_⟩
    rw [hno]
   ·rw [h1] at HI
    have hab : 0 < ab c[k] /\ ab c[k] <= 12 := by simpa using h1
    have hin : -12 <= c[k] /\ c[k] <= 12 := (qbe hab).2
    by_cases hk0 : k = 0
    ·have hkf : ((0 : Int) < (k : Int)) = False := by simp; omega
     simp -implicitDefEqProofs only [go_sem, hlt]
     refine drawn (by kernel_rfl) ?_
     simp -implicitDefEqProofs only [go_sem, zag, hlt, hkf]
     refine zfi (HA) (by simp -implicitDefEqProofs only [go_sem]) ?_
     simp -implicitDefEqProofs only [go_sem]
     refine zfi (HI) (by simp -implicitDefEqProofs only [go_sem, hkf]) ?_
     simp -implicitDefEqProofs only [go_sem, hkf]
     refine ⟨by kernel_rfl, ?_⟩
     rw [zaw (by omega)]
     refine ⟨k + 1, ⟨hlt, ?_, fun _ => ?_⟩, by omega, zaa (by simp -implicitDefEqProofs only [go_sem])⟩
     ·have hpv : pv c k = 0 := by unfold pv; rw [if_pos hk0]
      rw [hr, hsu, hpv, show decide (0 < ab c[k]) = true by simpa using hab.1, show decide (ab c[k] <= 12) = true by simpa using hab.2]; rfl
     ·rw [Nat.add_sub_cancel, hgd]; exact hin
    ·have hkp : (0 : Int) < k := by omega
     have hk1 : k - 1 < c.length := by omega
     have hw1 : IntKind.i64.wrap ((k : Int) - 1) = ((k - 1 : Nat) : Int) := by rw [zam (by omega) (by omega)]; omega
     have hg1 : c.getD (k - 1) 0 = c[k - 1] := by rw [List.getD_eq_getElem?_getD, List.getElem?_eq_getElem hk1]; rfl
     have hp1 := hpr (by omega)
     rw [hg1] at hp1
     have HB := zky c[k - 1]
     rw [qdm (by omega) (by omega)] at HB HA
     have hpv : pv c k = ab c[k - 1] := by unfold pv; rw [if_neg hk0, hg1]
     rw [hpv] at hr
     simp -implicitDefEqProofs only [go_sem, hlt]
     refine drawn (by kernel_rfl) ?_
     simp -implicitDefEqProofs only [go_sem, zag, hlt]
     refine zfi (zky c[k]) (by simp -implicitDefEqProofs only [go_sem]) ?_
     simp -implicitDefEqProofs only [go_sem]
     refine zfi (HI) (by simp -implicitDefEqProofs only [go_sem, hkp, hw1, hk1, hlt, zag]) ?_
     simp -implicitDefEqProofs only [go_sem, hkp, hw1, hk1, hlt, zag]
     refine qdy (HB) (by simp -implicitDefEqProofs only [go_sem, hlt, zag]) ?_
     simp -implicitDefEqProofs only [go_sem, hlt, zag]
     refine qdy (HA) (by simp -implicitDefEqProofs only [go_sem]) ?_
     simp -implicitDefEqProofs only [go_sem]
     refine ⟨by kernel_rfl, ?_⟩
     rw [zaw (by omega)]
     refine ⟨fun h => ?_, fun h => ⟨k + 1, ⟨hlt, ?_, fun _ => ?_⟩, by omega, zaa (by simp -implicitDefEqProofs only [go_sem])⟩⟩
     ·have : ¬ ab c[k - 1] < ab c[k] := by simp at h; omega
      rw [hr, show decide (ab c[k - 1] < ab c[k]) = false by simpa using this]; simp
     ·have : ab c[k - 1] < ab c[k] := by simp at h; omega
      rw [hr, hsu, show decide (ab c[k - 1] < ab c[k]) = true by simpa using this, show decide (ab c[k] <= 12) = true by simpa using hab.2]; rfl
     ·rw [Nat.add_sub_cancel, hgd]; exact hin
  ·simp -implicitDefEqProofs only [go_sem, hlt]
   rw [hr, List.drop_of_length_le (by omega)]; rfl
end Go.Proofs.Yteeaofpphmhjdaa
namespace Go.Proofs.Yteeaofpphmhjdaa
set_option linter.unusedSimpArgs false
set_option linter.unusedVariables false
set_option linter.unusedSectionVars false
set_option maxRecDepth 4000
open Go.RowKit
theorem zji (xs : List (List Int)) (p : List Int -> Bool) (g : FuncId) (caps : List T) (H : ∀ x ∈ xs, FC Try.prog g (.one (zas x) :: caps.map .one) [bD (p x)]) : FC Try.prog 57 [.one (zav xs), .one (.fn g caps)] [iD (zsw xs p)] := by
 refine zd2 (fun hw => ?_) Try.call57
 have hl : xs.length <= 9223372036854775807 := by simpa [zm1, wfT] using hw.1.1
 refine zay Try.call57 Try.func57 rfl (by kernel_rfl) (zbb (by kernel_rfl)) ?_
 simp -implicitDefEqProofs only [go_sem, Try.results57]
 refine zak (fun k : Nat => hd [(0, vT (zav xs)), (1, vT (.fn g caps)), (7, vI xs.length), (8, vI k)] [] []) (fun k => k <= xs.length /\ ∀ x ∈ xs.take k, p x = false) (fun k => xs.length - k) 0 (zaa ?_) ?_ ?_
 ·simp -implicitDefEqProofs only [go_sem]
 ·simp
 ·intro k ⟨hk, hr⟩
  by_cases hlt : k < xs.length
  ·simp -implicitDefEqProofs only [go_sem, zag, hlt, ne_eq]
   refine callF (H xs[k] (List.getElem_mem hlt)) (by simp -implicitDefEqProofs only [go_sem, ne_eq]) ?_
   simp -implicitDefEqProofs only [go_sem, ne_eq]
   refine ⟨fun h => ?_, fun h => ⟨k + 1, ⟨hlt, zds hlt hr h⟩, by omega, zaa (by simp -implicitDefEqProofs only [go_sem]; rw [zaw (by omega)])⟩⟩
   rw [zeo hlt hr h]
  ·simp -implicitDefEqProofs only [go_sem, hlt]
   rw [List.take_of_length_le (by omega)] at hr
   rw [zfo hr]
theorem zcl (xs : List (List Int)) (p : List Int -> Bool) (g : FuncId) (caps : List T) (H : ∀ x ∈ xs, FC Try.prog g (.one (zas x) :: caps.map .one) [bD (p x)]) : FC Try.prog 76 [.one (zav xs), .one (.fn g caps)] [bD (xs.any p)] := by
 refine zay Try.call76 Try.func76 rfl (by kernel_rfl) (zbb (by kernel_rfl)) ?_
 simp -implicitDefEqProofs only [go_sem, Try.results76]
 refine callF (zji xs p g caps H) (by simp -implicitDefEqProofs only [go_sem]) ?_
 simp -implicitDefEqProofs only [go_sem]
 rw [zqo]
theorem zrh (xs : List Int) (p : Int -> Bool) (g : FuncId) (caps : List T) (H : ∀ x ∈ xs, FC Try.prog g (iD x :: caps.map .one) [bD (p x)]) : FC Try.prog 101 [.one (zas xs), .one (.fn g caps)] [bD (xs.any p)] := by
 refine zay Try.call101 Try.func101 rfl (by kernel_rfl) (zbb (by kernel_rfl)) ?_
 simp -implicitDefEqProofs only [go_sem, Try.results101]
 refine callF (zmk xs p g caps H) (by simp -implicitDefEqProofs only [go_sem]) ?_
 simp -implicitDefEqProofs only [go_sem]
 rw [zqo]
theorem znz (c : List Int) : FC Try.prog 100 [.one (zas c)] [bD (!pcl c)] := by
 refine zay Try.call100 Try.func100 rfl (by kernel_rfl) (zbb (by kernel_rfl)) ?_
 simp -implicitDefEqProofs only [go_sem, Try.results100]
 refine callF (zc9 c) (by simp -implicitDefEqProofs only [go_sem]) ?_
 simp -implicitDefEqProofs only [go_sem]
theorem qfp (S : List (List Int)) : zgw S = (decide ((S.length : Int) <= 40) && !(S.any fun c => !pcl c)) := by
 unfold zgw
 congr 1
 ·rw [decide_eq_decide]; omega
 ·rw [List.not_any_eq_all_not]; simp
theorem zdx (S : List (List Int)) : FC Try.prog 54 [.one (zav S)] [bD (zgw S)] := by
 have H := zcl S (fun c => !pcl c) 100 [] fun x _ => znz x
 rw [qfp]
 refine zay Try.call54 Try.func54 rfl (by kernel_rfl) (zbb (by kernel_rfl)) ?_
 simp -implicitDefEqProofs only [go_sem, Try.results54]
 cases h : decide ((S.length : Int) <= 40)
 ·simp -implicitDefEqProofs only [go_sem, h]
 ·simp -implicitDefEqProofs only [go_sem, h]
  refine callF (H) (by simp -implicitDefEqProofs only [go_sem]) ?_
  simp -implicitDefEqProofs only [go_sem]
theorem qaj (S : List (List Int)) : FC Try.prog 48 [.one (zav S)] [bD (zgw S)] := by
 refine zd2 (fun hw => ?_) Try.call48
 have hl : S.length <= 9223372036854775807 := by simpa [zm1, wfT] using hw.1.1
 have hle : ((S.length : Int) <= 40) = (S.length <= 40) := by simp; omega
 refine zay Try.call48 Try.func48 rfl (by kernel_rfl) (zbb (by kernel_rfl)) ?_
 simp -implicitDefEqProofs only [go_sem, Try.results48]
 refine zak (fun k : Nat => hd [(0, vT (zav S)), (3, vI k)] [] []) (fun k => k <= S.length /\ k <= 41 /\ ∀ x ∈ S.take k, pcl x = true) (fun k => S.length - k) 0 (zaa ?_) ?_ ?_
 ·simp -implicitDefEqProofs only [go_sem]
 ·simp
 ·intro k ⟨hk, hk2, hr⟩
  by_cases hlt : k < S.length
  ·by_cases h40 : (k : Int) <= 40
   ·have HC := zoh S[k]
    simp -implicitDefEqProofs only [go_sem, hlt, h40, zag]
    refine callF (HC) (by simp -implicitDefEqProofs only [go_sem]) ?_
    simp -implicitDefEqProofs only [go_sem]
    rw [zaw (by omega)]
    refine ⟨fun h => ?_, fun h => ⟨k + 1, ⟨hlt, by omega, fun x hx => ?_⟩, by omega, zaa (by simp -implicitDefEqProofs only [go_sem])⟩⟩
    ·have hf : pcl S[k] = false := by simpa using h
     have : zgw S = false := by
      rw [<- Bool.not_eq_true]
      intro hp
      rw [zb2 hp (List.getElem_mem hlt)] at hf; cases hf
     rw [this]
    ·rw [List.take_succ_eq_append_getElem hlt] at hx
     rcases List.mem_append.1 hx with hx | hx
     ·exact hr x hx
     ·rw [List.mem_singleton.1 hx]; simpa using h
   ·have : zgw S = false := by
     unfold zgw
     rw [show decide (S.length <= 40) = false by simp; omega]; rfl
    have h40' : ((S.length : Int) <= 40) = False := by simp; omega
    have h40k : ((k : Int) <= 40) = False := by simp; omega
    simp -implicitDefEqProofs only [go_sem, hlt, h40k, h40']
    rw [this]
  ·rw [List.take_of_length_le (by omega)] at hr
   have hall : S.all pcl = true := List.all_eq_true.2 hr
   simp -implicitDefEqProofs only [go_sem, hlt]
   unfold zgw
   rw [hall, Bool.and_true]
   have : decide ((S.length : Int) <= 40) = decide (S.length <= 40) := by rw [decide_eq_decide]; omega
   rw [this]
theorem zee (xs : List Int) (s : Int) : FC Try.prog 99 [.one (zas xs), iD s] [bD (xs.contains s)] := by
 refine zd2 (fun hw => ?_) Try.call99
 have hl : xs.length <= 9223372036854775807 := by simpa [zm1, wfT] using hw.1.1
 refine zay Try.call99 Try.func99 rfl (by kernel_rfl) (zbb (by kernel_rfl)) ?_
 simp -implicitDefEqProofs only [go_sem, Try.results99]
 refine zak (fun k : Nat => hd [(0, vT (zas xs)), (1, vT (.int .i64 s)), (5, vI k)] [] []) (fun k => k <= xs.length /\ s ∉ xs.take k) (fun k => xs.length - k) 0 (zaa ?_) ?_ ?_
 ·simp -implicitDefEqProofs only [go_sem]
 ·simp
 ·intro k ⟨hk, hr⟩
  by_cases hlt : k < xs.length
  ·simp -implicitDefEqProofs only [go_sem, zag, hlt]
   refine ⟨fun h => ?_, fun h => ?_⟩
   ·have e : xs[k] = s := beq_iff_eq.1 h
    have hm : s ∈ xs := e ▸ List.getElem_mem hlt
    rw [show xs.contains s = true by simpa using hm]
   ·have e : xs[k] ≠ s := fun e => by simp [e] at h
    rw [zaw (by omega)]
    exact ⟨k + 1, ⟨hlt, zfp hlt hr e⟩, by omega, zaa (by simp -implicitDefEqProofs only [go_sem])⟩
  ·simp -implicitDefEqProofs only [go_sem, hlt]
   rw [List.take_of_length_le (by omega)] at hr
   rw [show xs.contains s = false by simpa using hr]
theorem zv9 : ∀ xs : List Int, flR (xs.map fun s => [T.int .i64 s]) = true
 | [] => rfl
 | a :: xs => by rw [List.map_cons]; unfold flR; rw [zv9 xs]; rfl
attribute [go_sem] zv9
theorem zoe (xs : List Int) (hl : xs.length <= 4294967296) : FC Try.prog 64 [.one (zas xs)] [.one (zas xs)] := by
 refine zay Try.call64 Try.func64 rfl (by kernel_rfl) (zbb (by kernel_rfl)) ?_
 simp -implicitDefEqProofs only [go_sem, Try.results64]
 refine zan (by simp -implicitDefEqProofs only [go_sem]) ?_
 simp -implicitDefEqProofs only [go_sem]
 refine apD true (by simp -implicitDefEqProofs only [go_sem, ne_eq, List.length_map, Nat.zero_add, hl]) ?_
 simp -implicitDefEqProofs only [go_sem, ne_eq, List.length_map, Nat.zero_add, hl]
theorem zr7 (xs : List Int) : ∀ c ∈ (xs.map fun s => [T.int .i64 s]).flatten, c.flat = true := fun c hc => by
 obtain ⟨r, hr, hc⟩ := List.mem_flatten.1 hc
 obtain ⟨s, _, rfl⟩ := List.mem_map.1 hr
 rw [List.mem_singleton.1 hc]; rfl
set_option maxHeartbeats 1000000 in
theorem qaz : CloneOf Try.prog 56 1 8 := by
 have t22 := Try.underlying27
 have q22 : ∀ (w : World) (a : Option Addr) (n c n' c' : Nat), (binOp .eql 27 (.slice a n c) (.slice none n' c')).run Try.prog w = .ok (.bool a.isNone) w := fun w a n c n' c' => Lib.run_eql_slice_nil w _ _ a n c n' c' t22
 have u22 : ∀ w, Sem.run Try.prog (underlying 27) w = .ok (TypeDesc.slice 3) w := run_underlying t22
 refine ⟨Try.call56, fun ad n c news w hl hn hbig hc h1 => ?_, fun n c w => ?_⟩
 ·have A : Aside (∀ j u, news[j]? = some u -> w.cell? (ad.add j) = some u) := hc
  clear hc
  obtain ⟨i0, z, hi, hz0, hzs, hz1, hz2⟩ := qga (P := Try.prog) (t := 3) (n := 1) (b := 8) (z := [.t (.int .i64 0)]) (by kernel_rfl) (by kernel_rfl) (by kernel_rfl) rfl
  go_enter Try.func56, Try.ntmps56
  go_wp2_with (at_builtin; refine wpList_append_own _ rfl _ _ 27 rfl w.heap.size 3 i0 z 1 8 t22 hi hz0 hz1 hz2 hzs (by decide) _ _ _ rfl (World.ownsRow_made w #[] 0 (Nat.le_refl _) (Nat.zero_le _) (by simp)) ad n c news rfl ?qc1 ?qc2 ?qc3 ?qc4 ?qc5 ?qc6 ?_)
  case qc1 => exact hl
  case qc2 =>
   intro j u hj
   exact Lib.cell?_alloc_some _ (A.out j u hj)
  case qc3 => exact h1
  case qc4 => rw [Nat.zero_add]; exact hn
  case qc5 => rw [Nat.zero_add]; exact hbig
  case qc6 => simp
  intro v' w1 hown hgrow hnil
  go_wp2
  go_ret
  refine ⟨_, v', rfl, by simpa using hown, hnil, ?_⟩
  exact ((Below.refl _ w).alloc (Nat.le_refl _) _).grown hgrow (by simp) (by intro k hk; simp [Value.ownBlock] at hk; omega)
 ·go_enter Try.func56, Try.ntmps56
  go_wp2
  go_ret
  exact ⟨rfl, rfl⟩
theorem zi6 (xs : List Int) (hs : xs.length <= 1099511627776) : FC Try.prog 56 [.one (zas xs)] [.one (zas xs)] :=
 qa9 qaz _ (by simp; omega) (zr7 xs)
end Go.Proofs.Yteeaofpphmhjdaa
namespace Go.Proofs.Yteeaofpphmhjdaa
set_option linter.unusedSimpArgs false
set_option linter.unusedVariables false
set_option linter.unusedSectionVars false
set_option maxRecDepth 4000
open Go.RowKit
theorem qca (a : List Int) (l : Int) : FC Try.prog 102 [iD l, .one (.ptr [zas a])] [bD (a.contains l)] := by
 have H := zbh a l
 refine zay Try.call102 Try.func102 rfl (by kernel_rfl) (zbb (by kernel_rfl)) ?_
 simp -implicitDefEqProofs only [go_sem, Try.results102]
 refine callF (H) (by simp -implicitDefEqProofs only [go_sem]) ?_
 simp -implicitDefEqProofs only [go_sem]
theorem zi8 (c a : List Int) : FC Try.prog 59 [.one (zas c), .one (zas a)] [bD (sat a c)] := by
 have H := zrh c (fun l => a.contains l) 102 [.ptr [zas a]] fun l _ => qca a l
 unfold sat
 refine zay Try.call59 Try.func59 rfl (by kernel_rfl) (zbb (by kernel_rfl)) ?_
 simp -implicitDefEqProofs only [go_sem, Try.results59]
 refine frzX 3 rfl rfl ?_
 simp -implicitDefEqProofs only [go_sem]
 refine callF (H) (by simp -implicitDefEqProofs only [go_sem]) ?_
 simp -implicitDefEqProofs only [go_sem]
theorem qau (a : List Int) (l : Int) (h : -9223372036854775807 <= l /\ l <= 9223372036854775807) : FC Try.prog 105 [iD l, .one (.ptr [zas a])] [bD (a.contains (-l))] := by
 have H := zbh a (-l)
 have hw : IntKind.i64.wrap (0 - l) = -l := by rw [zam (by omega) (by omega)]; omega
 refine zay Try.call105 Try.func105 rfl (by kernel_rfl) (zbb (by kernel_rfl)) ?_
 simp -implicitDefEqProofs only [go_sem, Try.results105]
 rw [hw]
 refine callF (H) (by simp -implicitDefEqProofs only [go_sem]) ?_
 simp -implicitDefEqProofs only [go_sem]
theorem opn_eq (a c : List Int) : c.filter (kq fun l => a.contains (-l)) = opn a c := rfl
theorem zia (c a : List Int) (hc : ∀ l ∈ c, -9223372036854775807 <= l /\ l <= 9223372036854775807) (hl : c.length <= 1048577) : FC Try.prog 60 [.one (zas c), .one (zas a)] [.one (zas (opn a c))] := by
 have H := delF_c c a (fun l => a.contains (-l)) 105 hl fun l h => qau a l (hc l h)
 rw [opn_eq] at H
 have HC := zi6 c (by omega)
 refine zde Try.call60 Try.func60 rfl (by kernel_rfl) (zbb (by kernel_rfl)) ?_
 simp -implicitDefEqProofs only [go_sem, Try.results60]
 refine callF (HC) (by simp -implicitDefEqProofs only [go_sem]) ?_
 simp -implicitDefEqProofs only [go_sem]
 refine za1 [] [6, 7] [3] [] (H) (by decide) rfl (by simp -implicitDefEqProofs only [go_sem]) (by simp -implicitDefEqProofs only [go_sem]) (by simp -implicitDefEqProofs only [go_sem]) (by simp -implicitDefEqProofs only [go_sem]) ?_
 simp -implicitDefEqProofs only [go_sem]
theorem zk5 (c a : List Int) (hc : ∀ l ∈ c, -9223372036854775807 <= l /\ l <= 9223372036854775807) (hl : c.length <= 1048577) : FC Try.prog 110 [.one (zas c), .one (zas a)] [bD (fal a c)] := by
 have H := zia c a hc hl
 have hf : fal a c = (((opn a c).length : Int) == 0) := by
  unfold fal
  cases opn a c with
  | nil => rfl
  | cons x xs => simp [List.isEmpty]; omega
 rw [hf]
 refine zay Try.call110 Try.func110 rfl (by kernel_rfl) (zbb (by kernel_rfl)) ?_
 simp -implicitDefEqProofs only [go_sem, Try.results110]
 refine callF (H) (by simp -implicitDefEqProofs only [go_sem]) ?_
 simp -implicitDefEqProofs only [go_sem]
end Go.Proofs.Yteeaofpphmhjdaa
namespace Go.Proofs.Yteeaofpphmhjdaa
set_option linter.unusedSimpArgs false
set_option linter.unusedVariables false
set_option linter.unusedSectionVars false
set_option maxRecDepth 4000
open Go.RowKit
theorem zw3 : ∀ {S : List (List Int)}, zch (S.map fun s => [zas s]) -> ∀ {c : List Int}, c ∈ S -> wfT (zas c)
 | [], _, c, hc => by simp at hc
 | x :: S, h, c, hc => by
  have h' : zsk [zas x] /\ zch (S.map fun s => [zas s]) := h
  rcases List.mem_cons.1 hc with rfl | hc
  ·exact h'.1.1
  ·exact zw3 h'.2 hc
theorem qdt {S : List (List Int)} (h : zch (S.map fun s => [zas s])) {c : List Int} (hc : c ∈ S) : c.length <= 9223372036854775807 := by
 have := (zw3 h hc).1
 simpa using this
abbrev Sm (c : List Int) : Prop := ∀ l ∈ c, -1073741824 <= l /\ l <= 1073741824
theorem zgf {c : List Int} (h : pcl c = true) : Sm c := fun l hl => by have := qbe (zcx h hl); omega
theorem qad (a c : List Int) {k : Nat} (h : k < c.length) : opn a (c.take (k + 1)) = opn a (c.take k) ++ if a.contains (-c[k]) = true then [] else [c[k]] := by
 unfold opn
 rw [List.take_succ_eq_append_getElem h, List.filter_append]
 congr 1
 rw [List.filter_cons]
 cases a.contains (-c[k]) <;> simp
theorem qf0 (a c : List Int) : (opn a c).length <= c.length := List.length_filter_le _ _
set_option maxHeartbeats 1000000 in
theorem zoz (c a : List Int) (hc : Sm c) : FC Try.prog 65 [.one (zas c), .one (zas a)] [iD (zs3 a c).1, iD (zs3 a c).2] := by
 refine zd2 (fun hw => ?_) Try.call65
 have hl : c.length <= 9223372036854775807 := by have := hw.1.1; simpa using this
 refine zay Try.call65 Try.func65 rfl (by kernel_rfl) (zbb (by kernel_rfl)) ?_
 simp -implicitDefEqProofs only [go_sem, Try.results65]
 refine zak (fun k : Nat => hd [(0, vT (zas c)), (1, vT (zas a)), (6, vI (opn a (c.take k)).length), (7, vT (.int .i64 ((opn a (c.take k)).getLast?.getD 0))), (8, vI k)] [] []) (fun k => k <= c.length /\ ∀ l ∈ c.take k, l ∉ a) (fun k => c.length - k) 0 (zaa ?_) ?_ ?_
 ·simp -implicitDefEqProofs only [go_sem]
  exact ⟨rfl, rfl⟩
 ·simp
 ·intro k ⟨hk, hr⟩
  by_cases hlt : k < c.length
  ·have hb := hc c[k] (List.getElem_mem hlt)
   have H1 := zee a c[k]
   have H2 := zee a (-c[k])
   have hwn : IntKind.i64.wrap (0 - c[k]) = -c[k] := by rw [zam (by omega) (by omega)]; omega
   have hs := qad a c hlt
   have hlo := qf0 a (c.take k)
   rw [List.length_take] at hlo
   simp -implicitDefEqProofs only [go_sem, zag, hlt]
   refine callF (H1) (by simp -implicitDefEqProofs only [go_sem, zag, hlt]) ?_
   simp -implicitDefEqProofs only [go_sem, zag, hlt]
   refine ⟨fun h => ?_, fun h => ?_⟩
   ·have : zs3 a c = (-1, 0) := by
     unfold zs3
     rw [if_pos (zcd.2 ⟨c[k], List.getElem_mem hlt, by simpa using h⟩)]
    rw [this]
    exact ⟨rfl, rfl⟩
   ·have hna : c[k] ∉ a := by simpa using h
    have hr2 : ∀ l ∈ c.take (k + 1), l ∉ a := fun l hl => by
     rw [List.take_succ_eq_append_getElem hlt] at hl
     rcases List.mem_append.1 hl with hl | hl
     ·exact hr l hl
     ·rw [List.mem_singleton.1 hl]; exact hna
    rw [hwn]
    refine callF (H2) (by simp -implicitDefEqProofs only [go_sem, zag, hlt]) ?_
    simp -implicitDefEqProofs only [go_sem, zag, hlt]
    refine ⟨fun h => ?_, fun h => ?_⟩
    ·have h' : a.contains (-c[k]) = false := by simpa using h
     rw [h', if_neg (by simp)] at hs
     rw [zaw (by omega)]
     refine ⟨k + 1, ⟨hlt, hr2⟩, by omega, zaa ?_⟩
     simp -implicitDefEqProofs only [go_sem]
     rw [hs, zaw (by omega)]
     simp
    ·have h' : a.contains (-c[k]) = true := by simpa using h
     rw [h', if_pos rfl, List.append_nil] at hs
     rw [zaw (by omega)]
     refine ⟨k + 1, ⟨hlt, hr2⟩, by omega, zaa ?_⟩
     simp -implicitDefEqProofs only [go_sem]
     rw [hs]
     exact ⟨rfl, rfl⟩
  ·have hns : sat a c = false := by
    rw [<- Bool.not_eq_true, zcd]
    rintro ⟨l, h1, h2⟩
    rw [List.take_of_length_le (by omega)] at hr
    exact hr l h1 h2
   simp -implicitDefEqProofs only [go_sem, hlt]
   rw [List.take_of_length_le (by omega)]
   unfold zs3
   rw [hns, if_neg (by simp)]
   exact ⟨rfl, rfl⟩
def zzs (S : List (List Int)) (a : List Int) : Int := zsw S fun c => (zs3 a c).1 == 0
theorem zep (S : List (List Int)) (a : List Int) (hS : ∀ c ∈ S, Sm c) : FC Try.prog 79 [.one (zav S), .one (zas a)] [iD (zzs S a)] := by
 refine zd2 (fun hw => ?_) Try.call79
 have hl : S.length <= 9223372036854775807 := by simpa [zm1, wfT] using hw.1.1
 unfold zzs
 refine zay Try.call79 Try.func79 rfl (by kernel_rfl) (zbb (by kernel_rfl)) ?_
 simp -implicitDefEqProofs only [go_sem, Try.results79]
 refine zak (fun k : Nat => hd [(0, vT (zav S)), (1, vT (zas a)), (5, vI k)] [] []) (fun k => k <= S.length /\ ∀ x ∈ S.take k, ((zs3 a x).1 == 0) = false) (fun k => S.length - k) 0 (zaa ?_) ?_ ?_
 ·simp -implicitDefEqProofs only [go_sem]
 ·simp
 ·intro k ⟨hk, hr⟩
  by_cases hlt : k < S.length
  ·have H := zoz S[k] a (hS _ (List.getElem_mem hlt))
   simp -implicitDefEqProofs only [go_sem, zag, hlt]
   refine callF (H) (by simp -implicitDefEqProofs only [go_sem]) ?_
   simp -implicitDefEqProofs only [go_sem]
   refine ⟨fun h => ?_, fun h => ?_⟩
   ·rw [zeo (p := fun c => (zs3 a c).1 == 0) hlt hr h]
   ·rw [zaw (by omega)]
    exact ⟨k + 1, ⟨hlt, zds (p := fun c => (zs3 a c).1 == 0) hlt hr h⟩, by omega, zaa (by simp -implicitDefEqProofs only [go_sem])⟩
  ·simp -implicitDefEqProofs only [go_sem, hlt]
   rw [List.take_of_length_le (by omega)] at hr
   rw [zfo hr]
theorem qak {a c : List Int} (ha : zzh a) : ((zs3 a c).1 == 0) = fal a c := by
 unfold zs3
 cases h : sat a c
 ·rw [if_neg (by simp)]
  unfold fal
  cases opn a c with
  | nil => rfl
  | cons x xs => simp [List.isEmpty]; omega
 ·rw [if_pos rfl]
  cases h2 : fal a c
  ·rfl
  ·rw [ztf ha h2] at h; cases h
theorem znv (S : List (List Int)) {a : List Int} (ha : zzh a) : zzs S a = match S.findIdx? (fal a) with | some i => (i : Int) | none => -1 := by
 unfold zzs
 rw [show (fun c => (zs3 a c).1 == 0) = fal a from funext fun c => qak ha]
 cases h : S.findIdx? (fal a) with
 | none =>
  exact zfo fun x hx => List.findIdx?_eq_none_iff.1 h x hx
 | some i =>
  obtain ⟨hi, h1, h2⟩ := List.findIdx?_eq_some_iff_getElem.1 h
  refine zeo hi (fun x hx => ?_) h1
  obtain ⟨j, hj, rfl⟩ := List.mem_take_iff_getElem.1 hx
  have := h2 j (by omega)
  simpa using this
def zme (n : Int) (c : List Int) (j : Nat) : Int := (c.take j).foldl (fun m l => max m (ab l)) n
def zif (S : List (List Int)) (k : Nat) : Int := (S.take k).foldl (fun n c => c.foldl (fun m l => max m (ab l)) n) 0
theorem ziq (n : Int) (c : List Int) {j : Nat} (h : j < c.length) : zme n c (j + 1) = max (zme n c j) (ab c[j]) := by
 unfold zme
 rw [List.take_succ_eq_append_getElem h, List.foldl_append]; rfl
theorem zik (S : List (List Int)) {k : Nat} (h : k < S.length) : zif S (k + 1) = zme (zif S k) S[k] S[k].length := by
 unfold zif zme
 rw [List.take_succ_eq_append_getElem h, List.foldl_append, List.take_length]; rfl
theorem zr9 (S : List (List Int)) (hS : ∀ c ∈ S, Sm c) : FC Try.prog 67 [.one (zav S)] [iD (zea S)] := by
 refine zd2 (fun hw => ?_) Try.call67
 have hl : S.length <= 9223372036854775807 := by simpa [zm1, wfT] using hw.1.1
 have hwl : ∀ c ∈ S, c.length <= 9223372036854775807 := fun c hc => qdt (show zch (S.map fun s => [zas s]) from hw.1.2) hc
 refine zay Try.call67 Try.func67 rfl (by kernel_rfl) (zbb (by kernel_rfl)) ?_
 simp -implicitDefEqProofs only [go_sem, Try.results67]
 refine zak (fun k : Nat => hd [(3, vI (zif S k)), (8, vT (zav S)), (9, vI S.length), (10, vI k)] [] []) (fun k => k <= S.length) (fun k => S.length - k) 0 (zaa ?_) (Nat.zero_le _) ?_
 ·simp -implicitDefEqProofs only [go_sem]
  rfl
 ·intro k hk
  by_cases hlt : k < S.length
  ·have hlk := hwl _ (List.getElem_mem hlt)
   have hsk := hS _ (List.getElem_mem hlt)
   have hsu := zik S hlt
   simp -implicitDefEqProofs only [go_sem, zag, hlt]
   refine zak (fun j : Nat => hd [(3, vI (zme (zif S k) S[k] j)), (8, vT (zav S)), (9, vI S.length), (10, vI k), (14, vT (zas S[k])), (15, vI S[k].length), (16, vI j)] [] []) (fun j => j <= S[k].length) (fun j => S[k].length - j) 0 (zaa ?_) (Nat.zero_le _) ?_
   ·simp -implicitDefEqProofs only [go_sem]
    rfl
   ·intro j hj
    by_cases hjl : j < S[k].length
    ·have HA := zf3 S[k][j] (by have := hsk _ (List.getElem_mem hjl); omega)
     simp -implicitDefEqProofs only [go_sem, zag, hjl]
     refine callF (HA) (by simp -implicitDefEqProofs only [go_sem]) ?_
     simp -implicitDefEqProofs only [go_sem]
     rw [zaw (by omega)]
     refine ⟨j + 1, hjl, by omega, zaa ?_⟩
     simp -implicitDefEqProofs only [go_sem]
     rw [ziq _ _ hjl]
    ·have hjn : j = S[k].length := by omega
     subst hjn
     rw [<- hsu]
     simp -implicitDefEqProofs only [go_sem, hjl]
     rw [zaw (by omega)]
     exact ⟨k + 1, hlt, by omega, zaa (by simp -implicitDefEqProofs only [go_sem])⟩
  ·simp -implicitDefEqProofs only [go_sem, hlt]
   unfold zif
   rw [List.take_of_length_le (by omega)]
   rfl
theorem zxl (S : List (List Int)) (hS : ∀ c ∈ S, Sm c) : FC Try.prog 50 [.one (zav S)] [iD (zea S)] := by
 refine zd2 (fun hw => ?_) Try.call50
 have hl : S.length <= 9223372036854775807 := by simpa [zm1, wfT] using hw.1.1
 have hwl : ∀ c ∈ S, c.length <= 9223372036854775807 := fun c hc => qdt (show zch (S.map fun s => [zas s]) from hw.1.2) hc
 refine zay Try.call50 Try.func50 rfl (by kernel_rfl) (zbb (by kernel_rfl)) ?_
 simp -implicitDefEqProofs only [go_sem, Try.results50]
 refine zak (fun k : Nat => hd [(0, vT (zav S)), (3, vI (zif S k)), (4, vI k)] [] []) (fun k => k <= S.length) (fun k => S.length - k) 0 (zaa ?_) (Nat.zero_le _) ?_
 ·simp -implicitDefEqProofs only [go_sem]
  rfl
 ·intro k hk
  by_cases hlt : k < S.length
  ·have hlk := hwl _ (List.getElem_mem hlt)
   have hsk := hS _ (List.getElem_mem hlt)
   have hsu := zik S hlt
   simp -implicitDefEqProofs only [go_sem, hlt]
   refine zak (fun j : Nat => hd [(0, vT (zav S)), (3, vI (zme (zif S k) S[k] j)), (4, vI k), (5, vI j)] [] []) (fun j => j <= S[k].length) (fun j => S[k].length - j) 0 (zaa ?_) (Nat.zero_le _) ?_
   ·simp -implicitDefEqProofs only [go_sem]
    rfl
   ·intro j hj
    by_cases hjl : j < S[k].length
    ·have HA := zkz S[k][j] (by have := hsk _ (List.getElem_mem hjl); omega)
     have HM := qcr (zme (zif S k) S[k] j) (ab S[k][j])
     simp -implicitDefEqProofs only [go_sem, zag, hlt, hjl]
     refine callF (HA) (by simp -implicitDefEqProofs only [go_sem]) ?_
     simp -implicitDefEqProofs only [go_sem]
     refine callF (HM) (by simp -implicitDefEqProofs only [go_sem]) ?_
     simp -implicitDefEqProofs only [go_sem]
     rw [zaw (by omega)]
     refine ⟨j + 1, hjl, by omega, zaa ?_⟩
     simp -implicitDefEqProofs only [go_sem]
     rw [ziq _ _ hjl]
    ·have hjn : j = S[k].length := by omega
     have hjf : ((S[k].length : Int) < (S[k].length : Int)) = False := by simp
     subst hjn
     rw [<- hsu]
     simp -implicitDefEqProofs only [go_sem, zag, hlt, hjf]
     rw [zaw (by omega)]
     exact ⟨k + 1, hlt, by omega, zaa (by simp -implicitDefEqProofs only [go_sem])⟩
  ·simp -implicitDefEqProofs only [go_sem, hlt]
   unfold zif
   rw [List.take_of_length_le (by omega)]
   rfl
end Go.Proofs.Yteeaofpphmhjdaa
namespace Go.Proofs.Yteeaofpphmhjdaa
set_option linter.unusedSimpArgs false
set_option linter.unusedVariables false
set_option linter.unusedSectionVars false
set_option maxRecDepth 4000
open Go.RowKit Go.Sort Go.Proofs
def qdq (x : Int) : Int := max x (wrap64 (-x))
def cmp3 (a b : Int) : Int := if a < b then -1 else if b < a then 1 else 0
def cfV (x y : Int) : Int := cmp3 (qdq x) (qdq y)
theorem zu6 {x : Int} (h : -1073741824 <= x /\ x <= 1073741824) : qdq x = ab x := by
 have : wrap64 (-x) = -x := by unfold wrap64; omega
 unfold qdq ab
 rw [this]
theorem zrf (x y : Int) : ltOf cfV x y = decide (qdq x < qdq y) := by
 unfold ltOf cfV cmp3
 split
 ·rename_i h; simp [h]
 ·rename_i h; split <;> simp [h]
theorem swoV : SWO (ltOf cfV) where
 irrefl x := by rw [zrf]; simp
 trans x y z h1 h2 := by rw [zrf] at *; simp at *; omega
 ntrans x y z h1 h2 := by rw [zrf] at *; simp at *; omega
theorem zqe {a b : Int} (h : a = b) : Ending.returned (.int .i64 a) = .returned (.int .i64 b) := by rw [h]
set_option maxHeartbeats 400000 in
theorem zsv (x : Int) (w : World) :
  Calls Try.prog 96 #[.int .i64 x] w fun e w' => e = .returned (.int .i64 (qdq x)) /\ w' = w := by
 go_enter Try.func96, Try.ntmps96
 go_wp2
 all_goals (go_ret; refine ⟨zqe ?_, rfl⟩; unfold qdq; omega)
set_option maxHeartbeats 400000 in
theorem zxr (x y : Int) (w : World) :
  Calls Try.prog 108 #[.int .i64 x, .int .i64 y] w fun e w' => e = .returned (.int .i64 (cmp3 x y)) /\ w' = w := by
 have hx : (x != x) = false := by simp
 have hy : (y != y) = false := by simp
 go_enter Try.func108, Try.ntmps108
 go_wp2
 all_goals (go_ret; refine ⟨zqe ?_, rfl⟩; unfold cmp3; first | (rw [if_pos (by omega)]; done) | (rw [if_neg (by omega), if_pos (by omega)]; done) | (rw [if_neg (by omega), if_neg (by omega)]; done))
set_option maxHeartbeats 400000 in
theorem zm2 (x y : Int) (w : World) :
  Calls Try.prog 62 #[.int .i64 x, .int .i64 y] w fun e w' => e = .returned (.int .i64 (cfV x y)) /\ w' = w := by
 go_enter Try.func62, Try.ntmps62
 go_wp2_with (first | (go_at_call 96; refine (zsv _ _).mono ?_; rintro e w' ⟨rfl, hw⟩; rw [hw]; clear hw) | (go_at_call 108; refine (zxr _ _ _).mono ?_; rintro e w' ⟨rfl, hw⟩; rw [hw]; clear hw))
 go_ret
 exact ⟨rfl, rfl⟩
theorem zrd {w : World} : ∀ {ss : List Int} {vs : List Value} {fps : List Nat}, zaq w (ss.map (T.int .i64)) vs fps -> vs = ss.map (Value.int .i64) /\ fps = [] /\ ∀ s ∈ ss, IntKind.min .i64 <= s /\ s <= IntKind.max .i64
 | [], vs, fps, h => ⟨h.1, h.2, by simp⟩
 | s :: ss, vs, fps, h => by
  obtain ⟨v, vs', f1, f2, rfl, rfl, h1, h2⟩ := h
  unfold zar at h1
  obtain ⟨rfl, k1, k1', rfl⟩ := h1
  obtain ⟨rfl, rfl, k2⟩ := zrd h2
  exact ⟨rfl, rfl, fun x hx => (List.mem_cons.1 hx).elim (fun e => e ▸ ⟨k1, k1'⟩) (k2 x)⟩
theorem zpa {w : World} : ∀ {ss : List Int}, (∀ s ∈ ss, IntKind.min .i64 <= s /\ s <= IntKind.max .i64) -> zaq w (ss.map (T.int .i64)) (ss.map (Value.int .i64)) []
 | [], _ => ⟨rfl, rfl⟩
 | s :: ss, h => ⟨_, _, [], [], rfl, rfl, by unfold zar; exact ⟨rfl, (h s (by simp)).1, (h s (by simp)).2, rfl⟩, zpa fun x hx => h x (by simp [hx])⟩
theorem zlm (ss : List Int) : (ss.map fun s => [T.int .i64 s]).flatten = ss.map (T.int .i64) := by induction ss <;> simp_all
theorem zti (ss : List Int) : lens 1 (ss.map fun s => [T.int .i64 s]) := fun r hr => by obtain ⟨s, _, rfl⟩ := List.mem_map.1 hr; rfl
theorem zt5 {xs ys : List Int} {d' : Array Int} (hp : PermIn 0 xs.toArray.size xs.toArray d') (hs : SortedIn (ltOf cfV) 0 xs.toArray.size d') (hxy : xs.Perm ys) (hy : Ris ys) (hb : Sm ys) : d'.toList = ys := by
 obtain ⟨p1, _, p3⟩ := hp
 have hsz : d'.size = xs.length := by rw [p1]; simp
 have e1 : (d'.extract 0 xs.toArray.size).toList = d'.toList := by simp [<- p1]
 have e2 : (xs.toArray.extract 0 xs.toArray.size).toList = xs := by simp
 rw [e1, e2] at p3
 have hpy := p3.trans hxy
 refine zr0 hpy hy (List.pairwise_iff_getElem.2 fun i j hi hj hij => ?_)
 have hj' : j < d'.size := by simpa using hj
 have hi' : i < d'.size := by simpa using hi
 have h := hs i j (Nat.zero_le _) hij (by rw [<- p1]; exact hj')
 rw [zrf, getElem!_pos d' j hj', getElem!_pos d' i hi', decide_eq_false_iff_not] at h
 have m1 : d'[i] ∈ ys := hpy.mem_iff.1 (by rw [<- Array.getElem_toList hi']; exact List.getElem_mem _)
 have m2 : d'[j] ∈ ys := hpy.mem_iff.1 (by rw [<- Array.getElem_toList hj']; exact List.getElem_mem _)
 rw [zu6 (hb _ m1), zu6 (hb _ m2)] at h
 rw [Array.getElem_toList, Array.getElem_toList]
 omega
set_option maxHeartbeats 1000000 in
theorem zw1 (p : Option Addr) (cap : Nat) (fv : Value) (w : World) :
  Calls Try.prog 119 #[.slice p 0 cap, .int .i64 0, .int .i64 0, fv] w fun e w' => e = .returned (.tuple #[]) /\ w' = w := by
 go_enter Try.func119, Try.ntmps119
 go_wp2
 refine wp_loop_rounds 1 ?_
 rw [rounds_succ]
 go_wp2
 go_end0
 exact ⟨rfl, rfl⟩
set_option maxHeartbeats 2000000 in
theorem zve (p : Option Addr) (cap : Nat) (lim : Int) (fv : Value) (w : World) :
  Calls Try.prog 106 #[.slice p 0 cap, .int .i64 0, .int .i64 0, .int .i64 lim, fv] w fun e w' => e = .returned (.tuple #[]) /\ w' = w := by
 go_enter Try.func106, Try.ntmps106
 go_wp2
 refine wp_loop_rounds 1 ?_
 rw [rounds_succ]
 go_wp2_with (go_at_call 119; refine (zw1 p cap fv _).mono ?_; rintro e w' ⟨rfl, rfl⟩)
 (try simp only [Exit.inBlock, Exit.then]); refine bodyPost_ret (results_none rfl _ _ _) rfl ?_
 exact ⟨rfl, rfl⟩
set_option maxHeartbeats 2000000 in
theorem zr6 (p : Option Addr) (cap : Nat) (fv : Value) (w : World) :
  Calls Try.prog 61 #[.slice p 0 cap, fv] w fun e w' => e = .returned (.tuple #[]) /\ w' = w := by
 have hl : ∀ W, Calls Try.prog 107 #[.int .u64 0] W fun e w' => e = .returned (.int .i64 (Lib.bitLen 0 : Nat)) /\ w' = W := fun W =>
  Any.bits_Len (SlLaysF0.n15.bits (P := Try.prog) (ρ := Try.laysSF_ren) { Try.laysSF with }) 0 W (by omega) (by omega)
 go_enter Try.func61, Try.ntmps61
 go_wp2_with (first | (go_at_call 107; refine (hl _).mono ?_; rintro e w' ⟨rfl, rfl⟩) | (go_at_call 106; refine (zve p cap _ fv _).mono ?_; rintro e w' ⟨rfl, rfl⟩))
 go_end0
 exact ⟨rfl, rfl⟩
set_option maxHeartbeats 1000000 in
theorem qgo (xs ys : List Int) (hp : xs.Perm ys) (hr : Ris ys) (hb : Sm ys) (hl : xs.length < 4611686018427387904) : IC Try.prog 61 [] (.one (zas xs)) [.one (.fn 62 [])] (.one (zas ys)) [] := by
 refine ⟨Try.call61, fun w us1 v us2 fp tp h1 hg h2 hn => ?_⟩
 rw [show us1 = [] from h1]
 obtain ⟨u, us, e0, h2, h3⟩ := h2
 rw [show us = [] from h3] at e0
 subst e0
 have h2 : zaf w _ (T.fn 62 []) u := h2
 unfold zaf at h2
 obtain ⟨cs, rfl, h4⟩ := h2
 rw [show cs = [] by unfold zab at h4; exact h4]
 have hlen : ys.length = xs.length := hp.length_eq.symm
 have eg : ∀ args w, (callFunc 62 args).run Try.prog w = .ok (.enter 62 args) w := enters_of Try.func62 (by kernel_rfl) rfl
 obtain ⟨hg, _⟩ := hg
 unfold zar at hg
 obtain ⟨ao, cap, rfl, q1, q2, q3⟩ := hg
 rw [List.length_map] at q1 ⊢
 rcases q3 with ⟨rfl, rfl, q3, rfl⟩ | ⟨b, cells, ty, fps, rfl, rfl, q3, q4, q5⟩
 ·have hs : xs = [] := List.map_eq_nil_iff.1 q3
  subst hs
  have hy : ys = [] := List.length_eq_zero_iff.1 hlen
  subst hy
  refine (zr6 none 0 _ w).mono ?_
  rintro e w' ⟨rfl, rfl⟩
  refine ⟨[], [], [], rfl, ⟨_, [], [], [], [], [], rfl, rfl, rfl, ⟨?_, rfl⟩, rfl, rfl, rfl⟩, List.nodup_nil, by simp, Bk.refl _ _⟩
  unfold zar
  exact ⟨none, 0, by simp, by simp, by simp, Or.inl ⟨rfl, rfl, by simp, rfl⟩⟩
 ·obtain ⟨_, vs, k1, k2, k3⟩ := q5.vals
  rw [zlm] at k3
  obtain ⟨rfl, rfl, k4⟩ := zrd k3
  have hsz : xs.length <= cells.size := by omega
  have ht : cells.toList.take xs.length = xs.map (Value.int .i64) := by
   apply List.ext_getElem?
   intro j
   by_cases hj : j < xs.length
   ·rw [List.getElem?_take_of_lt hj, Array.getElem?_toList]
    have := k2 j _ (List.getElem?_eq_getElem (by simpa using hj))
    rw [Nat.zero_add] at this
    rw [this, List.getElem?_eq_getElem (by simpa using hj)]
   ·rw [List.getElem?_take_eq_none (by omega), List.getElem?_eq_none (by simp; omega)]
  have hH := holds_of_blockI q3 ht
  have hcmp : CmpReads Try.prog 62 #[] (Value.int .i64) cfV b 0 xs.toArray.size w := fun m os dk _ x y => (zm2 x y _).mono fun e w' ⟨he, hw⟩ => ⟨he, 0, hw⟩
  have hC := Any.slices_SortFunc Try.laysSF (Value.int .i64) (fun _ => rfl) cfV swoV 62 #[] b 0 cap xs.toArray w eg hcmp.lays hH (Array.getElem?_eq_some_iff.1 q3).1 (by simpa using hl)
  refine Calls.mono (show Calls Try.prog 61 _ w _ from hC) ?_
  rintro e w' ⟨rfl, d', n, os, hp', hs', rfl⟩
  have hd : d'.toList = ys := zt5 hp' hs' hp hr hb
  have hd2 : d' = ys.toArray := by rw [<- hd]
  subst hd2
  have hgr := grownBy_sortedI (w := w) (g := b) (n := n) (os := os) ys.toArray
  have htk := take_putCellsI cells ys (by omega)
  refine ⟨[], [b], [b], rfl, ⟨_, [], [b], [], [b], [], rfl, rfl, rfl, ⟨?_, rfl⟩, rfl, rfl, rfl⟩, by simp, fun x hx => Or.inl hx, ⟨hgr.os, hgr.tape, hgr.output, hgr.size, fun k hk => hgr.block k hk.1 fun e => hk.2 (by cases e; simp)⟩⟩
  unfold zar
  refine ⟨_, cap, by rw [List.length_map, hlen], by rw [List.length_map, hlen]; exact q1, q2, Or.inr ⟨b, _, ty, [], rfl, rfl, heap_sortedI _ q3, by simp [putCells, q4], ?_⟩⟩
  refine zae.of_vals (zti _) (by rw [zlm]; exact zpa fun s hs => k4 s (hp.mem_iff.2 hs)) fun j u hu => ?_
  rw [<- htk, List.getElem?_take] at hu
  split at hu
  ·simpa using hu
  ·cases hu
end Go.Proofs.Yteeaofpphmhjdaa
namespace Go.Proofs.Yteeaofpphmhjdaa
set_option linter.unusedSimpArgs false
set_option linter.unusedVariables false
set_option linter.unusedSectionVars false
set_option maxRecDepth 4000
open Go.RowKit
set_option maxRecDepth 100000 in
theorem zxj (n : Nat) (hn : n <= 1099511627776) : FC Try.prog 130 [.one (.pin (.slice none 0 0) (.sl 1 [])), iD n] [.one (.sl 1 [])] := by
 refine ⟨Try.call130, fun w vs fp tp hv hnd => ?_⟩
 obtain ⟨v1, _, rfl, h1, hv⟩ := hv
 obtain ⟨v2, _, rfl, h2, hv⟩ := hv
 obtain ⟨rfl, rfl, rfl⟩ := hv
 have e1 : v1 = .slice none 0 0 := by
  have h : zaf w (fun b => b < w.heap.size /\ ¬b ∈ []) (.pin (.slice none 0 0) (.sl 1 [])) v1 := h1
  unfold zaf at h; exact h.1
 have e2 : v2 = .int .i64 n := by
  have h : zaf w (fun b => b < w.heap.size /\ ¬b ∈ []) (.int .i64 n) v2 := h2
  unfold zaf at h; exact h.1
 clear h1 h2
 subst e1 e2
 obtain ⟨i, hi, hz, hs, hby⟩ : ∃ i, Try.prog.info? 3 = some i /\ i.zero = some (.int .i64 0) /\ i.size = 1 /\ i.bytes = 8 := ⟨_, rfl, rfl, rfl, rfl⟩
 have g1 : ¬ ((n : Int) < 0) := by omega
 have g2 : wrap64 ((0 : Int) - 0) = 0 := by unfold wrap64; omega
 have g3 : wrap64 ((n : Int) - 0) = n := by unfold wrap64; omega
 by_cases h0 : n = 0
 ·subst h0
  go_enter Try.func130, Try.ntmps130
  go_wp2
  go_ret
  refine ⟨[.slice none 0 0], rfl, [], ⟨_, _, [], [], [], _, [], rfl, rfl, rfl, ⟨?_, rfl⟩, rfl, rfl, rfl⟩, List.nodup_nil, by simp, Bk.refl _ _⟩
  unfold zar
  exact ⟨none, 0, rfl, Nat.le_refl _, by simp, Or.inl ⟨rfl, rfl, rfl, rfl⟩⟩
 ·have g4 : (n : Int) > 0 := by omega
  have hrz := fun ty => Lib.run_append_nil_zeros (P := Try.prog) w 27 3 ty 3 i (.int .i64 0) .i64 .i64 Try.underlying27 Try.underlying3 hi hz n (by omega) (by omega) (by omega) (by rw [hby]; omega)
  go_enter Try.func130, Try.ntmps130
  go_wp2_with (at_builtin; refine Lib.wpList_append_run _ rfl _ _ _ _ rfl _ _ rfl rfl _ _ (hrz _) ?_)
  go_ret
  have hge := grownCap_ge w n 0 3
  have hle := grownCap_le_maxLen w n 0 3 (by unfold maxLen; omega)
  generalize grownCap w n 0 3 = G at hge hle ⊢
  refine ⟨[.slice (some ⟨w.heap.size, 0, none⟩) 0 G], rfl, [w.heap.size], ⟨_, _, [], [w.heap.size], [], _, [], rfl, rfl, rfl, ⟨?_, rfl⟩, rfl, rfl, rfl⟩, by simp, by simp, ⟨rfl, rfl, rfl, ?_, fun k hk => ?_⟩⟩
  ·unfold zar
   refine ⟨_, G, rfl, Nat.zero_le _, by unfold maxLen at hle; omega, Or.inr ⟨w.heap.size, Builtin.zeroCells #[.int .i64 0] n ++ Builtin.zeroCells #[.int .i64 0] (G - n), 3, [], rfl, rfl, ?_, ?_, by unfold zae; rfl⟩⟩
   ·show (w.heap.push _)[w.heap.size]? = _
    simp
   ·simp [size_zeroCells]; omega
  ·show w.heap.size <= (w.heap.push _).size
   rw [Array.size_push]; omega
  ·show (w.heap.push _)[k]? = _
   have hk : k < w.heap.size := by simpa using hk
   rw [Array.getElem?_push_lt hk, Array.getElem?_eq_getElem hk]
def zzr (A B : List Int) : Nat -> Nat
 | 0 => 0
 | 1 => A.length
 | _ => A.length + B.length
def qbg (A B : List Int) : Nat -> List Int
 | 0 => []
 | 1 => A
 | _ => A ++ B
theorem zuv (A B : List Int) : zzr A B 0 = 0 := rfl
theorem zxw (A B : List Int) : zzr A B 1 = A.length := rfl
theorem zvb (A B : List Int) : zzr A B 2 = A.length + B.length := rfl
theorem zyu (A B : List Int) : qbg A B 0 = [] := rfl
theorem zt2 (A B : List Int) : qbg A B 1 = A := rfl
theorem zu7 (A B : List Int) : qbg A B 2 = A ++ B := rfl
set_option maxHeartbeats 1000000 in
theorem zo3 (A B : List Int) (hA : A.length + B.length <= 4194304) : FC Try.prog 114 [.one (.sl 1 [[zas A], [zas B]])] [.one (zas (A ++ B))] := by
 have hG := zxj (A.length + B.length) (by omega)
 have w1 : IntKind.i64.wrap ((A.length : Int) + (B.length : Int)) = ((A.length + B.length : Nat) : Int) := by rw [zam (by omega) (by omega)]; omega
 have w0 : IntKind.i64.wrap (0 + (A.length : Int)) = ((A.length : Nat) : Int) := by rw [zam (by omega) (by omega)]; omega
 have u1 : IntKind.i64.wrap 1 = 1 := rfl
 have u2 : IntKind.i64.wrap 2 = 2 := rfl
 have ha1 : A.length <= 4294967296 := by omega
 have ha2 : A.length + B.length <= 4294967296 := by omega
 refine zay Try.call114 Try.func114 rfl (by kernel_rfl) (zbb (by kernel_rfl)) ?_
 simp -implicitDefEqProofs only [go_sem, Try.results114]
 refine zak (fun k : Nat => hd [(0, vT (.sl 1 [[zas A], [zas B]])), (3, vI (zzr A B k)), (9, vT (.sl 1 [[zas A], [zas B]])), (10, vI 2), (11, vI k)] [] []) (fun k => k <= 2) (fun k => 2 - k) 0 (zaa ?_) (Nat.zero_le _) ?_
 ·simp -implicitDefEqProofs only [go_sem, zuv]
 ·intro k hk
  rcases (by omega : k = 0 \/ k = 1 \/ k = 2) with rfl | rfl | rfl
  ·simp -implicitDefEqProofs only [go_sem, zuv, w0]
   refine ⟨1, by omega, by omega, zaa ?_⟩
   simp -implicitDefEqProofs only [go_sem, zxw, u1]
  ·simp -implicitDefEqProofs only [go_sem, zxw, w1]
   refine ⟨2, by omega, by omega, zaa ?_⟩
   simp -implicitDefEqProofs only [go_sem, zvb, u2]
  ·simp -implicitDefEqProofs only [go_sem, zvb]
   refine callFn hG (by simp -implicitDefEqProofs only [go_sem, vdn_nl, vdn_t, qff]) ?_
   simp -implicitDefEqProofs only [go_sem]
   refine zak (fun k : Nat => hd [(6, .one (.ow 768 0)), (25, vT (.sl 1 [[zas A], [zas B]])), (26, vI 2), (27, vI k)] [] [(768, ⟨true, 1, (qbg A B k).map fun s => [.int .i64 s], 0, true⟩)]) (fun k => k <= 2) (fun k => 2 - k) 0 (zaa ?_) (Nat.zero_le _) ?_
   ·simp -implicitDefEqProofs only [go_sem, zyu, List.map_nil]
   ·intro k hk
    rcases (by omega : k = 0 \/ k = 1 \/ k = 2) with rfl | rfl | rfl
    ·simp -implicitDefEqProofs only [go_sem, zyu, List.map_nil]
     refine apD true (by simp -implicitDefEqProofs only [go_sem, ne_eq, List.length_map, ha1, Nat.zero_add]) ?_
     simp -implicitDefEqProofs only [go_sem, ne_eq, List.length_map, ha1, Nat.zero_add]
     refine ⟨1, by omega, by omega, zaa ?_⟩
     simp -implicitDefEqProofs only [go_sem, zt2, u1]
    ·simp -implicitDefEqProofs only [go_sem, zt2]
     refine apD true (by simp -implicitDefEqProofs only [go_sem, ne_eq, List.length_map, ha2]) ?_
     simp -implicitDefEqProofs only [go_sem, ne_eq, List.length_map, ha2]
     refine ⟨2, by omega, by omega, zaa ?_⟩
     simp -implicitDefEqProofs only [go_sem, zu7, u2, List.map_append]
    ·simp -implicitDefEqProofs only [go_sem, zu7]
end Go.Proofs.Yteeaofpphmhjdaa
namespace Go.Proofs.Yteeaofpphmhjdaa
set_option linter.unusedSimpArgs false
set_option linter.unusedVariables false
set_option linter.unusedSectionVars false
set_option maxRecDepth 4000
open Go.RowKit
set_option maxHeartbeats 1000000 in
theorem zz3 (c : List Int) (x : Int) (hc : Sm c) (hx : -1073741824 <= x /\ x <= 1073741824) (hl : c.length <= 4294967290) : FC Try.prog 66 [.one (zas c), iD x] [.one (zas (zic c x))] := by
 have HX := zkz x (by omega)
 refine zay Try.call66 Try.func66 rfl (by kernel_rfl) (zbb (by kernel_rfl)) ?_
 simp -implicitDefEqProofs only [go_sem, Try.results66]
 refine zak (fun k : Nat => hd [(0, vT (zas c)), (1, vI x), (5, vI k)] [] []) (fun k => k <= c.length /\ zic c x = c.take k ++ zic (c.drop k) x) (fun k => c.length - k) 0 (zaa ?_) ?_ ?_
 ·simp -implicitDefEqProofs only [go_sem]
 ·simp
 ·intro k ⟨hk, hr⟩
  have fin : zic (c.drop k) x = x :: c.drop k -> zic c x = c.take k ++ [x] ++ c.drop k := fun e => by rw [hr, e]; simp
  have hl0 : min k c.length <= 4294967296 := by omega
  have hl1 : min k c.length <= 4294967295 := by omega
  have hl2 : min k c.length + 1 <= 4294967295 := by omega
  have hl3 : min k c.length + 1 + (c.length - k) <= 4294967296 := by omega
  by_cases hlt : k < c.length
  ·have HA := zkz c[k] (by have := hc _ (List.getElem_mem hlt); omega)
   rw [List.drop_eq_getElem_cons hlt] at hr fin
   by_cases hab : ab c[k] < ab x
   ·have hab' : (ab c[k] < ab x) = True := by simpa using hab
    simp -implicitDefEqProofs only [go_sem, hlt, zag]
    refine callF (HA) (by simp -implicitDefEqProofs only [go_sem]) ?_
    simp -implicitDefEqProofs only [go_sem]
    refine callF (HX) (by simp -implicitDefEqProofs only [go_sem, hab']) ?_
    simp -implicitDefEqProofs only [go_sem, hab']
    rw [zaw (by omega)]
    refine ⟨k + 1, ⟨hlt, ?_⟩, by omega, zaa (by simp -implicitDefEqProofs only [go_sem])⟩
    rw [hr, show zic (c[k] :: c.drop (k + 1)) x = c[k] :: zic (c.drop (k + 1)) x by rw [zic, if_pos hab], List.take_succ_eq_append_getElem hlt, List.append_assoc]
    rfl
   ·have hab' : (ab c[k] < ab x) = False := by simpa using hab
    have hf := fin (by rw [zic, if_neg hab])
    rw [<- List.drop_eq_getElem_cons hlt] at hf
    rw [hf]
    simp -implicitDefEqProofs only [go_sem, hlt, zag]
    refine callF (HA) (by simp -implicitDefEqProofs only [go_sem]) ?_
    simp -implicitDefEqProofs only [go_sem]
    refine callF (HX) (by simp -implicitDefEqProofs only [go_sem, hab']) ?_
    simp -implicitDefEqProofs only [go_sem, hab']
    refine drawn (by kernel_rfl) ?_
    simp -implicitDefEqProofs only [go_sem]
    refine zfn (by simp -implicitDefEqProofs only [go_sem, hk, <- List.map_take]) ?_
    simp -implicitDefEqProofs only [go_sem, hk, <- List.map_take]
    refine qfe true (by simp -implicitDefEqProofs only [go_sem, ne_eq, List.length_map, List.length_take, Nat.zero_add, hl0]) ?_
    simp -implicitDefEqProofs only [go_sem, ne_eq, List.length_map, List.length_take, Nat.zero_add, hl0]
    refine zfn (by simp -implicitDefEqProofs only [go_sem]) ?_
    simp -implicitDefEqProofs only [go_sem]
    refine qfe true (by simp -implicitDefEqProofs only [go_sem, ne_eq, List.length_map, List.length_append, List.length_take, hl1]) ?_
    simp -implicitDefEqProofs only [go_sem, ne_eq, List.length_map, List.length_append, List.length_take, hl1]
    refine ⟨hk, ?_⟩
    rw [<- List.map_take, List.take_length, <- List.map_drop]
    refine qfe true (by simp -implicitDefEqProofs only [go_sem, ne_eq, List.length_map, List.length_append, List.length_take, List.length_cons, List.length_nil, List.length_drop, hl3]) ?_
    simp -implicitDefEqProofs only [go_sem, ne_eq, List.length_map, List.length_append, List.length_take, List.length_cons, List.length_nil, List.length_drop, hl3]
    refine ⟨by kernel_rfl, ?_⟩
    rw [List.map_append, List.map_append]
    rfl
  ·have hf := fin (by rw [List.drop_of_length_le (by omega)]; rfl)
   rw [hf]
   simp -implicitDefEqProofs only [go_sem, hlt]
   refine drawn (by kernel_rfl) ?_
   simp -implicitDefEqProofs only [go_sem]
   refine zfn (by simp -implicitDefEqProofs only [go_sem, hk, <- List.map_take]) ?_
   simp -implicitDefEqProofs only [go_sem, hk, <- List.map_take]
   refine qfe true (by simp -implicitDefEqProofs only [go_sem, ne_eq, List.length_map, List.length_take, Nat.zero_add, hl0]) ?_
   simp -implicitDefEqProofs only [go_sem, ne_eq, List.length_map, List.length_take, Nat.zero_add, hl0]
   refine zfn (by simp -implicitDefEqProofs only [go_sem]) ?_
   simp -implicitDefEqProofs only [go_sem]
   refine qfe true (by simp -implicitDefEqProofs only [go_sem, ne_eq, List.length_map, List.length_append, List.length_take, hl1]) ?_
   simp -implicitDefEqProofs only [go_sem, ne_eq, List.length_map, List.length_append, List.length_take, hl1]
   refine ⟨hk, ?_⟩
   rw [<- List.map_take, List.take_length, <- List.map_drop]
   refine qfe true (by simp -implicitDefEqProofs only [go_sem, ne_eq, List.length_map, List.length_append, List.length_take, List.length_cons, List.length_nil, List.length_drop, hl3]) ?_
   simp -implicitDefEqProofs only [go_sem, ne_eq, List.length_map, List.length_append, List.length_take, List.length_cons, List.length_nil, List.length_drop, hl3]
   refine ⟨by kernel_rfl, ?_⟩
   rw [List.map_append, List.map_append]
   rfl
theorem zku (p : Int -> Bool) (xs : List Int) {k : Nat} (h : k < xs.length) : (xs.take (k + 1)).filter p = (xs.take k).filter p ++ if p xs[k] = true then [xs[k]] else [] := by
 rw [List.take_succ_eq_append_getElem h, List.filter_append]
 congr 1
 rw [List.filter_cons]
 split <;> simp
set_option maxHeartbeats 2000000 in
theorem zlv (a b : List Int) (v : Int) (ha : Sm a) (hb : Sm b) (hv : -1073741824 <= v /\ v <= 1073741824) (hl : a.length + b.length <= 1073741824) : FC Try.prog 112 [.one (zas a), .one (zas b), iD v] [.one (zas (zdb a b v).1), bD (zdb a b v).2] := by
 have H1 := zee a v
 have H2 := zee b (-v)
 have hwn : IntKind.i64.wrap (0 - v) = -v := by rw [zam (by omega) (by omega)]; omega
 unfold zdb
 cases h1 : a.contains v
 ·rw [h1] at H1
  rw [Bool.false_and, if_neg (by simp)]
  refine zay Try.call112 Try.func112 rfl (by kernel_rfl) (zbb (by kernel_rfl)) ?_
  simp -implicitDefEqProofs only [go_sem, Try.results112]
  refine callF (H1) (by simp -implicitDefEqProofs only [go_sem]) ?_
  simp -implicitDefEqProofs only [go_sem]
  refine zan (by simp -implicitDefEqProofs only [go_sem]) ?_
  simp -implicitDefEqProofs only [go_sem]
 ·rw [h1] at H1
  cases h2 : b.contains (-v)
  ·rw [h2] at H2
   rw [Bool.and_false, if_neg (by simp)]
   refine zay Try.call112 Try.func112 rfl (by kernel_rfl) (zbb (by kernel_rfl)) ?_
   simp -implicitDefEqProofs only [go_sem, Try.results112]
   refine callF (H1) (by simp -implicitDefEqProofs only [go_sem]) ?_
   simp -implicitDefEqProofs only [go_sem]
   rw [hwn]
   refine callF (H2) (by simp -implicitDefEqProofs only [go_sem]) ?_
   simp -implicitDefEqProofs only [go_sem]
   refine zan (by simp -implicitDefEqProofs only [go_sem]) ?_
   simp -implicitDefEqProofs only [go_sem]
  ·rw [h2] at H2
   rw [Bool.and_self, if_pos rfl]
   obtain ⟨R, hR⟩ : ∃ R, zkc v (a.filter fun x => !(x == v)) b = R := ⟨_, rfl⟩
   rw [hR]
   refine zay Try.call112 Try.func112 rfl (by kernel_rfl) (zbb (by kernel_rfl)) ?_
   simp -implicitDefEqProofs only [go_sem, Try.results112]
   refine callF (H1) (by simp -implicitDefEqProofs only [go_sem]) ?_
   simp -implicitDefEqProofs only [go_sem]
   rw [hwn]
   refine callF (H2) (by simp -implicitDefEqProofs only [go_sem]) ?_
   simp -implicitDefEqProofs only [go_sem]
   refine zan (by simp -implicitDefEqProofs only [go_sem]) ?_
   simp -implicitDefEqProofs only [go_sem]
   refine zak (fun k : Nat => hd [(0, vT (zas a)), (1, vT (zas b)), (2, vI v), (8, .one (.ow 736 ((a.take k).filter fun x => !(x == v)).length)), (9, vI k)] [] [(736, ⟨true, 1, ((a.take k).filter fun x => !(x == v)).map fun s => [.int .i64 s], ((a.take k).filter fun x => !(x == v)).length, true⟩)]) (fun k => k <= a.length) (fun k => a.length - k) 0 (zaa ?_) (Nat.zero_le _) ?_
   ·simp -implicitDefEqProofs only [go_sem]
    rfl
   ·intro k hk
    have hfl := List.length_filter_le (fun x => !(x == v)) (a.take k)
    rw [List.length_take] at hfl
    by_cases hlt : k < a.length
    ·have hs := zku (fun x => !(x == v)) a hlt
     have hol : ((a.take k).filter fun x => !(x == v)).length <= 4294967295 := by omega
     cases hx : a[k] == v
     ·have hx' : (a[k] != v) = true := by unfold bne; rw [hx]; rfl
      rw [hx, Bool.not_false, if_pos rfl] at hs
      simp -implicitDefEqProofs only [go_sem, hlt, zag, hx']
      refine zan (by simp -implicitDefEqProofs only [go_sem]) ?_
      simp -implicitDefEqProofs only [go_sem]
      refine apD true (by simp -implicitDefEqProofs only [go_sem, ne_eq, List.length_map, hol]) ?_
      simp -implicitDefEqProofs only [go_sem, ne_eq, List.length_map, hol]
      rw [zaw (by omega)]
      refine ⟨k + 1, hlt, by omega, zaa ?_⟩
      simp -implicitDefEqProofs only [go_sem]
      rw [hs, List.map_append, List.length_append]
      rfl
     ·have hx' : (a[k] != v) = false := by unfold bne; rw [hx]; rfl
      rw [hx, Bool.not_true, if_neg (by simp), List.append_nil] at hs
      simp -implicitDefEqProofs only [go_sem, hlt, zag, hx']
      rw [zaw (by omega)]
      refine ⟨k + 1, hlt, by omega, zaa ?_⟩
      simp -implicitDefEqProofs only [go_sem]
      rw [hs]
    ·have hkn : k = a.length := by omega
     subst hkn
     rw [List.take_length] at hfl ⊢
     have hsm : Sm (a.filter fun x => !(x == v)) := fun l hl => ha l (List.mem_filter.1 hl).1
     generalize (a.filter fun x => !(x == v)) = F at hfl hsm hR ⊢
     simp -implicitDefEqProofs only [go_sem, hlt]
     refine zak (fun x : Nat × Nat × List Int => hd [(1, vT (zas b)), (2, vI v), (8, .one (.ow 736 x.2.1)), (10, vI x.1)] [] [(736, ⟨true, 1, x.2.2.map fun s => [.int .i64 s], x.2.1, true⟩)]) (fun x => x.1 <= b.length /\ zkc v x.2.2 (b.drop x.1) = R /\ Sm x.2.2 /\ x.2.2.length <= a.length + x.1) (fun x => b.length - x.1) (0, F.length, F) (zaa ?_) ?_ ?_
     ·simp -implicitDefEqProofs only [go_sem]
     ·exact ⟨Nat.zero_le _, hR, hsm, by simp only; omega⟩
     ·rintro ⟨j, gn, out⟩ ⟨hj, hr, hso, hlo⟩
      simp only at hj hr hso hlo
      by_cases hjl : j < b.length
      ·rw [List.drop_eq_getElem_cons hjl, zkc] at hr
       have hbj := hb _ (List.getElem_mem hjl)
       have HA := zee out b[j]
       have HB := zee out (-b[j])
       have hwb : IntKind.i64.wrap (0 - b[j]) = -b[j] := by rw [zam (by omega) (by omega)]; omega
       have HP := zz3 out b[j] hso hbj (by omega)
       have hwj : IntKind.i64.wrap ((j : Int) + 1) = ((j + 1 : Nat) : Int) := zaw (by omega)
       cases e1 : b[j] == -v
       ·rw [e1, Bool.false_or] at hr
        cases e2 : out.contains b[j]
        ·rw [e2, if_neg (by simp)] at hr
         rw [e2] at HA
         cases e3 : out.contains (-b[j])
         ·rw [e3, if_neg (by simp)] at hr
          rw [e3] at HB
          simp -implicitDefEqProofs only [go_sem, hjl, zag]
          rw [hwn]
          simp -implicitDefEqProofs only [go_sem, e1, hjl, zag]
          refine callF (HA) (by simp -implicitDefEqProofs only [go_sem, hjl, zag]) ?_
          simp -implicitDefEqProofs only [go_sem, hjl, zag]
          rw [hwb]
          refine callF (HB) (by simp -implicitDefEqProofs only [go_sem, hjl, zag]) ?_
          simp -implicitDefEqProofs only [go_sem, hjl, zag]
          refine callF (HP) (by simp -implicitDefEqProofs only [go_sem]) ?_
          simp -implicitDefEqProofs only [go_sem]
          rw [hwj]
          refine ⟨(j + 1, 0, zic out b[j]), ⟨hjl, hr, ?_, ?_⟩, by simp only; omega, qbh 736 2464 ?_⟩
          ·intro l hl
           rcases zdl.1 hl with rfl | hl
           ·exact hbj
           ·exact hso l hl
          ·simp only; rw [zn6]; omega
          ·simp -implicitDefEqProofs only [go_sem]
         ·rw [e3, if_pos rfl] at hr
          rw [e3] at HB
          subst hr
          simp -implicitDefEqProofs only [go_sem, hjl, zag]
          rw [hwn]
          simp -implicitDefEqProofs only [go_sem, e1, hjl, zag]
          refine callF (HA) (by simp -implicitDefEqProofs only [go_sem, hjl, zag]) ?_
          simp -implicitDefEqProofs only [go_sem, hjl, zag]
          rw [hwb]
          refine callF (HB) (by simp -implicitDefEqProofs only [go_sem]) ?_
          simp -implicitDefEqProofs only [go_sem]
          refine zan (by simp -implicitDefEqProofs only [go_sem]) ?_
          simp -implicitDefEqProofs only [go_sem]
        ·rw [e2, if_pos rfl] at hr
         rw [e2] at HA
         simp -implicitDefEqProofs only [go_sem, hjl, zag]
         rw [hwn]
         simp -implicitDefEqProofs only [go_sem, e1, hjl, zag]
         refine callF (HA) (by simp -implicitDefEqProofs only [go_sem]) ?_
         simp -implicitDefEqProofs only [go_sem]
         rw [hwj]
         refine ⟨(j + 1, gn, out), ⟨hjl, hr, hso, by simp only; omega⟩, by simp only; omega, zaa ?_⟩
         simp -implicitDefEqProofs only [go_sem]
       ·rw [e1, Bool.true_or, if_pos rfl] at hr
        simp -implicitDefEqProofs only [go_sem, hjl, zag]
        rw [hwn]
        simp -implicitDefEqProofs only [go_sem, e1]
        rw [hwj]
        refine ⟨(j + 1, gn, out), ⟨hjl, hr, hso, by simp only; omega⟩, by simp only; omega, zaa ?_⟩
        simp -implicitDefEqProofs only [go_sem]
      ·rw [List.drop_of_length_le (by omega)] at hr
       have hr : (out, true) = R := hr
       subst hr
       simp -implicitDefEqProofs only [go_sem, hjl]
end Go.Proofs.Yteeaofpphmhjdaa
namespace Go.Proofs.Yteeaofpphmhjdaa
set_option linter.unusedSimpArgs false
set_option linter.unusedVariables false
set_option linter.unusedSectionVars false
set_option maxRecDepth 4000
open Go.RowKit
def rsO (a b : List Int) (v : Int) : List Int × Bool := if (pcl a && pcl b && inB v 1 12) = true then zdb a b v else ([], false)
theorem zmv {a b : List Int} {v : Int} (h : (pcl a && pcl b && inB v 1 12 && a.contains v && b.contains (-v)) = false) : rsO a b v = ([], false) := by
 unfold rsO zdb
 split
 next h1 =>
  rw [h1, Bool.true_and] at h
  rw [if_neg (by rw [h]; simp)]
 next => rfl
set_option maxHeartbeats 2000000 in
theorem zhk (a b : List Int) (v : Int) (hl : a.length + b.length <= 1073741824) : FC Try.prog 82 [.one (zas a), .one (zas b), iD v] [.one (zas (rsO a b v).1), bD (rsO a b v).2] := by
 have H1 := zc9 a
 have H2 := zc9 b
 have H3 := zg3 v
 have H4 := zbh a v
 have H5 := zbh b (-v)
 cases h1 : pcl a
 ·rw [zmv (by rw [h1]; rfl)]
  rw [h1] at H1
  refine zay Try.call82 Try.func82 rfl (by kernel_rfl) (zbb (by kernel_rfl)) ?_
  simp -implicitDefEqProofs only [go_sem, Try.results82]
  refine callF (H1) (by simp -implicitDefEqProofs only [go_sem]) ?_
  simp -implicitDefEqProofs only [go_sem]
 ·rw [h1] at H1
  cases h2 : pcl b
  ·rw [zmv (by rw [h1, h2]; rfl)]
   rw [h2] at H2
   refine zay Try.call82 Try.func82 rfl (by kernel_rfl) (zbb (by kernel_rfl)) ?_
   simp -implicitDefEqProofs only [go_sem, Try.results82]
   refine callF (H1) (by simp -implicitDefEqProofs only [go_sem]) ?_
   simp -implicitDefEqProofs only [go_sem]
   refine callF (H2) (by simp -implicitDefEqProofs only [go_sem]) ?_
   simp -implicitDefEqProofs only [go_sem]
  ·rw [h2] at H2
   cases h3 : inB v 1 12
   ·rw [zmv (by rw [h1, h2, h3]; rfl)]
    rw [h3] at H3
    refine zay Try.call82 Try.func82 rfl (by kernel_rfl) (zbb (by kernel_rfl)) ?_
    simp -implicitDefEqProofs only [go_sem, Try.results82]
    refine callF (H1) (by simp -implicitDefEqProofs only [go_sem]) ?_
    simp -implicitDefEqProofs only [go_sem]
    refine callF (H2) (by simp -implicitDefEqProofs only [go_sem]) ?_
    simp -implicitDefEqProofs only [go_sem]
    refine callF (H3) (by simp -implicitDefEqProofs only [go_sem]) ?_
    simp -implicitDefEqProofs only [go_sem]
   ·rw [h3] at H3
    have hv : 1 <= v /\ v <= 12 := by unfold inB at h3; simpa using h3
    have hwn : IntKind.i64.wrap (0 - v) = -v := by rw [zam (by omega) (by omega)]; omega
    cases h4 : a.contains v
    ·rw [zmv (by rw [h1, h2, h3, h4]; rfl)]
     rw [h4] at H4
     refine zay Try.call82 Try.func82 rfl (by kernel_rfl) (zbb (by kernel_rfl)) ?_
     simp -implicitDefEqProofs only [go_sem, Try.results82]
     refine callF (H1) (by simp -implicitDefEqProofs only [go_sem]) ?_
     simp -implicitDefEqProofs only [go_sem]
     refine callF (H2) (by simp -implicitDefEqProofs only [go_sem]) ?_
     simp -implicitDefEqProofs only [go_sem]
     refine callF (H3) (by simp -implicitDefEqProofs only [go_sem]) ?_
     simp -implicitDefEqProofs only [go_sem]
     refine callF (H4) (by simp -implicitDefEqProofs only [go_sem]) ?_
     simp -implicitDefEqProofs only [go_sem]
    ·rw [h4] at H4
     cases h5 : b.contains (-v)
     ·rw [zmv (by rw [h1, h2, h3, h4, h5]; rfl)]
      rw [h5] at H5
      refine zay Try.call82 Try.func82 rfl (by kernel_rfl) (zbb (by kernel_rfl)) ?_
      simp -implicitDefEqProofs only [go_sem, Try.results82]
      refine callF (H1) (by simp -implicitDefEqProofs only [go_sem]) ?_
      simp -implicitDefEqProofs only [go_sem]
      refine callF (H2) (by simp -implicitDefEqProofs only [go_sem]) ?_
      simp -implicitDefEqProofs only [go_sem]
      refine callF (H3) (by simp -implicitDefEqProofs only [go_sem]) ?_
      simp -implicitDefEqProofs only [go_sem]
      refine callF (H4) (by simp -implicitDefEqProofs only [go_sem]) ?_
      simp -implicitDefEqProofs only [go_sem]
      rw [hwn]
      refine callF (H5) (by simp -implicitDefEqProofs only [go_sem]) ?_
      simp -implicitDefEqProofs only [go_sem]
     ·rw [h5] at H5
      have hO : rsO a b v = zdb a b v := by unfold rsO; rw [h1, h2, h3]; rfl
      rw [hO]
      have hres := qb3 h1 h2 hv.1 (List.contains_iff_mem.1 h4) (List.contains_iff_mem.1 h5)
      have hpc := zhb h1 h2 v
      have hC := zo3 a b (by have := zcn h1; have := zcn h2; omega)
      have hla := zcn h1
      have hlb := zcn h2
      have hsm : Sm (a ++ b) := fun l hl => by
       rcases List.mem_append.1 hl with hl | hl
       ·exact zgf h1 l hl
       ·exact zgf h2 l hl
      have hlen : (a ++ b).length <= 24 := by simp; omega
      obtain ⟨R, hR⟩ : ∃ R, zy0 v [] (a ++ b) = R := ⟨_, rfl⟩
      rw [hR] at hres
      generalize a ++ b = C at hC hsm hlen hR
      refine zay Try.call82 Try.func82 rfl (by kernel_rfl) (zbb (by kernel_rfl)) ?_
      simp -implicitDefEqProofs only [go_sem, Try.results82]
      refine callF (H1) (by simp -implicitDefEqProofs only [go_sem]) ?_
      simp -implicitDefEqProofs only [go_sem]
      refine callF (H2) (by simp -implicitDefEqProofs only [go_sem]) ?_
      simp -implicitDefEqProofs only [go_sem]
      refine callF (H3) (by simp -implicitDefEqProofs only [go_sem]) ?_
      simp -implicitDefEqProofs only [go_sem]
      refine callF (H4) (by simp -implicitDefEqProofs only [go_sem]) ?_
      simp -implicitDefEqProofs only [go_sem]
      rw [hwn]
      refine callF (H5) (by simp -implicitDefEqProofs only [go_sem]) ?_
      simp -implicitDefEqProofs only [go_sem]
      refine zan (by simp -implicitDefEqProofs only [go_sem]) ?_
      simp -implicitDefEqProofs only [go_sem]
      refine zos (by simp -implicitDefEqProofs only [go_sem]) ?_
      simp -implicitDefEqProofs only [go_sem]
      refine callF (hC) (by simp -implicitDefEqProofs only [go_sem]) ?_
      simp -implicitDefEqProofs only [go_sem]
      refine zak (fun x : Nat × List Int => hd [(2, vI v), (8, .one (.ow 1184 x.2.length)), (41, .one (.ow 1312 0)), (42, vI C.length), (43, vI x.1)] [] [(1184, ⟨true, 1, x.2.map fun s => [.int .i64 s], x.2.length, true⟩), (1312, ⟨true, 1, C.map fun s => [.int .i64 s], 0, true⟩)]) (fun x => x.1 <= C.length /\ zy0 v x.2 (C.drop x.1) = R /\ x.2.length <= x.1) (fun x => C.length - x.1) (0, []) (zaa ?_) ?_ ?_
      ·simp -implicitDefEqProofs only [go_sem]
      ·exact ⟨Nat.zero_le _, hR, Nat.le_refl _⟩
      ·rintro ⟨j, out⟩ ⟨hj, hr, hlo⟩
       simp only at hj hr hlo
       by_cases hjl : j < C.length
       ·rw [List.drop_eq_getElem_cons hjl, zy0] at hr
        have hcj := hsm _ (List.getElem_mem hjl)
        have HA := zbh out C[j]
        have HB := zbh out (-C[j])
        have hwb : IntKind.i64.wrap (0 - C[j]) = -C[j] := by rw [zam (by omega) (by omega)]; omega
        have hwj : IntKind.i64.wrap ((j : Int) + 1) = ((j + 1 : Nat) : Int) := zaw (by omega)
        have hol : out.length <= 4294967295 := by omega
        cases e1 : C[j] == v
        ·cases e2 : C[j] == -v
         ·rw [e1, e2, Bool.false_or, Bool.false_or] at hr
          cases e3 : out.contains C[j]
          ·rw [e3, if_neg (by simp)] at hr
           rw [e3] at HA
           cases e4 : out.contains (-C[j])
           ·rw [e4, if_neg (by simp)] at hr
            rw [e4] at HB
            simp -implicitDefEqProofs only [go_sem, hjl, zag, e1]
            rw [hwn]
            simp -implicitDefEqProofs only [go_sem, e2]
            refine callF (HA) (by simp -implicitDefEqProofs only [go_sem]) ?_
            simp -implicitDefEqProofs only [go_sem]
            rw [hwb]
            refine callF (HB) (by simp -implicitDefEqProofs only [go_sem]) ?_
            simp -implicitDefEqProofs only [go_sem]
            refine zan (by simp -implicitDefEqProofs only [go_sem]) ?_
            simp -implicitDefEqProofs only [go_sem]
            refine apD true (by simp -implicitDefEqProofs only [go_sem, ne_eq, List.length_map, hol]) ?_
            simp -implicitDefEqProofs only [go_sem, ne_eq, List.length_map, hol]
            rw [hwj]
            refine ⟨(j + 1, out ++ [C[j]]), ⟨hjl, hr, by simp; omega⟩, by simp only; omega, zaa ?_⟩
            simp -implicitDefEqProofs only [go_sem]
            rw [List.map_append]
            rfl
           ·rw [e4, if_pos rfl] at hr
            rw [e4] at HB
            subst hr
            have hres : zdb a b v = ([], false) := hres
            rw [hres]
            simp -implicitDefEqProofs only [go_sem, hjl, zag, e1]
            rw [hwn]
            simp -implicitDefEqProofs only [go_sem, e2]
            refine callF (HA) (by simp -implicitDefEqProofs only [go_sem]) ?_
            simp -implicitDefEqProofs only [go_sem]
            rw [hwb]
            refine callF (HB) (by simp -implicitDefEqProofs only [go_sem]) ?_
            simp -implicitDefEqProofs only [go_sem]
          ·rw [e3, if_pos rfl] at hr
           rw [e3] at HA
           simp -implicitDefEqProofs only [go_sem, hjl, zag, e1]
           rw [hwn]
           simp -implicitDefEqProofs only [go_sem, e2]
           refine callF (HA) (by simp -implicitDefEqProofs only [go_sem]) ?_
           simp -implicitDefEqProofs only [go_sem]
           rw [hwj]
           refine ⟨(j + 1, out), ⟨hjl, hr, by simp only; omega⟩, by simp only; omega, zaa ?_⟩
           simp -implicitDefEqProofs only [go_sem]
         ·rw [e1, e2, Bool.false_or, Bool.true_or, if_pos rfl] at hr
          simp -implicitDefEqProofs only [go_sem, hjl, zag, e1]
          rw [hwn]
          simp -implicitDefEqProofs only [go_sem, e2]
          rw [hwj]
          refine ⟨(j + 1, out), ⟨hjl, hr, by simp only; omega⟩, by simp only; omega, zaa ?_⟩
          simp -implicitDefEqProofs only [go_sem]
        ·rw [e1, Bool.true_or, Bool.true_or, if_pos rfl] at hr
         simp -implicitDefEqProofs only [go_sem, hjl, zag, e1]
         rw [hwj]
         refine ⟨(j + 1, out), ⟨hjl, hr, by simp only; omega⟩, by simp only; omega, zaa ?_⟩
         simp -implicitDefEqProofs only [go_sem]
       ·rw [List.drop_of_length_le (by omega)] at hr
        have hr : some out = R := hr
        subst hr
        obtain ⟨o, ho, hpo, hro⟩ := (show ∃ o, zdb a b v = (o, true) /\ out.Perm o /\ Ris o from hres)
        rw [ho] at hpc ⊢
        have HS := qgo out o hpo hro (zgf hpc) (by omega)
        simp -implicitDefEqProofs only [go_sem, hjl]
        refine callIs (HS) (by simp -implicitDefEqProofs only [go_sem]) (by simp -implicitDefEqProofs only [go_sem]) rfl ?_
        simp -implicitDefEqProofs only [go_sem]
end Go.Proofs.Yteeaofpphmhjdaa
namespace Go.Proofs.Yteeaofpphmhjdaa
set_option linter.unusedSimpArgs false
set_option linter.unusedVariables false
set_option linter.unusedSectionVars false
set_option maxRecDepth 4000
open Go.RowKit
def zh9 : Int -> Nat -> Int × Nat
 | o0, k => (((k : Nat) : Int), (k + 1))
def zc5 : List Int -> Nat -> List Int × Nat
 | [], k => ([], k)
 | a :: xs, k => ((zh9 a k).1 :: (zc5 xs (zh9 a k).2).1, (zc5 xs (zh9 a k).2).2)
def zlq : Int -> Nat
 | _ => 1 + 1
def zjh : List Int -> Nat
 | [] => 0
 | a :: xs => zlq a + zjh xs
theorem zz1 : ∀ (a : Int) (k : Nat), k <= (zh9 a k).2 /\ (zh9 a k).2 <= k + zlq a
 | o0, k => by simp only [zh9, zlq]; omega
theorem zge : ∀ (xs : List Int) (k : Nat), k <= (zc5 xs k).2 /\ (zc5 xs k).2 <= k + zjh xs
 | [], k => ⟨Nat.le_refl _, Nat.le_refl _⟩
 | a :: xs, k => by have h1 := zz1 a k; have h2 := zge xs (zh9 a k).2; simp only [zc5, zjh]; omega
theorem zjz : ∀ xs : List Int, xs.length <= zjh xs
 | [] => Nat.le_refl _
 | a :: xs => by
  have := zjz xs
  have : 1 <= zlq a := by simp only [zlq]; omega
  simp only [List.length_cons, zjh]; omega
theorem zou (xs : List Int) :
  ∀ k : Nat, 0 < k -> k + zjh xs <= 4611686018427387904 -> IC Try.prog 40 [] (.one (zas xs)) [iD k] (.one (zas (zc5 xs k).1)) [iD (zc5 xs k).2] := by
 intro k h0 hk
 refine zwc Try.call40 Try.func40 rfl (by kernel_rfl) (by simp only [zet, rd, List.map_cons, List.map_nil, List.nil_append, List.length_cons, List.length_nil, Try.ntmps40]; omega) (by simp only [Try.ntmps40]; omega) (fun vs => ?_)
 simp -implicitDefEqProofs only [go_sem, Try.results40, qb1, zr4, zet, PI]
 refine zak (fun (x : List Int × List Int × Nat) => hd [(0, .one (.ow 0 0)), (1000000, .one (.ow 0 0)), (1, vI x.2.2), (5, vI x.1.length)] [] [(0, ⟨true, 1, x.1.map (fun s => [T.int .i64 s]) ++ ze2 vs x.1.length (x.2.1.map (fun s => [T.int .i64 s])), 0, true⟩)])
  (fun x => (zc5 xs k).1 = x.1 ++ (zc5 x.2.1 x.2.2).1 /\ (zc5 xs k).2 = (zc5 x.2.1 x.2.2).2 /\ 0 < x.2.2 /\ x.2.2 + zjh x.2.1 <= 4611686018427387904 /\ x.1.length + x.2.1.length = xs.length /\ ∀ a ∈ x.2.1, a ∈ xs) (fun x => x.2.1.length) ([], xs, k) (zaa ?_) ?_ ?_
 ·simp -implicitDefEqProofs only [go_sem]
 ·exact ⟨rfl, rfl, h0, hk, by simp, fun _ h => h⟩
 ·intro ⟨dn, rest, kk⟩ ⟨h1, h2, h3, h4, h6, h5⟩
  simp only at h1 h2 h3 h4 h5 h6
  cases rest with
  | nil =>
   simp only [zc5, List.append_nil] at h1 h2
   simp -implicitDefEqProofs only [go_sem, h1, h2]
  | cons o0 rest =>
   simp only [zc5, zh9, zjh, zlq] at h1 h2 h4
   have w0 : IntKind.i64.wrap (((kk : Nat) : Int) + 1) = ((kk + 1 : Nat) : Int) := zaw (by omega)
   have hln := zjz xs
   rw [List.length_cons] at h6
   have wl : IntKind.i64.wrap ((dn.length : Int) + 1) = ((dn.length + 1 : Nat) : Int) := zaw (by omega)
   simp -implicitDefEqProofs only [go_sem, List.map_cons]
   refine zeu (by simp -implicitDefEqProofs only [go_sem, implies_true, w0]) ?_
   simp -implicitDefEqProofs only [go_sem, implies_true, w0]
   refine ⟨(dn ++ [((kk : Nat) : Int)], rest, (kk + 1)), ⟨by simpa using h1, h2, by show 0 < (kk + 1); omega, by show (kk + 1) + zjh rest <= _; omega, by simp; omega, fun b hb => h5 b (by simp [hb])⟩, by simp, zaa ?_⟩
   simp -implicitDefEqProofs only [go_sem, wl, List.map_cons, List.map_append, List.append_assoc]
theorem zig (xs : List Int) (k : Nat) (h0 : 0 < k) (hk : k + zjh xs <= 4611686018427387904) : IC Try.prog 40 [] (.one (zas xs)) [iD k] (.one (zas (zc5 xs k).1)) [iD (zc5 xs k).2] := zou xs k h0 hk
theorem zol (xs : List Int) :
  ∀ k : Nat, 0 < k -> k + zjh xs <= 4611686018427387904 -> FC Try.prog 41 [.one (zas (zc5 xs k).1), iD k] [iD (zc5 xs k).2] := by
 intro k h0 hk
 refine zay Try.call41 Try.func41 rfl (by kernel_rfl) (zbb (by kernel_rfl)) ?_
 simp -implicitDefEqProofs only [go_sem, Try.results41]
 refine zak (fun (x : List Int × List Int × Nat) => hd [(0, vT (.sl 1 (x.1.map (fun s => [T.int .i64 s]) ++ (zc5 x.2.1 x.2.2).1.map (fun s => [T.int .i64 s])))), (1, vI x.2.2), (5, vI x.1.length)] [] [])
  (fun x => (zc5 xs k).1 = x.1 ++ (zc5 x.2.1 x.2.2).1 /\ (zc5 xs k).2 = (zc5 x.2.1 x.2.2).2 /\ 0 < x.2.2 /\ x.2.2 + zjh x.2.1 <= 4611686018427387904 /\ x.1.length + x.2.1.length = xs.length /\ ∀ a ∈ x.2.1, a ∈ xs) (fun x => x.2.1.length) ([], xs, k) (zaa ?_) ?_ ?_
 ·simp -implicitDefEqProofs only [go_sem]
 ·exact ⟨rfl, rfl, h0, hk, by simp, fun _ h => h⟩
 ·intro ⟨dn, rest, kk⟩ ⟨h1, h2, h3, h4, h6, h5⟩
  simp only at h1 h2 h3 h4 h5 h6
  cases rest with
  | nil =>
   simp only [zc5, List.append_nil] at h1 h2
   simp -implicitDefEqProofs only [go_sem, h2, zc5]
  | cons o0 rest =>
   simp only [zc5, zh9, zjh, zlq] at h1 h2 h4
   have w0 : IntKind.i64.wrap (((kk : Nat) : Int) + 1) = ((kk + 1 : Nat) : Int) := zaw (by omega)
   have hln := zjz xs
   rw [List.length_cons] at h6
   have wl : IntKind.i64.wrap ((dn.length : Int) + 1) = ((dn.length + 1 : Nat) : Int) := zaw (by omega)
   simp -implicitDefEqProofs only [go_sem, zc5, zh9, List.map_cons]
   simp only [bne_self_eq_false]
   simp -implicitDefEqProofs only [go_sem, w0]
   refine ⟨(dn ++ [((kk : Nat) : Int)], rest, (kk + 1)), ⟨by simpa using h1, h2, by show 0 < (kk + 1); omega, by show (kk + 1) + zjh rest <= _; omega, by simp; omega, fun b hb => h5 b (by simp [hb])⟩, by simp, zaa ?_⟩
   simp -implicitDefEqProofs only [go_sem, wl, List.map_cons, List.map_append, List.append_assoc]
theorem zso (xs : List Int) (k : Nat) (h0 : 0 < k) (hk : k + zjh xs <= 4611686018427387904) : FC Try.prog 41 [.one (zas (zc5 xs k).1), iD k] [iD (zc5 xs k).2] := zol xs k h0 hk
theorem zqb (xs ys : List Int) : FC Try.prog 35 [.one (zas xs), .one (zas ys)] [bD (same xs ys)] := by
 refine zd2 (fun hw => ?_) Try.call35
 have hl : xs.length <= 9223372036854775807 := by simpa [zm1, wfT] using hw.1.1
 have hl2 : ys.length <= 9223372036854775807 := by simpa [zm1, wfT] using hw.2.1.1
 refine zay Try.call35 Try.func35 rfl (by kernel_rfl) (zbb (by kernel_rfl)) ?_
 simp -implicitDefEqProofs only [go_sem, Try.results35]
 refine ⟨fun h => ?_, fun h => ?_⟩
 ·rw [zcm.2 (by rintro rfl; simp at h)]
 ·have hlen : xs.length = ys.length := by simp at h; omega
  refine zak (fun k : Nat => hd [(0, vT (zas xs)), (1, vT (zas ys)), (4, vB false), (5, vI k)] [] []) (fun k => k <= xs.length /\ same xs ys = same (xs.drop k) (ys.drop k)) (fun k => xs.length - k) 0 (zaa ?_) ?_ ?_
  ·simp -implicitDefEqProofs only [go_sem]
  ·simp
  ·intro k ⟨hk, hr⟩
   by_cases hlt : k < xs.length
   ·have hk2 : k < ys.length := by omega
    simp -implicitDefEqProofs only [go_sem, List.length_map, hlt]
    refine drawn (by kernel_rfl) ?_
    simp -implicitDefEqProofs only [go_sem, List.length_map, zag, hlt, hk2]
    refine ⟨by kernel_rfl, fun h => ?_, fun h => ?_⟩
    ·rw [hr, List.drop_eq_getElem_cons hlt, List.drop_eq_getElem_cons hk2, zdc, show same xs[k] ys[k] = false from zcm.2 (by simpa using h)]; rfl
    ·rw [List.drop_eq_getElem_cons hlt, List.drop_eq_getElem_cons hk2, zdc, show same xs[k] ys[k] = true from zcs.2 (by simpa using h), Bool.true_and] at hr
     rw [zaw (by omega)]
     exact ⟨k + 1, ⟨by omega, hr⟩, by omega, zaa (by simp -implicitDefEqProofs only [go_sem])⟩
   ·simp -implicitDefEqProofs only [go_sem, List.length_map, hlt]
    rw [hr, List.drop_of_length_le (by omega), List.drop_of_length_le (by omega), qbr]
theorem znw : ∀ xs : List Int, zjh xs = 2 * xs.length
 | [] => rfl
 | a :: xs => by rw [zjh, znw xs, zlq, List.length_cons]; omega
end Go.Proofs.Yteeaofpphmhjdaa
