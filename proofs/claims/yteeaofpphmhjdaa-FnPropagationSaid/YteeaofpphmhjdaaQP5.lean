/-
  The walk over plain data, and contracts of functions of the program and of its laws.
  Conditions: those that each theorem names.
-/
import Derived.Test.YteeaofpphmhjdaaQP4
import Derived.Lib.SliceRun
import Derived.Deep.LoopGhost
import Derived.Sort.OwnSortedInts
import Derived.RegionTactic
import Derived.BigRegion
namespace Go.Proofs.Yteeaofpphmhjdaa
set_option linter.unusedSimpArgs false
set_option linter.unusedVariables false
set_option linter.unusedSectionVars false
set_option maxRecDepth 4000
open Go.RowKit
variable {P : Program} {N : Nat}
theorem zcm {w : World} {zt : T} {z : Value} (h : zaq w zt z []) : ∀ n, zak w (List.replicate n [zt]).flatten (List.replicate n z) []
 | 0 => ⟨rfl, rfl⟩
 | n + 1 => by
  rw [List.replicate_succ, List.replicate_succ, List.flatten_cons]
  exact ⟨z, List.replicate n z, [], [], rfl, rfl, h, zcm h n⟩
theorem zhp : ∀ {rows : List (List T)}, lens 1 rows -> rows.flatten.length = rows.length
 | [], _ => rfl
 | r :: rs, h => by
  rw [List.flatten_cons, List.length_append, zhp fun x hx => h x (by simp [hx]), h r (by simp), List.length_cons]; omega
theorem zga : ∀ {rows : List (List T)} (k : Nat), lens 1 rows -> (rows.take k).flatten = rows.flatten.take k
 | [], k, _ => by simp
 | r :: rs, 0, _ => rfl
 | r :: rs, k + 1, h => by
  obtain ⟨x, rfl⟩ := List.length_eq_one_iff.1 (h r (by simp))
  rw [List.take_succ_cons, List.flatten_cons, List.flatten_cons, zga k fun y hy => h y (by simp [hy])]
  rfl
theorem ziz : ∀ {rows : List (List T)} (k : Nat), flR rows = true -> flR (rows.take k) = true
 | [], k, _ => by simp [flR]
 | r :: rs, 0, _ => rfl
 | r :: rs, k + 1, h => by
  unfold flR at h
  rw [Bool.and_eq_true] at h
  rw [List.take_succ_cons]
  unfold flR
  rw [h.1, ziz k h.2]; rfl
def clrM (P : Program) (t : TypeId) (x lo : Operand) (d : Nat) (zt : T) (K : St -> Prop) (σ : St) : Prop := match σ.get P t x, σ.get P 0 lo with
 | .one (.ow e gn), .one (.t (.int _ k)) => zao (σ.ev e) fun y => y.gen = gn /\ y.on = true /\ y.deep = true /\ y.sz = 1 /\ flR y.rows = true /\ 0 <= k /\ k < y.rows.length /\ K ((σ.apd e [] ⟨true, 1, y.rows.take k.toNat ++ List.replicate (y.rows.length - k.toNat) [zt], gn, true⟩).put (some d) (.one .any))
 | _, _ => False
theorem zvr {t : TypeId} {x lo : Operand} {d : Nat} {zt : T} {K : St -> Prop} {σ : St} (h : clrM P t x lo d zt K σ) : ∃ e gn kk k rows, σ.get P t x = .one (.ow e gn) /\ σ.get P 0 lo = .one (.t (.int kk k)) /\ σ.ev e = some ⟨true, 1, rows, gn, true⟩ /\ flR rows = true /\ 0 <= k /\ k < rows.length /\ K ((σ.apd e [] ⟨true, 1, rows.take k.toNat ++ List.replicate (rows.length - k.toNat) [zt], gn, true⟩).put (some d) (.one .any)) := by
 unfold clrM at h
 split at h
 ·rename_i e gn kk k h1 h2
  obtain ⟨y, he, h3⟩ := zai h
  obtain ⟨dp, sz, rows, g, on⟩ := y
  obtain ⟨rfl, rfl, rfl, rfl, h4, h5, h6, h7⟩ := h3
  exact ⟨e, _, kk, k, rows, h1, h2, he, h4, h5, h6, h7⟩
 ·exact h.elim
theorem zb4.clr {i d : Nat} {ops : Array Oper} {t el : TypeId} {x lo : Operand} {y0 y1 : TypeId} {p0 p1 : String} {f0 f1 : Array Edge} {σ : St} {Q : Exit -> St -> Prop} {z : Value} (m : Nat) (zt : T) (hz : ops.size = m + 2) (c0 : ops[m]? = some ⟨some d, .slice t x (some lo) none none, y0, p0, f0, none⟩) (c1 : ops[m + 1]? = some ⟨none, .call ⟨.builtin .clear, #[.tmp d], #[t]⟩, y1, p1, f1, none⟩)
  (hg : (ops.toList.all fun o => o.guard.isNone) = true) (hd : zbx N (.region i ops false) = true) (hdN : d < N) (hel : elT P t = some el) (hsz : za4 P el = some 1) (hzv : ∀ w, (zeroValue el).run P w = .ok z w) (hzc : z.cells = #[z]) (hz1 : z.oneCell' = true) (hzt : ∀ w, zaq w zt z []) (hzf : zt.flat = true)
  (h : exo P ops (ops.toList.take m) [] (fun _ σ' => clrM P t x lo d zt (Q .normal) σ') σ) : zb4 P N (.region i ops false) σ Q := fun n0 w0 A0 g a w hR hn hb hA => by
 refine wp_region ?_
 have hd' : ∀ o ∈ ops.toList, ∀ d, o.dst = some d -> d < N := fun o ho d hdd => by
  simp only [zbx, Array.all_eq_true_iff_forall_mem] at hd
  have := hd o (by simpa using ho)
  rw [hdd] at this
  simpa using this
 have hg' : ∀ o ∈ ops.toList, o.guard = none := fun o ho => by
  have := List.all_eq_true.1 hg o ho
  simpa using this
 rw [hz, List.range_eq_range', show List.range' 0 (m + 2) = List.range' 0 m ++ [m, m + 1] by rw [show m + 2 = m + 1 + 1 from rfl, List.range'_1_concat, List.range'_1_concat]; simp]
 refine zjb (w0 := w0) (A0 := A0) hg' ?_ m 0 (by omega) hd' σ g a w (by simpa [exo, zni] using h) hR hn hb hA
 intro a w σ g hK hR hn hb hA
 obtain ⟨e, gn, kk, k, rows, s1, s2, he, hfl, hk0, hkl, hK⟩ := zvr hK
 have v1 := hR.get P t x
 rw [s1] at v1
 obtain ⟨v1, -⟩ := v1
 obtain ⟨vs0, fps, top, hT⟩ := hR.tgt he rfl
 have hlens := hT.lens
 simp only at hlens
 rcases hT.val with ⟨_, hh, _⟩ | ⟨b, cap, cells, cty, w1, w2, w3, w4, w5, w6, w7⟩
 ·simp only at hh; rw [hh] at hkl; simp at hkl; omega
 simp only at w1 w2 w5 w6
 obtain ⟨kn, rfl⟩ : ∃ kn : Nat, k = kn := ⟨k.toNat, by omega⟩
 rw [Int.toNat_natCast] at hK
 have hkl : kn < rows.length := by omega
 have hfps : fps = [] := by
  have hown := hT.own rfl
  simp only at hown
  have : ∀ {ts : List T} {vs : List Value} {f : List Nat}, (∀ c ∈ ts, c.flat = true) -> zak w ts vs f -> f = [] := fun {ts} => by
   induction ts with
   | nil => intro vs f _ h; exact h.2
   | cons c ts ih =>
    intro vs f hc h
    obtain ⟨v, vs', f1, f2, _, rfl, h1, h2⟩ := h
    rw [ih (fun c' hc' => hc c' (by simp [hc'])) h2, List.append_nil]
    have hcf := hc c (by simp)
    cases c <;> simp only [T.flat, Bool.false_eq_true] at hcf <;> unfold zaq at h1
    ·exact h1.2.2.2
    ·exact h1.2
    ·exact h1.2.2
    ·exact h1.2
  exact this (zed hfl) hown
 subst hfps
 have hbn := zbu (P := P) (low := some lo) (high := none) (len := rows.length) (cap := cap) hR true (l := (kn : Int)) (u := (rows.length : Int)) (by simp only [zfu, s2]) rfl (by omega) (by omega) (by omega) w2
 have hun : P.underlying t = some (.slice el) := zcw hel
 have e0 : (execOp a.eval ⟨some d, .slice t x (some lo) none none, y0, p0, f0, none⟩).run P w = .ok (.value (.slice (some ⟨b, kn, none⟩) (rows.length - kn) (cap - kn))) w := by
  unfold execOp
  have hcp : ¬ cap = kn := by omega
  rw [Int.toNat_natCast, Int.toNat_natCast, Option.map_some, Option.map_none] at hbn
  simp only [Instr.sliceAt, Instr.slice, Sem.run_bind, run_underlying hun, Result.andThen, v1, w1, Option.map_some, Option.map_none, hbn, za1 hsz, Sem.run_pure]
  rw [if_neg hcp]
  simp only [Addr.add]
  congr 2
  split <;> simp_all
 rw [wpOps_cons]
 unfold wpOp
 simp only [c0]
 rw [if_pos (by simp [Region.wanted])]
 refine Or.inl ?_
 unfold Oper.wp
 rw [e0]
 show wpOps P ops _ [m + 1] _ w
 rw [wpOps_cons]
 unfold wpOp
 simp only [c1]
 rw [if_pos (by simp [Region.wanted])]
 refine Or.inl ?_
 unfold Oper.wp
 have ev : (a.put (some d) (.slice (some ⟨b, kn, none⟩) (rows.length - kn) (cap - kn))).eval (.tmp d) = .slice (some ⟨b, kn, none⟩) (rows.length - kn) (cap - kn) := by
  show (a.tmps.setIfInBounds d _).getD d undef = _
  exact zcd hR.size hdN _ _
 have hcs : kn + (rows.length - kn) <= cells.size := by rw [w5]; omega
 have hst := run_storeCells_at P b kn cty (List.replicate (rows.length - kn) z) 0 cells w w4 (by simpa using hcs) (fun v hv => by rw [List.eq_of_mem_replicate hv]; exact hz1)
 have hzc' : (Builtin.zeroCells z.cells (rows.length - kn)).toList = List.replicate (rows.length - kn) z := by
  rw [hzc]
  simp [Builtin.zeroCells]
  apply List.ext_getElem
  ·simp
  ·intro i h1 h2
   simp [Nat.mod_one]
 simp only [Nat.add_zero, List.length_replicate] at hst
 have e1 : (execOp (a.put (some d) (.slice (some ⟨b, kn, none⟩) (rows.length - kn) (cap - kn))).eval ⟨none, .call ⟨.builtin .clear, #[.tmp d], #[t]⟩, y1, p1, f1, none⟩).run P w = .ok (.value (.tuple #[])) (w.setRow b (cells.toList.take kn ++ List.replicate (rows.length - kn) z ++ cells.toList.drop (kn + (rows.length - kn))).toArray) := by
  obtain ⟨n', hn'⟩ : ∃ n', rows.length - kn = n' + 1 := ⟨rows.length - kn - 1, by omega⟩
  rw [hn'] at ev hst hzc' ⊢
  unfold execOp
  simp [resolve, invoke, builtin, ev, Builtin.clear_, run_underlying hun, hzv, hzc', hst, Result.andThen]
 rw [e1]
 have hown := hT.own rfl
 simp only at hown
 rw [<- List.take_append_drop kn rows.flatten] at hown
 obtain ⟨u1, u2, f1, f2, hu, hf, k1, k2⟩ := hown.split
 obtain ⟨rfl, rfl⟩ := List.append_eq_nil_iff.1 hf.symm
 have hfl1 := zhp hlens
 have l1 : u1.length = kn := by rw [k1.len, List.length_take]; omega
 rw [Nat.mul_one] at w6
 obtain ⟨rest, hrest⟩ : ∃ rest, cells.toList = vs0 ++ rest := ⟨cells.toList.drop rows.length, by rw [<- w6, List.take_append_drop]⟩
 have hvl : vs0.length = rows.length := by
  have := hT.len
  simp only at this
  omega
 have hnew : cells.toList.take kn ++ List.replicate (rows.length - kn) z ++ cells.toList.drop (kn + (rows.length - kn)) = u1 ++ List.replicate (rows.length - kn) z ++ rest := by
  rw [show kn + (rows.length - kn) = vs0.length by omega, hrest, List.drop_left, hu, List.append_assoc u1 u2, <- l1, List.take_left]
 rw [hnew]
 have hsame : ∀ k, k ≠ b -> (w.setRow b (u1 ++ List.replicate (rows.length - kn) z ++ rest).toArray).heap[k]? = w.heap[k]? := fun k hk => setRow_other w _ k _ hk
 have hblk := setRow_heap w b cells (u1 ++ List.replicate (rows.length - kn) z ++ rest).toArray cty (0, 0) w4
 have hsize : (w.setRow b (u1 ++ List.replicate (rows.length - kn) z ++ rest).toArray).heap.size = w.heap.size := setRow_size _ _ _
 have hbk : Bk n0 w (w.setRow b (u1 ++ List.replicate (rows.length - kn) z ++ rest).toArray) := ⟨rfl, rfl, rfl, Nat.le_of_eq hsize.symm, fun k hk => hsame k fun e' => (hT.bx b (Or.inl w7.symm)).2.1.2.2 (e' ▸ hk)⟩
 generalize w.setRow b (u1 ++ List.replicate (rows.length - kn) z ++ rest).toArray = w' at hsame hblk hsize hbk ⊢
 have hyl : (rows.take kn ++ List.replicate (rows.length - kn) [zt]).length = rows.length := by simp; omega
 have hR' := hR.apd_fin (w' := w') (y := ⟨true, 1, rows.take kn ++ List.replicate (rows.length - kn) [zt], gn, true⟩) (v' := g.ψ e gn) (fp' := [b]) (fps2 := []) hT rfl (fun m hm => ⟨by
   obtain ⟨q, hq, hmq⟩ := hm
   rw [he, Option.some.injEq] at hq
   subst hq
   exact hmq, fun em => by simp only at em; rw [em]⟩) (cons := []) (fun p hp => by simp at hp) (fun b hb => by simp at hb) b (Or.inl w7.symm) (fun k _ hk => hsame k hk) (Nat.le_of_eq hsize.symm) hn (by simp) (fun c hc => by
   simp only [List.mem_singleton] at hc
   exact Or.inl hc) (fun c hc => by simpa using hc.symm) fun A' hA' => by
  refine ⟨some ⟨b, 0, none⟩, cap, by rw [hyl]; exact w1, by rw [hyl]; exact w2, w3, Or.inr ⟨b, _, cty, [], rfl, rfl, hblk, ?_, ?_⟩⟩
  ·have := congrArg List.length hrest
   simp only [List.length_append, Array.length_toList] at this
   simp only [List.size_toArray, List.length_append, List.length_replicate]
   omega
  ·simp only [if_true]
   have hl2 : lens 1 (rows.take kn ++ List.replicate (rows.length - kn) [zt]) := fun r hr => by
    rcases List.mem_append.1 hr with h | h
    ·exact hlens r (List.mem_of_mem_take h)
    ·rw [List.eq_of_mem_replicate h]; rfl
   have ha : zak w' (rows.take kn ++ List.replicate (rows.length - kn) [zt]).flatten (u1 ++ List.replicate (rows.length - kn) z) [] := by
    rw [List.flatten_append, zga kn hlens]
    exact (k1.keep fun c hc => by simp at hc).append (zcm (hzt w') _)
   refine zae.of_vals hl2 ha fun j u hu => ?_
   rw [Nat.zero_add]
   simp only [List.getElem?_toArray]
   rw [List.getElem?_append_left (List.getElem?_eq_some_iff.1 hu).1]
   exact hu
 refine ⟨_, _, hK, (hR'.put (some d) (x := .one .any) (v := .slice (some ⟨b, kn, none⟩) (rows.length - kn) (cap - kn)) trivial fun j hj => by cases hj; exact hdN), hn.mono hbk.size, hb.trans hbk, hA⟩
def cutM (P : Program) (t : TypeId) (x hi : Operand) (d r : Nat) (K : St -> Prop) (σ : St) : Prop := match σ.get P t x, σ.get P 0 hi with
 | .one (.ow e gn), .one (.t (.int _ k)) => zao (σ.ev e) fun y => y.gen = gn /\ y.on = true /\ y.deep = true /\ y.sz = 1 /\ flR y.rows = true /\ 0 <= k /\ k < y.rows.length /\ K (((σ.apd e [] ⟨true, 1, y.rows.take k.toNat, gn + 1, true⟩).put (some d) (.one (.ow e (gn + 1)))).put (some r) (.one (.ow e (gn + 1))))
 | _, _ => False
theorem zvp {t : TypeId} {x hi : Operand} {d r : Nat} {K : St -> Prop} {σ : St} (h : cutM P t x hi d r K σ) : ∃ e gn kk k rows, σ.get P t x = .one (.ow e gn) /\ σ.get P 0 hi = .one (.t (.int kk k)) /\ σ.ev e = some ⟨true, 1, rows, gn, true⟩ /\ flR rows = true /\ 0 <= k /\ k < rows.length /\ K (((σ.apd e [] ⟨true, 1, rows.take k.toNat, gn + 1, true⟩).put (some d) (.one (.ow e (gn + 1)))).put (some r) (.one (.ow e (gn + 1)))) := by
 unfold cutM at h
 split at h
 ·rename_i e gn kk k h1 h2
  obtain ⟨y, he, h3⟩ := zai h
  obtain ⟨dp, sz, rows, g, on⟩ := y
  obtain ⟨rfl, rfl, rfl, rfl, h4, h5, h6, h7⟩ := h3
  exact ⟨e, _, kk, k, rows, h1, h2, he, h4, h5, h6, h7⟩
 ·exact h.elim
theorem zb4.cutO {i d r : Nat} {ops : Array Oper} {t el : TypeId} {x hi : Operand} {y0 y1 : TypeId} {p0 p1 : String} {f0 f1 : Array Edge} {σ : St} {Q : Exit -> St -> Prop} (m : Nat) (hz : ops.size = m + 2) (c0 : ops[m]? = some ⟨some d, .slice t x none (some hi) none, y0, p0, f0, none⟩) (c1 : ops[m + 1]? = some ⟨some r, .assign (.tmp d), y1, p1, f1, none⟩)
  (hg : (ops.toList.all fun o => o.guard.isNone) = true) (hd : zbx N (.region i ops false) = true) (hdN : d < N /\ r < N) (hel : elT P t = some el) (hsz : za4 P el = some 1)
  (h : exo P ops (ops.toList.take m) [] (fun _ σ' => cutM P t x hi d r (Q .normal) σ') σ) : zb4 P N (.region i ops false) σ Q := fun n0 w0 A0 g a w hR hn hb hA => by
 refine wp_region ?_
 have hd' : ∀ o ∈ ops.toList, ∀ d, o.dst = some d -> d < N := fun o ho d hdd => by
  simp only [zbx, Array.all_eq_true_iff_forall_mem] at hd
  have := hd o (by simpa using ho)
  rw [hdd] at this
  simpa using this
 have hg' : ∀ o ∈ ops.toList, o.guard = none := fun o ho => by
  have := List.all_eq_true.1 hg o ho
  simpa using this
 rw [hz, List.range_eq_range', show List.range' 0 (m + 2) = List.range' 0 m ++ [m, m + 1] by rw [show m + 2 = m + 1 + 1 from rfl, List.range'_1_concat, List.range'_1_concat]; simp]
 refine zjb (w0 := w0) (A0 := A0) hg' ?_ m 0 (by omega) hd' σ g a w (by simpa [exo, zni] using h) hR hn hb hA
 intro a w σ g hK hR hn hb hA
 obtain ⟨e, gn, kk, k, rows, s1, s2, he, hfl, hk0, hkl, hK⟩ := zvp hK
 have v1 := hR.get P t x
 rw [s1] at v1
 obtain ⟨v1, -⟩ := v1
 obtain ⟨ao, cap, w1, w2, w3, w4⟩ := hR.evs e _ he rfl
 simp only at w1 w2 w4
 obtain ⟨kn, rfl⟩ : ∃ kn : Nat, k = kn := ⟨k.toNat, by omega⟩
 rw [Int.toNat_natCast] at hK
 have hkl : kn < rows.length := by omega
 rcases w4 with ⟨_, _, hh, _⟩ | ⟨b, cells, cty, fps, rfl, w5, w6, w7, w8⟩
 ·rw [hh] at hkl; simp at hkl
 rw [if_pos trivial] at w8
 have hfps := zae.flat hfl w8
 subst hfps
 have hbn := zbu (P := P) (low := none) (high := some hi) (len := rows.length) (cap := cap) hR true (l := 0) (u := (kn : Int)) rfl (by simp only [zfu, s2]) (by omega) (by omega) (by omega) w2
 have hun : P.underlying t = some (.slice el) := zcw hel
 have e0 : (execOp a.eval ⟨some d, .slice t x none (some hi) none, y0, p0, f0, none⟩).run P w = .ok (.value (.slice (some ⟨b, 0, none⟩) kn cap)) w := by
  unfold execOp
  have hcp : ¬ cap = 0 := by omega
  rw [Int.toNat_natCast, show ((0 : Int).toNat) = 0 from rfl, Option.map_some, Option.map_none] at hbn
  simp only [Instr.sliceAt, Instr.slice, Sem.run_bind, run_underlying hun, Result.andThen, v1, w1, Option.map_some, Option.map_none, hbn, za1 hsz, Sem.run_pure]
  rw [if_neg hcp]
  simp only [Addr.add]
  congr 2
 have ev : (a.put (some d) (.slice (some ⟨b, 0, none⟩) kn cap)).eval (.tmp d) = .slice (some ⟨b, 0, none⟩) kn cap := by
  show (a.tmps.setIfInBounds d _).getD d undef = _
  exact zcd hR.size hdN.1 _ _
 rw [wpOps_cons]
 unfold wpOp
 simp only [c0]
 rw [if_pos (by simp [Region.wanted])]
 refine Or.inl ?_
 unfold Oper.wp
 rw [e0]
 show wpOps P ops _ [m + 1] _ w
 rw [wpOps_cons]
 unfold wpOp
 simp only [c1]
 rw [if_pos (by simp [Region.wanted])]
 refine Or.inl ?_
 unfold Oper.wp
 have e1 : ∀ (a : Act) (w : World), (execOp a.eval ⟨some r, .assign (.tmp d), y1, p1, f1, none⟩).run P w = .ok (.value (a.eval (.tmp d))) w := fun a w => rfl
 rw [e1, ev]
 obtain ⟨vs0, fps, top, hT⟩ := hR.tgt he rfl
 have hmem : b ∈ g.φ e := by rw [w5]; simp
 have htop : some b = top := by
  rcases hT.val with ⟨_, hh, _⟩ | ⟨b', cap', cells', cty', q1, _, _, _, _, _, q7⟩
  ·simp only at hh; rw [hh] at hkl; simp at hkl
  ·simp only at q1
   rw [w1] at q1
   injection q1 with q1 _ _
   simp only [Option.some.injEq, Addr.mk.injEq, and_true] at q1
   rw [q1]; exact q7.symm
 have hR' := hR.apd_fin (w' := w) (y := ⟨true, 1, rows.take kn, gn + 1, true⟩) (v' := .slice (some ⟨b, 0, none⟩) kn cap) (fp' := [b]) (fps2 := []) hT rfl (fun m hm => by
   obtain ⟨q, hq, hmq⟩ := hm
   rw [he, Option.some.injEq] at hq
   subst hq
   simp only at hmq ⊢
   exact ⟨by omega, fun em => by omega⟩) (cons := []) (fun p hp => by simp at hp) (fun b hb => by simp at hb) b (Or.inl htop) (fun k _ _ => rfl) (Nat.le_refl _) hn (by simp) (fun c hc => by
   simp only [List.mem_singleton] at hc
   exact Or.inl hc) (fun c hc => by simpa using hc.symm) fun A' hA' => by
  refine ⟨some ⟨b, 0, none⟩, cap, by simp only [List.length_take]; congr 1; omega, by simp only [List.length_take]; omega, w3, Or.inr ⟨b, cells, cty, [], rfl, rfl, w6, w7, ?_⟩⟩
  simp only [if_true]
  have : ∀ (rs : List (List T)) (o k : Nat), flR rs = true -> zae w cells o 1 rs [] -> zae w cells o 1 (rs.take k) [] := fun rs => by
   induction rs with
   | nil => intro o k _ h; rw [List.take_nil]; exact h
   | cons r rs ih =>
    intro o k hf h
    cases k with
    | zero => rw [List.take_zero]; unfold zae; rfl
    | succ k =>
     unfold flR at hf
     rw [Bool.and_eq_true] at hf
     unfold zae at h
     obtain ⟨h1, f1, f2, h2, h3, h4⟩ := h
     obtain ⟨rfl, rfl⟩ := List.append_eq_nil_iff.1 h2.symm
     rw [List.take_succ_cons]
     unfold zae
     exact ⟨h1, [], [], rfl, h3, ih _ k hf.2 h4⟩
  exact this rows 0 kn hfl w8
 have hval : ∀ (σ' : St) (g' : Gh), σ'.ev e = some ⟨true, 1, rows.take kn, gn + 1, true⟩ -> g'.ψ e (gn + 1) = .slice (some ⟨b, 0, none⟩) kn cap -> VR σ' g' w (.one (.ow e (gn + 1))) (.slice (some ⟨b, 0, none⟩) kn cap) := fun σ' g' h1 h2 => ⟨h2.symm, _, h1, Nat.le_refl _⟩
 have hE : (σ.apd e [] ⟨true, 1, rows.take kn, gn + 1, true⟩).ev e = some ⟨true, 1, rows.take kn, gn + 1, true⟩ := by simp [St.apd, zab]
 have hR1 := hR'.put (some d) (x := .one (.ow e (gn + 1))) (v := .slice (some ⟨b, 0, none⟩) kn cap) (hval _ _ hE (by simp only [zab])) (fun j hj => by cases hj; exact hdN.1)
 have hR2 := hR1.put (some r) (x := .one (.ow e (gn + 1))) (v := .slice (some ⟨b, 0, none⟩) kn cap) (hval _ _ hE (by simp only [zab])) (fun j hj => by cases hj; exact hdN.2)
 exact ⟨_, _, hK, hR2, hn, hb, hA⟩
attribute [go_sem] clrM cutM
end Go.Proofs.Yteeaofpphmhjdaa
namespace Go.Proofs.Yteeaofpphmhjdaa
set_option linter.unusedSimpArgs false
set_option linter.unusedVariables false
set_option linter.unusedSectionVars false
set_option maxRecDepth 4000
open Go.RowKit
variable {P : Program}
theorem ztn {f : FuncId} {fn : Func} {c : Code} {bx bx' : Bxs} {l : List AF} {res : List (Bool × D)} (hc : zbc P f) (hf : P.funcs[f]? = some fn) (hb : fn.body = some c) (hN : l.length <= fn.ntmps) (hN2 : fn.ntmps <= 1000000) (hbl : bx'.length = bx.length) (hj : AF.okJ bx.length l = true) (hs : zax (AF.ds l ++ bxA bx.flatten)) (hfs : gFS (AF.ds l ++ bxA bx.flatten) = true) (hrl : fn.results.toList.length = res.length)
  (h : zb4 P fn.ntmps c (zdq l bx) (PB P fn.results.toList res bx')) : PC P f bx l bx' res := by
 refine ⟨hc, hbl, fun w bs bvs dvs fp tp A hinj hbf hbx hv hn hl => ?_⟩
 refine calls_of_wp hf hb ?_
 obtain ⟨g, hg, hR⟩ := zik (N := fn.ntmps) hinj hbf hbx hv hn hl hj hN hN2 hs hfs (ξ := fun i => if 1000000 <= i then zlk (bs (i - 1000000)) else undef) (fun i hi => if_neg (by omega)) (fun i b => by
  by_cases h : 1000000 <= i
  ·rw [if_pos h]; exact fun e => by cases e
  ·rw [if_neg h]; exact fun e => by cases e) (fun j hj => by
  rw [if_pos (by omega), show 1000000 + j - 1000000 = j by omega])
 refine wp_mono (h _ w _ g _ w hR (fun k hk => hk.1) (Bk.refl _ _) hg) fun e a' w' hq => ?_
 obtain ⟨σ', g', h1, h2, h3, h4, h5⟩ := hq
 have hξ : ∀ q, q < bx'.length -> g'.R0.ξ (1000000 + (0 + q)) = zlk (bs (0 + q)) := fun q hq => by
  rw [(Prod.mk.inj h5).2, Nat.zero_add]
  show (if 1000000 <= 1000000 + q then zlk (bs (1000000 + q - 1000000)) else undef) = _
  rw [if_pos (by omega), show 1000000 + q - 1000000 = q by omega]
 have key : (∃ pl, PB0 P fn.results.toList res bx' pl σ') -> ∃ v, (results fn a'.tmps).run P w' = .ok v w' /\ ∃ us bvs' fp' tp', Ending.returned v = .returned (zbw us) /\ zlw w' bs 0 bvs' bx' /\ us.length = res.length ∧
   zap w' (fun k => (k < w'.heap.size /\ k ∉ fp' /\ ∀ j, j < bx.length -> k ≠ bs j) /\ (A k \/ w.heap.size <= k \/ k ∈ fp)) (res ++ bxA bx'.flatten) (us ++ bvs'.flatten) fp' tp' /\ fp'.Nodup /\ (∀ b ∈ fp', b ∈ fp \/ w.heap.size <= b) /\ Bk (fun k => k < w.heap.size /\ k ∉ fp /\ ∀ j, j < bx.length -> k ≠ bs j) w w' := by
  rintro ⟨pl, hk⟩
  obtain ⟨vs, hvs, hk⟩ := zai hk
  obtain ⟨us, r1, r2⟩ := zby h2 fn hvs
  obtain ⟨cs, bvs', k0, b1, b2, b3⟩ := zfi (bs := bs) h2 hN2 hξ hk
  obtain ⟨B, hB⟩ := h2.fam
  obtain ⟨s, k1, ⟨tp', k2⟩, k3, k4⟩ := zc5 h2 hB k0 (VRl.append r2 b2)
  rw [List.append_nil] at k4
  have hsp : s.Pairwise okP := (List.pairwise_reverse.1 (k4 List.Pairwise.nil)).imp fun h => h.symm
  have hin : ∀ b ∈ bks B s, ∃ e, σ'.On e /\ b ∈ g'.φ e := fun b hb => by
   obtain ⟨x, hx, hm⟩ := List.mem_flatMap.1 hb
   exact ⟨x.1, k3 x hx, hB.sub x.1 x.2 b (k3 x hx) hm⟩
  have hbβ : ∀ j, j < bx.length -> σ'.bx (1000000 + j) ≠ none /\ g'.β (1000000 + j) = bs j := fun j hj => by
   have := b3 j (by omega)
   rwa [Nat.zero_add] at this
  have hA : ∀ b, zb1 σ' g' w' b -> (b < w'.heap.size /\ b ∉ bks B s /\ ∀ j, j < bx.length -> b ≠ bs j) /\ (A b \/ w.heap.size <= b \/ b ∈ fp) := fun b hb => by
   have hnb : ∀ j, j < bx.length -> b ≠ bs j := fun j hj e => hb.1.1 _ (hbβ j hj).1 (by rw [(hbβ j hj).2, e])
   refine ⟨⟨hb.1.2.2.1, fun hm => ?_, hnb⟩, ?_⟩
   ·obtain ⟨e, ho, hm⟩ := hin b hm
    exact hb.2 e ho hm
   ·have h0 := hb.1.2.2.2
    rw [(Prod.mk.inj h5).1] at h0
    rcases h0 with h0 | h0 | h0 | ⟨j, hj, h0⟩
    ·exact Or.inl h0
    ·exact Or.inr (Or.inl h0)
    ·exact Or.inr (Or.inr h0)
    ·exact absurd h0 (hnb j hj)
  refine ⟨_, r1, us, bvs', bks B s, tp', rfl, b1, by rw [r2.len, <- hrl]; exact zdi hvs, zap.keepA hA k2, zcx h2 hB k3 hsp, fun b hb => ?_, h4⟩
  obtain ⟨e, ho, hm⟩ := hin b hb
  have h0 := (h2.ebase e ho b hm).2
  rw [(Prod.mk.inj h5).2] at h0
  rcases h0 with h0 | h0 | ⟨j, hj, h0⟩
  ·exact Or.inl h0
  ·exact Or.inr h0
  ·have := h2.ebx e _ ho (hbβ j hj).1
   rw [(hbβ j hj).2] at this
   exact absurd (h0 ▸ hm) this
 have key' : ∀ {Y : Prop}, (PB0 P fn.results.toList res bx' [] σ' \/ ∃ pl, PB0 P fn.results.toList res bx' pl σ') -> ((∃ pl, PB0 P fn.results.toList res bx' pl σ') -> Y) -> Y := fun h k => h.elim (fun h => k ⟨[], h⟩) k
 cases e with
 | normal => exact ⟨h2.defers, key' h1 key⟩
 | ret => exact ⟨h2.defers, key' h1 key⟩
 | exit _ => exact h1.elim
 | goto _ => exact h1.elim
 | panic _ => exact h1.elim
 | outgrown => exact h1.elim
end Go.Proofs.Yteeaofpphmhjdaa
namespace Go.Proofs.Yteeaofpphmhjdaa
set_option linter.unusedSimpArgs false
set_option linter.unusedVariables false
set_option linter.unusedSectionVars false
set_option maxRecDepth 4000
open Go.RowKit
theorem zgx (xs : List Int) (i : Nat) (v : Int) (hi : i < xs.length) : zcr (xs.map fun s => [T.int .i64 s]) i 0 [.int .i64 v] = (xs.set i v).map fun s => [T.int .i64 s] := by
 unfold zcr setR
 rw [List.getD_eq_getElem?_getD, List.getElem?_map, List.getElem?_eq_getElem hi]
 simp [List.map_set]
theorem zvInt : ∀ w, (zeroValue 3).run Try.prog w = .ok (.int .i64 0) w := Try.zeroValue3
theorem ziw (xs : List Int) (p : Int -> Bool) (g : FuncId) (caps : List T) (H : ∀ x ∈ xs, FC Try.prog g (iD x :: caps.map .one) [bD (p x)]) : FC Try.prog 117 [.one (zay xs), .one (.fn g caps)] [iD (zjy xs p)] := by
 refine zet (fun hw => ?_) Try.call117
 have hl : xs.length <= 9223372036854775807 := by simpa [zpq, wfT] using hw.1.1
 refine za3 Try.call117 Try.func117 rfl (by kernel_rfl) (zbq (by kernel_rfl)) ?_
 simp -implicitDefEqProofs only [go_sem, Try.results117]
 refine zan (fun k : Nat => hd [(0, vT (zay xs)), (1, vT (.fn g caps)), (7, vI xs.length), (8, vI k)] [] []) (fun k => k <= xs.length /\ ∀ x ∈ xs.take k, p x = false) (fun k => xs.length - k) 0 (zaf ?_) ?_ ?_
 ·simp -implicitDefEqProofs only [go_sem]
 ·simp
 ·intro k ⟨hk, hr⟩
  by_cases hlt : k < xs.length
  ·simp -implicitDefEqProofs only [go_sem, zaj, hlt, ne_eq]
   refine callF (H xs[k] (List.getElem_mem hlt)) (by simp -implicitDefEqProofs only [go_sem, ne_eq]) ?_
   simp -implicitDefEqProofs only [go_sem, ne_eq]
   refine ⟨fun h => ?_, fun h => ⟨k + 1, ⟨hlt, zbt hlt hr h⟩, by omega, zaf (by simp -implicitDefEqProofs only [go_sem]; rw [za2 (by omega)])⟩⟩
   rw [zb8 hlt hr h]
  ·simp -implicitDefEqProofs only [go_sem, hlt]
   rw [List.take_of_length_le (by omega)] at hr
   rw [zcz hr]
def kq (p : Int -> Bool) (x : Int) : Bool := !p x
def kpq (p : Int -> Bool) (xs : List Int) (j : Nat) : List Int := (xs.take j).filter (kq p)
theorem zk8 (p : Int -> Bool) (xs : List Int) {j : Nat} (h : j < xs.length) : kpq p xs (j + 1) = kpq p xs j ++ if kq p xs[j] = true then [xs[j]] else [] := by
 unfold kpq
 rw [List.take_succ_eq_append_getElem h, List.filter_append]
 congr 1
 rw [List.filter_cons]
 split <;> simp
abbrev bxA1 (a : List Int) : Bxs := [[(false, zay a)]]
set_option maxHeartbeats 2000000 in
theorem delF_c (xs : List Int) (a : List Int) (p : Int -> Bool) (g : FuncId) (hl : xs.length <= 1048577) (H : ∀ x ∈ xs, FC Try.prog g [iD x, .one (.ptr [zay a])] [bD (p x)]) : PC Try.prog 104 (bxA1 a) [.d true (.one (zay xs)), .fn g [0]] (bxA1 a) [(true, .one (zay (xs.filter (kq p))))] := by
 have HI := ziw xs p g [.ptr [zay a]] H
 refine ztn Try.call104 Try.func104 rfl (by simp only [List.length_cons, List.length_nil, Try.ntmps104]; omega) (by simp only [Try.ntmps104]; omega) rfl rfl (by simp [zax, T.isPin, AF.ds, bxA]) (by simp [gFS, T.fs, T.flat, AF.ds, bxA]) rfl ?_
 by_cases hany : (xs.any p) = true
 ·obtain ⟨c, hc, hid, hno, hye⟩ : ∃ c, ∃ hc : c < xs.length, zjy xs p = (c : Nat) /\ (∀ x ∈ xs.take c, p x = false) /\ p xs[c] = true := by
   have hlt : xs.findIdx p < xs.length := List.findIdx_lt_length.2 (List.any_eq_true.1 hany)
   refine ⟨_, hlt, ?_, fun x hx => ?_, List.findIdx_getElem (p := p) (w := hlt)⟩
   ·unfold zjy; rw [if_pos hany]
   ·obtain ⟨q, hq, rfl⟩ := List.getElem_of_mem hx
    rw [List.length_take] at hq
    rw [List.getElem_take]
    have := List.not_of_lt_findIdx (p := p) (xs := xs) (show q < xs.findIdx p by omega)
    simpa using this
  rw [hid] at HI
  have hn1 : ((c : Int) == -1) = false := by rw [beq_eq_false_iff_ne]; omega
  have hw1 : IntKind.i64.wrap ((c : Int) + 1) = ((c + 1 : Nat) : Int) := za2 (by omega)
  have hk0 : kpq p xs (c + 1) = xs.take c := by
   rw [zk8 p xs hc]
   unfold kpq
   rw [show kq p xs[c] = false by unfold kq; rw [hye]; rfl, if_neg (by simp), List.append_nil, List.filter_eq_self]
   intro x hx
   unfold kq
   rw [hno x hx]; rfl
  refine zb4.cut 3 rfl (by kernel_rfl) ?_
  simp -implicitDefEqProofs only [go_sem, Try.results104]
  refine callF (HI) (by simp -implicitDefEqProofs only [go_sem, hn1, hw1]) ?_
  simp -implicitDefEqProofs only [go_sem, hn1, hw1]
  refine zan (fun x : Nat × List Int => hd [(0, .one (.ow 0 0)), (1, .one (.fn g [1000000])), (5, vI (kpq p xs x.1).length), (6, vI x.1), (1000000, .one (.bx 1000000 0))] [(1000000, [.rn (zay a)])] [(0, ⟨true, 1, x.2.map fun s => [.int .i64 s], 0, true⟩)])
   (fun x => x.1 <= xs.length /\ x.2.length = xs.length /\ x.2.take (kpq p xs x.1).length = kpq p xs x.1 /\ x.2.drop x.1 = xs.drop x.1 /\ (kpq p xs x.1).length < x.1) (fun x => xs.length - x.1) (c + 1, xs) (zaf ?_) ?_ ?_
  ·simp -implicitDefEqProofs only [go_sem]
   rw [hk0, List.length_take, Nat.min_eq_left (by omega)]
  ·refine ⟨hc, rfl, ?_, rfl, ?_⟩
   ·rw [hk0, List.length_take, Nat.min_eq_left (by omega)]
   ·rw [hk0, List.length_take]; simp only; omega
  ·rintro ⟨j, R⟩ ⟨hj, hRl, hRt, hRd, hcj⟩
   simp only at hj hRl hRt hRd hcj
   by_cases hlt : j < xs.length
   ·have hjR : j < R.length := by omega
    have hRj : R[j] = xs[j] := by
     have := congrArg (fun l => l[0]?) hRd
     simp only [List.getElem?_drop, Nat.add_zero, List.getElem?_eq_getElem hjR, List.getElem?_eq_getElem hlt] at this
     exact Option.some.inj this
    have hks := zk8 p xs hlt
    have HC := H xs[j] (List.getElem_mem hlt)
    have hcR : (kpq p xs j).length < R.length := by omega
    have hlRi : ((j : Int) < (R.length : Int)) = True := by simp; omega
    have hRd2 : R.drop (j + 1) = xs.drop (j + 1) := by
     have := congrArg (List.drop 1) hRd
     simpa [List.drop_drop] using this
    cases hb : p xs[j]
    ·rw [hb] at HC
     rw [show kq p xs[j] = true by unfold kq; rw [hb]; rfl, if_pos rfl] at hks
     have hst := zgx R (kpq p xs j).length xs[j] hcR
     simp -implicitDefEqProofs only [go_sem, hlRi, hjR, zaj, hRj]
     refine callF (HC) (by simp -implicitDefEqProofs only [go_sem]) ?_
     simp -implicitDefEqProofs only [go_sem]
     refine ⟨hcR, ?_⟩
     refine zod (by simp -implicitDefEqProofs only [go_sem]; simp) ?_
     simp -implicitDefEqProofs only [go_sem, hst]
     refine ⟨(j + 1, R.set (kpq p xs j).length xs[j]), ⟨hlt, by rw [List.length_set]; exact hRl, ?_, ?_, ?_⟩, by simp only; omega, zaf ?_⟩
     ·simp only
      rw [hks, List.length_append, List.length_singleton, List.take_succ_eq_append_getElem (by rw [List.length_set]; exact hcR), List.getElem_set_self, List.take_set_of_le (Nat.le_refl _), hRt]
     ·simp only
      rw [List.drop_set_of_lt (by omega)]
      exact hRd2
     ·simp only
      rw [hks, List.length_append, List.length_singleton]; omega
     ·simp -implicitDefEqProofs only [go_sem]
      rw [za2 (by omega), za2 (by omega), hks, List.length_append, List.length_singleton]
      exact ⟨rfl, rfl⟩
    ·rw [hb] at HC
     rw [show kq p xs[j] = false by unfold kq; rw [hb]; rfl, if_neg (by simp), List.append_nil] at hks
     simp -implicitDefEqProofs only [go_sem, hlRi, hjR, zaj, hRj]
     refine callF (HC) (by simp -implicitDefEqProofs only [go_sem]) ?_
     simp -implicitDefEqProofs only [go_sem]
     refine ⟨(j + 1, R), ⟨hlt, hRl, by rw [hks]; exact hRt, hRd2, by rw [hks]; simp only; omega⟩, by simp only; omega, zaf ?_⟩
     simp -implicitDefEqProofs only [go_sem]
     rw [za2 (by omega), hks]
     exact ⟨rfl, rfl⟩
   ·have hlRi : ((j : Int) < (R.length : Int)) = False := by simp; omega
    have hjn : j = xs.length := by omega
    subst hjn
    have hkf : kpq p xs xs.length = xs.filter (kq p) := by unfold kpq; rw [List.take_length]
    rw [hkf] at hRt hcj ⊢
    generalize xs.filter (kq p) = F at hRt hcj ⊢
    have hFR : F.length < R.length := by omega
    have hflR : ∀ l : List Int, flR (l.map fun s => [T.int .i64 s]) = true := fun l => by
     induction l with
     | nil => rfl
     | cons a l ih => rw [List.map_cons]; unfold flR; rw [ih]; rfl
    simp -implicitDefEqProofs only [go_sem, hlRi]
    refine zb4.seq ?_
    refine zb4.clr 2 (.int .i64 0) rfl rfl rfl rfl (by kernel_rfl) (by simp only [Try.ntmps104]; omega) (el := 3) (by kernel_rfl) (by kernel_rfl) zvInt rfl rfl (fun w => by unfold zaq; exact ⟨rfl, by decide, by decide, rfl⟩) rfl ?_
    simp -implicitDefEqProofs only [go_sem, List.take_succ_cons, List.take_zero, hflR]
    refine ⟨hFR, ?_⟩
    obtain ⟨Z, hZ⟩ : ∃ Z, List.take F.length (R.map fun s => [T.int .i64 s]) ++ List.replicate (R.length - F.length) [T.int .i64 0] = Z := ⟨_, rfl⟩
    have hZl : Z.length = R.length := by rw [<- hZ]; simp; omega
    have hZf : flR Z = true := by
     rw [<- hZ]
     have : ∀ a b : List (List T), flR a = true -> flR b = true -> flR (a ++ b) = true := fun a b ha hb => by
      induction a with
      | nil => exact hb
      | cons r rs ih =>
       unfold flR at ha
       rw [Bool.and_eq_true] at ha
       show flR (r :: (rs ++ b)) = true
       unfold flR
       rw [ha.1, ih ha.2]; rfl
     refine this _ _ (ziz _ (hflR R)) ?_
     have : ∀ n, flR (List.replicate n [T.int .i64 0]) = true := fun n => by
      induction n with
      | zero => rfl
      | succ n ih => rw [List.replicate_succ]; unfold flR; rw [ih]; rfl
     exact this _
    have hZt : Z.take F.length = F.map fun s => [T.int .i64 s] := by
     rw [<- hZ, List.take_append_of_le_length (by simp; omega), List.take_take, Nat.min_self, <- List.map_take, hRt]
    rw [hZ]
    have hZF : F.length < Z.length := by omega
    refine zb4.seq ?_
    refine zb4.cutO 2 rfl rfl rfl rfl (by kernel_rfl) (by simp only [Try.ntmps104]; omega) (el := 3) (by kernel_rfl) (by kernel_rfl) ?_
    simp -implicitDefEqProofs only [go_sem, List.take_succ_cons, List.take_zero, hZf, hZF, hZt]
    refine zb4.ofEx (by kernel_rfl) ?_
    simp -implicitDefEqProofs only [go_sem]
 ·have hany : (xs.any p) = false := by rw [<- Bool.not_eq_true]; exact hany
  have hid : zjy xs p = -1 := by unfold zjy; rw [hany]; rfl
  rw [hid] at HI
  have hall := List.any_eq_false.1 hany
  have hf : xs.filter (kq p) = xs := by
   rw [List.filter_eq_self]
   intro x hx
   unfold kq
   rw [Bool.not_eq_true', <- Bool.not_eq_true]
   exact hall x hx
  rw [hf]
  refine zb4.cut 3 rfl (by kernel_rfl) ?_
  simp -implicitDefEqProofs only [go_sem, Try.results104]
  refine callF (HI) (by simp -implicitDefEqProofs only [go_sem]) ?_
  simp -implicitDefEqProofs only [go_sem]
end Go.Proofs.Yteeaofpphmhjdaa
namespace Go.Proofs.Yteeaofpphmhjdaa
set_option linter.unusedSimpArgs false
set_option linter.unusedVariables false
set_option linter.unusedSectionVars false
set_option maxRecDepth 4000
open Go.RowKit
theorem zpm : ∀ {c : List Int}, zbr (c.map fun s => [T.int .i64 s]) -> ∀ l ∈ c, -9223372036854775808 <= l /\ l <= 9223372036854775807
 | [], _, l, hl => by simp at hl
 | x :: c, h, l, hl => by
  have h' : zlo [T.int .i64 x] /\ zbr (c.map fun s => [T.int .i64 s]) := h
  have m1 : IntKind.min .i64 = -9223372036854775808 := by decide
  have m2 : IntKind.max .i64 = 9223372036854775807 := by decide
  rcases List.mem_cons.1 hl with rfl | hl
  ·have h2 : wfT (T.int .i64 l) := h'.1.1
   unfold wfT at h2
   rw [m1, m2] at h2
   exact h2
  ·exact zpm h'.2 l hl
def abW (n : Int) : Int := if n < 0 then IntKind.i64.wrap (0 - n) else n
theorem ztp {n : Int} (h : -9223372036854775808 < n) (h2 : n <= 9223372036854775807) : abW n = ab n := by
 unfold abW
 split
 ·rw [zat (by omega) (by omega)]; unfold ab; omega
 ·unfold ab; omega
theorem abW_in {n : Int} (h : -9223372036854775808 <= n) (h2 : n <= 9223372036854775807) : inB (abW n) 1 12 = (decide (0 < ab n) && decide (ab n <= 12)) := by
 by_cases e : n = -9223372036854775808
 ·subst e; decide
 ·rw [ztp (by omega) h2]
  unfold inB
  congr 1
theorem zg5 (n : Int) : FC Try.prog 98 [iD n] [iD (abW n)] := by
 refine za3 Try.call98 Try.func98 rfl (by kernel_rfl) (zbq (by kernel_rfl)) ?_
 simp -implicitDefEqProofs only [go_sem, Try.results98]
 refine ⟨fun h => ?_, fun h => ?_⟩
 ·have : n < 0 := by simpa using h
  unfold abW; rw [if_pos this]
 ·have : ¬ n < 0 := by simpa using h
  unfold abW; rw [if_neg this]
theorem zfc (c : List Int) : FC Try.prog 63 [.one (zay c)] [bD (pcl c)] := by
 refine zet (fun hw => ?_) Try.call63
 have hl : c.length <= 9223372036854775807 := by have := hw.1.1; simpa using this
 have hwf := zpm hw.1.2
 refine za3 Try.call63 Try.func63 rfl (by kernel_rfl) (zbq (by kernel_rfl)) ?_
 simp -implicitDefEqProofs only [go_sem, Try.results63]
 refine zan (fun k : Nat => hd [(0, vT (zay c)), (3, vI k)] [] []) (fun k => k <= c.length /\ pcl c = zpe (pv c k) (c.drop k) /\ (0 < k -> -12 <= c.getD (k - 1) 0 /\ c.getD (k - 1) 0 <= 12)) (fun k => c.length - k) 0 (zaf ?_) ?_ ?_
 ·simp -implicitDefEqProofs only [go_sem]
 ·exact ⟨Nat.zero_le _, rfl, fun h => absurd h (by omega)⟩
 ·intro k ⟨hk, hr, hpr⟩
  by_cases hlt : k < c.length
  ·have hsu := znz c hlt
   have hgd : c.getD k 0 = c[k] := by rw [List.getD_eq_getElem?_getD, List.getElem?_eq_getElem hlt]; rfl
   rw [List.drop_eq_getElem_cons hlt] at hr
   unfold zpe at hr
   have hb := hwf c[k] (List.getElem_mem hlt)
   have HA := zg5 c[k]
   have HI := l1In_c (abW c[k]) 1 12
   rw [abW_in hb.1 hb.2] at HI
   cases h1 : (decide (0 < ab c[k]) && decide (ab c[k] <= 12))
   ·rw [h1] at HI
    have hno : pcl c = false := by
     rw [hr]
     have hpv : 0 <= pv c k := by unfold pv ab; split <;> omega
     rw [Bool.and_eq_false_iff, decide_eq_false_iff_not, decide_eq_false_iff_not] at h1
     rcases h1 with h1 | h1
     ·rw [show decide (pv c k < ab c[k]) = false by simp; omega]; rfl
     ·rw [show decide (ab c[k] <= 12) = false by simpa using h1]; simp
    simp -implicitDefEqProofs only [go_sem, hlt]
    refine drawn (by kernel_rfl) ?_
    simp -implicitDefEqProofs only [go_sem, zaj, hlt]
    refine zeg (HA) (by simp -implicitDefEqProofs only [go_sem]) ?_
    simp -implicitDefEqProofs only [go_sem]
    refine zeg (HI) (by simp -implicitDefEqProofs only [go_sem]) ?_
    simp -implicitDefEqProofs only [go_sem]
    refine ⟨by kernel_rfl, ?_⟩
    rw [hno]
   ·rw [h1] at HI
    have hab : 0 < ab c[k] /\ ab c[k] <= 12 := by simpa using h1
    have hin : -12 <= c[k] /\ c[k] <= 12 := (zm3 hab).2
    by_cases hk0 : k = 0
    ·have hkf : ((0 : Int) < (k : Int)) = False := by simp; omega
     simp -implicitDefEqProofs only [go_sem, hlt]
     refine drawn (by kernel_rfl) ?_
     simp -implicitDefEqProofs only [go_sem, zaj, hlt, hkf]
     refine zeg (HA) (by simp -implicitDefEqProofs only [go_sem]) ?_
     simp -implicitDefEqProofs only [go_sem]
     refine zeg (HI) (by simp -implicitDefEqProofs only [go_sem, hkf]) ?_
     simp -implicitDefEqProofs only [go_sem, hkf]
     refine ⟨by kernel_rfl, ?_⟩
     rw [za2 (by omega)]
     refine ⟨k + 1, ⟨hlt, ?_, fun _ => ?_⟩, by omega, zaf (by simp -implicitDefEqProofs only [go_sem])⟩
     ·have hpv : pv c k = 0 := by unfold pv; rw [if_pos hk0]
      rw [hr, hsu, hpv, show decide (0 < ab c[k]) = true by simpa using hab.1, show decide (ab c[k] <= 12) = true by simpa using hab.2]; rfl
     ·rw [Nat.add_sub_cancel, hgd]; exact hin
    ·have hkp : (0 : Int) < k := by omega
     have hk1 : k - 1 < c.length := by omega
     have hw1 : IntKind.i64.wrap ((k : Int) - 1) = ((k - 1 : Nat) : Int) := by rw [zat (by omega) (by omega)]; omega
     have hg1 : c.getD (k - 1) 0 = c[k - 1] := by rw [List.getD_eq_getElem?_getD, List.getElem?_eq_getElem hk1]; rfl
     have hp1 := hpr (by omega)
     rw [hg1] at hp1
     have HB := zg5 c[k - 1]
     rw [ztp (by omega) (by omega)] at HB HA
     have hpv : pv c k = ab c[k - 1] := by unfold pv; rw [if_neg hk0, hg1]
     rw [hpv] at hr
     simp -implicitDefEqProofs only [go_sem, hlt]
     refine drawn (by kernel_rfl) ?_
     simp -implicitDefEqProofs only [go_sem, zaj, hlt]
     refine zeg (zg5 c[k]) (by simp -implicitDefEqProofs only [go_sem]) ?_
     simp -implicitDefEqProofs only [go_sem]
     refine zeg (HI) (by simp -implicitDefEqProofs only [go_sem, hkp, hw1, hk1, hlt, zaj]) ?_
     simp -implicitDefEqProofs only [go_sem, hkp, hw1, hk1, hlt, zaj]
     refine zty (HB) (by simp -implicitDefEqProofs only [go_sem, hlt, zaj]) ?_
     simp -implicitDefEqProofs only [go_sem, hlt, zaj]
     refine zty (HA) (by simp -implicitDefEqProofs only [go_sem]) ?_
     simp -implicitDefEqProofs only [go_sem]
     refine ⟨by kernel_rfl, ?_⟩
     rw [za2 (by omega)]
     refine ⟨fun h => ?_, fun h => ⟨k + 1, ⟨hlt, ?_, fun _ => ?_⟩, by omega, zaf (by simp -implicitDefEqProofs only [go_sem])⟩⟩
     ·have : ¬ ab c[k - 1] < ab c[k] := by simp at h; omega
      rw [hr, show decide (ab c[k - 1] < ab c[k]) = false by simpa using this]; simp
     ·have : ab c[k - 1] < ab c[k] := by simp at h; omega
      rw [hr, hsu, show decide (ab c[k - 1] < ab c[k]) = true by simpa using this, show decide (ab c[k] <= 12) = true by simpa using hab.2]; rfl
     ·rw [Nat.add_sub_cancel, hgd]; exact hin
  ·simp -implicitDefEqProofs only [go_sem, hlt]
   rw [hr, List.drop_of_length_le (by omega)]; rfl
end Go.Proofs.Yteeaofpphmhjdaa
namespace Go.Proofs.Yteeaofpphmhjdaa
set_option linter.unusedSimpArgs false
set_option linter.unusedVariables false
set_option linter.unusedSectionVars false
set_option maxRecDepth 4000
open Go.RowKit
theorem zhi (xs : List (List Int)) (p : List Int -> Bool) (g : FuncId) (caps : List T) (H : ∀ x ∈ xs, FC Try.prog g (.one (zay x) :: caps.map .one) [bD (p x)]) : FC Try.prog 57 [.one (zbi xs), .one (.fn g caps)] [iD (zjy xs p)] := by
 refine zet (fun hw => ?_) Try.call57
 have hl : xs.length <= 9223372036854775807 := by simpa [zpq, wfT] using hw.1.1
 refine za3 Try.call57 Try.func57 rfl (by kernel_rfl) (zbq (by kernel_rfl)) ?_
 simp -implicitDefEqProofs only [go_sem, Try.results57]
 refine zan (fun k : Nat => hd [(0, vT (zbi xs)), (1, vT (.fn g caps)), (7, vI xs.length), (8, vI k)] [] []) (fun k => k <= xs.length /\ ∀ x ∈ xs.take k, p x = false) (fun k => xs.length - k) 0 (zaf ?_) ?_ ?_
 ·simp -implicitDefEqProofs only [go_sem]
 ·simp
 ·intro k ⟨hk, hr⟩
  by_cases hlt : k < xs.length
  ·simp -implicitDefEqProofs only [go_sem, zaj, hlt, ne_eq]
   refine callF (H xs[k] (List.getElem_mem hlt)) (by simp -implicitDefEqProofs only [go_sem, ne_eq]) ?_
   simp -implicitDefEqProofs only [go_sem, ne_eq]
   refine ⟨fun h => ?_, fun h => ⟨k + 1, ⟨hlt, zbt hlt hr h⟩, by omega, zaf (by simp -implicitDefEqProofs only [go_sem]; rw [za2 (by omega)])⟩⟩
   rw [zb8 hlt hr h]
  ·simp -implicitDefEqProofs only [go_sem, hlt]
   rw [List.take_of_length_le (by omega)] at hr
   rw [zcz hr]
theorem zcn (xs : List (List Int)) (p : List Int -> Bool) (g : FuncId) (caps : List T) (H : ∀ x ∈ xs, FC Try.prog g (.one (zay x) :: caps.map .one) [bD (p x)]) : FC Try.prog 76 [.one (zbi xs), .one (.fn g caps)] [bD (xs.any p)] := by
 refine za3 Try.call76 Try.func76 rfl (by kernel_rfl) (zbq (by kernel_rfl)) ?_
 simp -implicitDefEqProofs only [go_sem, Try.results76]
 refine callF (zhi xs p g caps H) (by simp -implicitDefEqProofs only [go_sem]) ?_
 simp -implicitDefEqProofs only [go_sem]
 rw [zkt]
theorem zls (xs : List Int) (p : Int -> Bool) (g : FuncId) (caps : List T) (H : ∀ x ∈ xs, FC Try.prog g (iD x :: caps.map .one) [bD (p x)]) : FC Try.prog 101 [.one (zay xs), .one (.fn g caps)] [bD (xs.any p)] := by
 refine za3 Try.call101 Try.func101 rfl (by kernel_rfl) (zbq (by kernel_rfl)) ?_
 simp -implicitDefEqProofs only [go_sem, Try.results101]
 refine callF (ziw xs p g caps H) (by simp -implicitDefEqProofs only [go_sem]) ?_
 simp -implicitDefEqProofs only [go_sem]
 rw [zkt]
theorem zjl (c : List Int) : FC Try.prog 100 [.one (zay c)] [bD (!pcl c)] := by
 refine za3 Try.call100 Try.func100 rfl (by kernel_rfl) (zbq (by kernel_rfl)) ?_
 simp -implicitDefEqProofs only [go_sem, Try.results100]
 refine callF (zc8 c) (by simp -implicitDefEqProofs only [go_sem]) ?_
 simp -implicitDefEqProofs only [go_sem]
theorem zv3 (S : List (List Int)) : zg7 S = (decide ((S.length : Int) <= 40) && !(S.any fun c => !pcl c)) := by
 unfold zg7
 congr 1
 ·rw [decide_eq_decide]; omega
 ·rw [List.not_any_eq_all_not]; simp
theorem zcq (S : List (List Int)) : FC Try.prog 54 [.one (zbi S)] [bD (zg7 S)] := by
 have H := zcn S (fun c => !pcl c) 100 [] fun x _ => zjl x
 rw [zv3]
 refine za3 Try.call54 Try.func54 rfl (by kernel_rfl) (zbq (by kernel_rfl)) ?_
 simp -implicitDefEqProofs only [go_sem, Try.results54]
 cases h : decide ((S.length : Int) <= 40)
 ·simp -implicitDefEqProofs only [go_sem, h]
 ·simp -implicitDefEqProofs only [go_sem, h]
  refine callF (H) (by simp -implicitDefEqProofs only [go_sem]) ?_
  simp -implicitDefEqProofs only [go_sem]
theorem zs2 (S : List (List Int)) : FC Try.prog 48 [.one (zbi S)] [bD (zg7 S)] := by
 refine zet (fun hw => ?_) Try.call48
 have hl : S.length <= 9223372036854775807 := by simpa [zpq, wfT] using hw.1.1
 have hle : ((S.length : Int) <= 40) = (S.length <= 40) := by simp; omega
 refine za3 Try.call48 Try.func48 rfl (by kernel_rfl) (zbq (by kernel_rfl)) ?_
 simp -implicitDefEqProofs only [go_sem, Try.results48]
 refine zan (fun k : Nat => hd [(0, vT (zbi S)), (3, vI k)] [] []) (fun k => k <= S.length /\ k <= 41 /\ ∀ x ∈ S.take k, pcl x = true) (fun k => S.length - k) 0 (zaf ?_) ?_ ?_
 ·simp -implicitDefEqProofs only [go_sem]
 ·simp
 ·intro k ⟨hk, hk2, hr⟩
  by_cases hlt : k < S.length
  ·by_cases h40 : (k : Int) <= 40
   ·have HC := zfc S[k]
    simp -implicitDefEqProofs only [go_sem, hlt, h40, zaj]
    refine callF (HC) (by simp -implicitDefEqProofs only [go_sem]) ?_
    simp -implicitDefEqProofs only [go_sem]
    rw [za2 (by omega)]
    refine ⟨fun h => ?_, fun h => ⟨k + 1, ⟨hlt, by omega, fun x hx => ?_⟩, by omega, zaf (by simp -implicitDefEqProofs only [go_sem])⟩⟩
    ·have hf : pcl S[k] = false := by simpa using h
     have : zg7 S = false := by
      rw [<- Bool.not_eq_true]
      intro hp
      rw [zb3 hp (List.getElem_mem hlt)] at hf; cases hf
     rw [this]
    ·rw [List.take_succ_eq_append_getElem hlt] at hx
     rcases List.mem_append.1 hx with hx | hx
     ·exact hr x hx
     ·rw [List.mem_singleton.1 hx]; simpa using h
   ·have : zg7 S = false := by
     unfold zg7
     rw [show decide (S.length <= 40) = false by simp; omega]; rfl
    have h40' : ((S.length : Int) <= 40) = False := by simp; omega
    have h40k : ((k : Int) <= 40) = False := by simp; omega
    simp -implicitDefEqProofs only [go_sem, hlt, h40k, h40']
    rw [this]
  ·rw [List.take_of_length_le (by omega)] at hr
   have hall : S.all pcl = true := List.all_eq_true.2 hr
   simp -implicitDefEqProofs only [go_sem, hlt]
   unfold zg7
   rw [hall, Bool.and_true]
   have : decide ((S.length : Int) <= 40) = decide (S.length <= 40) := by rw [decide_eq_decide]; omega
   rw [this]
theorem zp9 (xs : List Int) (s : Int) : FC Try.prog 99 [.one (zay xs), iD s] [bD (xs.contains s)] := by
 refine zet (fun hw => ?_) Try.call99
 have hl : xs.length <= 9223372036854775807 := by simpa [zpq, wfT] using hw.1.1
 refine za3 Try.call99 Try.func99 rfl (by kernel_rfl) (zbq (by kernel_rfl)) ?_
 simp -implicitDefEqProofs only [go_sem, Try.results99]
 refine zan (fun k : Nat => hd [(0, vT (zay xs)), (1, vT (.int .i64 s)), (5, vI k)] [] []) (fun k => k <= xs.length /\ s ∉ xs.take k) (fun k => xs.length - k) 0 (zaf ?_) ?_ ?_
 ·simp -implicitDefEqProofs only [go_sem]
 ·simp
 ·intro k ⟨hk, hr⟩
  by_cases hlt : k < xs.length
  ·simp -implicitDefEqProofs only [go_sem, zaj, hlt]
   refine ⟨fun h => ?_, fun h => ?_⟩
   ·have e : xs[k] = s := beq_iff_eq.1 h
    have hm : s ∈ xs := e ▸ List.getElem_mem hlt
    rw [show xs.contains s = true by simpa using hm]
   ·have e : xs[k] ≠ s := fun e => by simp [e] at h
    rw [za2 (by omega)]
    exact ⟨k + 1, ⟨hlt, zcl hlt hr e⟩, by omega, zaf (by simp -implicitDefEqProofs only [go_sem])⟩
  ·simp -implicitDefEqProofs only [go_sem, hlt]
   rw [List.take_of_length_le (by omega)] at hr
   rw [show xs.contains s = false by simpa using hr]
theorem zi1 : ∀ xs : List Int, flR (xs.map fun s => [T.int .i64 s]) = true
 | [] => rfl
 | a :: xs => by rw [List.map_cons]; unfold flR; rw [zi1 xs]; rfl
attribute [go_sem] zi1
theorem zuq (xs : List Int) (hl : xs.length <= 4294967296) : FC Try.prog 64 [.one (zay xs)] [.one (zay xs)] := by
 refine za3 Try.call64 Try.func64 rfl (by kernel_rfl) (zbq (by kernel_rfl)) ?_
 simp -implicitDefEqProofs only [go_sem, Try.results64]
 refine zas (by simp -implicitDefEqProofs only [go_sem]) ?_
 simp -implicitDefEqProofs only [go_sem]
 refine apD true (by simp -implicitDefEqProofs only [go_sem, ne_eq, List.length_map, Nat.zero_add, hl]) ?_
 simp -implicitDefEqProofs only [go_sem, ne_eq, List.length_map, Nat.zero_add, hl]
theorem zl9 (xs : List Int) : ∀ c ∈ (xs.map fun s => [T.int .i64 s]).flatten, c.flat = true := fun c hc => by
 obtain ⟨r, hr, hc⟩ := List.mem_flatten.1 hc
 obtain ⟨s, _, rfl⟩ := List.mem_map.1 hr
 rw [List.mem_singleton.1 hc]; rfl
set_option maxHeartbeats 1000000 in
theorem ztf : CloneOf Try.prog 56 1 8 := by
 have t22 := Try.underlying27
 have q22 : ∀ (w : World) (a : Option Addr) (n c n' c' : Nat), (binOp .eql 27 (.slice a n c) (.slice none n' c')).run Try.prog w = .ok (.bool a.isNone) w := fun w a n c n' c' => Lib.run_eql_slice_nil w _ _ a n c n' c' t22
 have u22 : ∀ w, Sem.run Try.prog (underlying 27) w = .ok (TypeDesc.slice 3) w := run_underlying t22
 refine ⟨Try.call56, fun ad n c news w hl hn hbig hc h1 => ?_, fun n c w => ?_⟩
 ·have A : Aside (∀ j u, news[j]? = some u -> w.cell? (ad.add j) = some u) := hc
  clear hc
  obtain ⟨i0, z, hi, hz0, hzs, hz1, hz2⟩ := zv2 (P := Try.prog) (t := 3) (n := 1) (b := 8) (z := [.t (.int .i64 0)]) (by kernel_rfl) (by kernel_rfl) (by kernel_rfl) rfl
  go_enter Try.func56, Try.ntmps56
  go_wp2_with (at_builtin; refine wpList_append_own _ rfl _ _ 27 rfl w.heap.size 3 i0 z 1 8 t22 hi hz0 hz1 hz2 hzs (by decide) _ _ _ rfl (World.ownsRow_made w #[] 0 (Nat.le_refl _) (Nat.zero_le _) (by simp)) ad n c news rfl ?qc1 ?qc2 ?qc3 ?qc4 ?qc5 ?qc6 ?_)
  case qc1 => exact hl
  case qc2 =>
   intro j u hj
   exact Lib.cell?_alloc_some _ (A.out j u hj)
  case qc3 => exact h1
  case qc4 => rw [Nat.zero_add]; exact hn
  case qc5 => rw [Nat.zero_add]; exact hbig
  case qc6 => simp
  intro v' w1 hown hgrow hnil
  go_wp2
  go_ret
  refine ⟨_, v', rfl, by simpa using hown, hnil, ?_⟩
  exact ((Below.refl _ w).alloc (Nat.le_refl _) _).grown hgrow (by simp) (by intro k hk; simp [Value.ownBlock] at hk; omega)
 ·go_enter Try.func56, Try.ntmps56
  go_wp2
  go_ret
  exact ⟨rfl, rfl⟩
theorem zj6 (xs : List Int) (hs : xs.length <= 1099511627776) : FC Try.prog 56 [.one (zay xs)] [.one (zay xs)] :=
 zq3 ztf _ (by simp; omega) (zl9 xs)
end Go.Proofs.Yteeaofpphmhjdaa
namespace Go.Proofs.Yteeaofpphmhjdaa
set_option linter.unusedSimpArgs false
set_option linter.unusedVariables false
set_option linter.unusedSectionVars false
set_option maxRecDepth 4000
open Go.RowKit
variable {P : Program}
def C.fb (j : Nat) (ts : List T) : C -> C
 | .bx b o => if b = j then .el ts o else .bx b o
 | .fn f [k] => if k = j then .t (.fn f [.ptr ts]) else .fn f [k]
 | .fn _ _ => .any
 | c => c
def ztd : List C -> Option (List T)
 | [] => some []
 | .t x :: cs => (ztd cs).map (x :: ·)
 | .rn x :: cs => (ztd cs).map (x :: ·)
 | _ :: _ => none
def fbS (f : Nat -> V) (j : Nat) (ts : List T) : Nat -> V := fun i => (f i).map (C.fb j ts)
def fbB (f : Nat -> Option (List C)) (j : Nat) (ts : List T) : Nat -> Option (List C) := fun b => if b = j then none else (f b).map fun cs => cs.map (C.fb j ts)
theorem fbS_at (f : Nat -> V) (j : Nat) (ts : List T) (i : Nat) : fbS f j ts i = (f i).map (C.fb j ts) := rfl
def St.fb (σ : St) (j : Nat) (ts : List T) : St := ⟨fbS σ.sl j ts, fbB σ.bx j ts, σ.ev⟩
theorem zmp {σ : St} {g : Gh} {w : World} : ∀ {cs : List C} {ts : List T} {vs : List Value}, ztd cs = some ts -> CRs σ g w cs vs -> ∀ (i : Nat) (t : T), ts[i]? = some t -> ∃ v, vs[i]? = some v /\ zah w (Fix σ g w) t v
 | [], ts, vs, h, _, i, t, ht => by
  unfold ztd at h
  cases h
  simp at ht
 | c :: cs, ts, vs, h, hv, i, t, ht => by
  obtain ⟨v, vs', rfl, h1, h2⟩ := hv
  have key : ∀ x, (ztd cs).map (x :: ·) = some ts -> zah w (Fix σ g w) x v -> ∃ v', (v :: vs')[i]? = some v' /\ zah w (Fix σ g w) t v' := fun x hx hr => by
   cases hc : ztd cs with
   | none => rw [hc] at hx; cases hx
   | some ts' =>
    rw [hc] at hx
    simp only [Option.map_some, Option.some.injEq] at hx
    subst hx
    cases i with
    | zero =>
     simp only [List.getElem?_cons_zero, Option.some.injEq] at ht
     subst ht
     exact ⟨v, rfl, hr⟩
    | succ i =>
     simp only [List.getElem?_cons_succ] at ht ⊢
     exact zmp hc h2 i t ht
  cases c with
  | t x => exact key x h h1
  | rn x => exact key x h (zah.keep (fun _ _ => rfl) (fun b hb => hb.1) x v h1)
  | _ => cases h
theorem fb_wk {σ : St} {j : Nat} {cs : List C} {ts : List T} (hb : σ.bx j = some cs) (ht : ztd cs = some ts) : Wk σ (σ.fb j ts) := by
 intro n0 N g a w h
 have hj : σ.bx j ≠ none := by rw [hb]; simp
 have hbx : ∀ b, (σ.fb j ts).bx b ≠ none ↔ b ≠ j /\ σ.bx b ≠ none := fun b => by
  show (if b = j then none else (σ.bx b).map fun cs => cs.map (C.fb j ts)) ≠ none ↔ _
  by_cases hbj : b = j
  ·rw [if_pos hbj]; simp [hbj]
  ·rw [if_neg hbj]; simp [hbj]
 have hf : ∀ b, Fix σ g w b -> Fix (σ.fb j ts) g w b := fun b hf => ⟨fun k hk => hf.1 k ((hbx k).1 hk).2, hf.2.1, hf.2.2⟩
 have hfr : ∀ b, zb1 σ g w b -> zb1 (σ.fb j ts) g w b := fun b hb => ⟨hf b hb.1, hb.2⟩
 obtain ⟨vs, ty, e1, e2⟩ := h.boxes j cs hb
 have hfix : Fix (σ.fb j ts) g w (g.β j) := by
  refine ⟨fun k hk e => ((hbx k).1 hk).1 (h.inj k j ((hbx k).1 hk).2 hj e), fun e x hx ho hh => ?_, ?_, (h.anew _ (h.base j hj)).1⟩
  ·exact h.ebx e j ⟨x, hx, ho⟩ hj (List.mem_of_mem_head? hh)
  ·exact (Array.getElem?_eq_some_iff.1 e1).1
 have hat : zav w (Fix (σ.fb j ts) g w) (g.β j) 0 ts := zav.mk fun i t hi => by
  obtain ⟨v, k1, k2⟩ := zmp ht e2 i t hi
  refine ⟨v, ?_, zah.keep (fun _ _ => rfl) hf t v k2⟩
  have : vs[i]? = some v := by rw [<- Array.getElem?_toList]; exact k1
  rw [Nat.zero_add]
  simp [World.cell?, e1, this]
 have cr : ∀ c v, CR σ g w c v -> CR (σ.fb j ts) g w (c.fb j ts) v := fun c v hc => by
  cases c with
  | t y => exact zah.keep (fun _ _ => rfl) hf y v hc
  | nl s => exact hc
  | ow e' n => exact hc
  | bx b o =>
   show CR _ _ _ (if b = j then .el ts o else .bx b o) v
   by_cases he : b = j
   ·subst he
    rw [if_pos rfl]
    exact ⟨g.β b, 0, by rw [Nat.zero_add]; exact hc.1, hfix, hat⟩
   ·rw [if_neg he]; exact ⟨hc.1, (hbx b).2 ⟨he, hc.2⟩⟩
  | el cs o => obtain ⟨b, q, h1, h2, h3⟩ := hc; exact ⟨b, q, h1, hf b h2, zav.keep (fun _ _ => rfl) hf b rfl q cs h3⟩
  | eo e' s sz i o => exact hc
  | fn f caps =>
   match caps, hc with
   | [], _ => trivial
   | [k], hc =>
    show CR _ _ _ (if k = j then .t (.fn f [.ptr ts]) else .fn f [k]) v
    by_cases he : k = j
    ·subst he
     rw [if_pos rfl]
     show zah _ _ _ _
     unfold zah
     refine ⟨_, hc.1, ?_⟩
     unfold zaa
     refine ⟨_, [], rfl, ?_, by unfold zaa; rfl⟩
     unfold zah
     exact ⟨g.β k, 0, rfl, hfix, hat⟩
    ·rw [if_neg he]
     exact ⟨hc.1, fun b hb => (hbx b).2 ⟨by rw [List.mem_singleton.1 hb]; exact he, hc.2 b hb⟩⟩
   | _ :: _ :: _, _ => trivial
  | cv u => exact hc
  | any => trivial
  | rn y => exact zah.keep (fun _ _ => rfl) hfr y v hc
  | er cs o => obtain ⟨b, q, h1, h2, h3⟩ := hc; exact ⟨b, q, h1, hfr b h2, zav.keep (fun _ _ => rfl) hfr b rfl q cs h3⟩
 refine ⟨g, ⟨h.defers, h.size, h.anew, fun i => VR.map cr (h.slots i), fun b cs' hb' => ?_, fun b hb => h.base b ((hbx b).1 hb).2, fun b b' h1 h2 => h.inj b b' ((hbx b).1 h1).2 ((hbx b').1 h2).2, fun e' z hz h1 => ?_, fun e' z hz h1 => ?_, h.slc, h.ebase, h.etop, h.nodup, h.apart, fun e' k he hk => h.ebx e' k he ((hbx k).1 hk).2⟩, rfl, rfl⟩
 ·have hne := (hbx b).1 (by rw [hb']; simp)
  cases hc : σ.bx b with
  | none => exact absurd hc hne.2
  | some cs0 =>
   have hb' : (if b = j then none else (σ.bx b).map fun cs => cs.map (C.fb j ts)) = some cs' := hb'
   rw [if_neg hne.1, hc] at hb'
   simp only [Option.map_some, Option.some.injEq] at hb'
   subst hb'
   obtain ⟨vs, ty, k1, k2⟩ := h.boxes b cs0 hc
   exact ⟨vs, ty, k1, CRs.map cr k2⟩
 ·obtain ⟨ao, cap, e1, e2, e3, e4⟩ := h.evs e' z hz h1
  refine ⟨ao, cap, e1, e2, e3, ?_⟩
  rcases e4 with e4 | ⟨b, cells, ty, fps, k1, k2, k3, k4, k5⟩
  ·exact Or.inl e4
  ·refine Or.inr ⟨b, cells, ty, fps, k1, k2, k3, k4, ?_⟩
   split at k5
   ·rw [if_pos ‹_›]; exact k5
   ·rw [if_neg ‹_›]; exact ⟨k5.1, zag.keep (fun _ _ => rfl) hf b rfl 0 z.sz z.rows k5.2⟩
 ·exact ⟨zah.keep (fun _ _ => rfl) hf _ _ (h.offs e' z hz h1).1, (h.offs e' z hz h1).2⟩
section
variable {ks : List Fr} {Q : Exit -> St -> Prop} {σ : St} {ops : Array Oper} {os : List Oper} {o : Oper}
theorem frzX (j : Nat) (hg : o.guard = none) (hs : zmn o.op = true) (k : zao (σ.bx j) fun cs => zao (ztd cs) fun ts => exo P ops (o :: os) ks Q (σ.fb j ts)) : exo P ops (o :: os) ks Q σ := by
 obtain ⟨cs, hx, h1⟩ := zai k
 obtain ⟨ts, ht, h2⟩ := zai h1
 exact zvn (fb_wk hx ht) hg hs h2
end
attribute [go_sem] C.fb St.fb fbS_at ztd
end Go.Proofs.Yteeaofpphmhjdaa
namespace Go.Proofs.Yteeaofpphmhjdaa
set_option linter.unusedSimpArgs false
set_option linter.unusedVariables false
set_option linter.unusedSectionVars false
set_option maxRecDepth 4000
open Go.RowKit
theorem zq7 (a : List Int) (l : Int) : FC Try.prog 102 [iD l, .one (.ptr [zay a])] [bD (a.contains l)] := by
 have H := zdv a l
 refine za3 Try.call102 Try.func102 rfl (by kernel_rfl) (zbq (by kernel_rfl)) ?_
 simp -implicitDefEqProofs only [go_sem, Try.results102]
 refine callF (H) (by simp -implicitDefEqProofs only [go_sem]) ?_
 simp -implicitDefEqProofs only [go_sem]
theorem zdw (c a : List Int) : FC Try.prog 59 [.one (zay c), .one (zay a)] [bD (sat a c)] := by
 have H := zls c (fun l => a.contains l) 102 [.ptr [zay a]] fun l _ => zq7 a l
 unfold sat
 refine za3 Try.call59 Try.func59 rfl (by kernel_rfl) (zbq (by kernel_rfl)) ?_
 simp -implicitDefEqProofs only [go_sem, Try.results59]
 refine frzX 3 rfl rfl ?_
 simp -implicitDefEqProofs only [go_sem]
 refine callF (H) (by simp -implicitDefEqProofs only [go_sem]) ?_
 simp -implicitDefEqProofs only [go_sem]
theorem zrf (a : List Int) (l : Int) (h : -9223372036854775807 <= l /\ l <= 9223372036854775807) : FC Try.prog 105 [iD l, .one (.ptr [zay a])] [bD (a.contains (-l))] := by
 have H := zdv a (-l)
 have hw : IntKind.i64.wrap (0 - l) = -l := by rw [zat (by omega) (by omega)]; omega
 refine za3 Try.call105 Try.func105 rfl (by kernel_rfl) (zbq (by kernel_rfl)) ?_
 simp -implicitDefEqProofs only [go_sem, Try.results105]
 rw [hw]
 refine callF (H) (by simp -implicitDefEqProofs only [go_sem]) ?_
 simp -implicitDefEqProofs only [go_sem]
theorem opn_eq (a c : List Int) : c.filter (kq fun l => a.contains (-l)) = opn a c := rfl
theorem zc9 (c a : List Int) (hc : ∀ l ∈ c, -9223372036854775807 <= l /\ l <= 9223372036854775807) (hl : c.length <= 1048577) : FC Try.prog 60 [.one (zay c), .one (zay a)] [.one (zay (opn a c))] := by
 have H := delF_c c a (fun l => a.contains (-l)) 105 hl fun l h => zrf a l (hc l h)
 rw [opn_eq] at H
 have HC := zj6 c (by omega)
 refine zdc Try.call60 Try.func60 rfl (by kernel_rfl) (zbq (by kernel_rfl)) ?_
 simp -implicitDefEqProofs only [go_sem, Try.results60]
 refine callF (HC) (by simp -implicitDefEqProofs only [go_sem]) ?_
 simp -implicitDefEqProofs only [go_sem]
 refine zam [] [6, 7] [3] [] (H) (by decide) rfl (by simp -implicitDefEqProofs only [go_sem]) (by simp -implicitDefEqProofs only [go_sem]) (by simp -implicitDefEqProofs only [go_sem]) (by simp -implicitDefEqProofs only [go_sem]) ?_
 simp -implicitDefEqProofs only [go_sem]
end Go.Proofs.Yteeaofpphmhjdaa
namespace Go.Proofs.Yteeaofpphmhjdaa
set_option linter.unusedSimpArgs false
set_option linter.unusedVariables false
set_option linter.unusedSectionVars false
set_option maxRecDepth 4000
open Go.RowKit
theorem zqd : ∀ {S : List (List Int)}, zbr (S.map fun s => [zay s]) -> ∀ {c : List Int}, c ∈ S -> wfT (zay c)
 | [], _, c, hc => by simp at hc
 | x :: S, h, c, hc => by
  have h' : zlo [zay x] /\ zbr (S.map fun s => [zay s]) := h
  rcases List.mem_cons.1 hc with rfl | hc
  ·exact h'.1.1
  ·exact zqd h'.2 hc
theorem wf_row {S : List (List Int)} (h : zbr (S.map fun s => [zay s])) {c : List Int} (hc : c ∈ S) : c.length <= 9223372036854775807 := by
 have := (zqd h hc).1
 simpa using this
abbrev Sm (c : List Int) : Prop := ∀ l ∈ c, -1073741824 <= l /\ l <= 1073741824
theorem zkb {c : List Int} (h : pcl c = true) : Sm c := fun l hl => by have := zm3 (zea h hl); omega
theorem zry (a c : List Int) {k : Nat} (h : k < c.length) : opn a (c.take (k + 1)) = opn a (c.take k) ++ if a.contains (-c[k]) = true then [] else [c[k]] := by
 unfold opn
 rw [List.take_succ_eq_append_getElem h, List.filter_append]
 congr 1
 rw [List.filter_cons]
 cases a.contains (-c[k]) <;> simp
theorem zqk (a c : List Int) : (opn a c).length <= c.length := List.length_filter_le _ _
set_option maxHeartbeats 1000000 in
theorem zfq (c a : List Int) (hc : Sm c) : FC Try.prog 65 [.one (zay c), .one (zay a)] [iD (zl6 a c).1, iD (zl6 a c).2] := by
 refine zet (fun hw => ?_) Try.call65
 have hl : c.length <= 9223372036854775807 := by have := hw.1.1; simpa using this
 refine za3 Try.call65 Try.func65 rfl (by kernel_rfl) (zbq (by kernel_rfl)) ?_
 simp -implicitDefEqProofs only [go_sem, Try.results65]
 refine zan (fun k : Nat => hd [(0, vT (zay c)), (1, vT (zay a)), (6, vI (opn a (c.take k)).length), (7, vT (.int .i64 ((opn a (c.take k)).getLast?.getD 0))), (8, vI k)] [] []) (fun k => k <= c.length /\ ∀ l ∈ c.take k, l ∉ a) (fun k => c.length - k) 0 (zaf ?_) ?_ ?_
 ·simp -implicitDefEqProofs only [go_sem]
  exact ⟨rfl, rfl⟩
 ·simp
 ·intro k ⟨hk, hr⟩
  by_cases hlt : k < c.length
  ·have hb := hc c[k] (List.getElem_mem hlt)
   have H1 := zp9 a c[k]
   have H2 := zp9 a (-c[k])
   have hwn : IntKind.i64.wrap (0 - c[k]) = -c[k] := by rw [zat (by omega) (by omega)]; omega
   have hs := zry a c hlt
   have hlo := zqk a (c.take k)
   rw [List.length_take] at hlo
   simp -implicitDefEqProofs only [go_sem, zaj, hlt]
   refine callF (H1) (by simp -implicitDefEqProofs only [go_sem, zaj, hlt]) ?_
   simp -implicitDefEqProofs only [go_sem, zaj, hlt]
   refine ⟨fun h => ?_, fun h => ?_⟩
   ·have : zl6 a c = (-1, 0) := by
     unfold zl6
     rw [if_pos (zcy.2 ⟨c[k], List.getElem_mem hlt, by simpa using h⟩)]
    rw [this]
    exact ⟨rfl, rfl⟩
   ·have hna : c[k] ∉ a := by simpa using h
    have hr2 : ∀ l ∈ c.take (k + 1), l ∉ a := fun l hl => by
     rw [List.take_succ_eq_append_getElem hlt] at hl
     rcases List.mem_append.1 hl with hl | hl
     ·exact hr l hl
     ·rw [List.mem_singleton.1 hl]; exact hna
    rw [hwn]
    refine callF (H2) (by simp -implicitDefEqProofs only [go_sem, zaj, hlt]) ?_
    simp -implicitDefEqProofs only [go_sem, zaj, hlt]
    refine ⟨fun h => ?_, fun h => ?_⟩
    ·have h' : a.contains (-c[k]) = false := by simpa using h
     rw [h', if_neg (by simp)] at hs
     rw [za2 (by omega)]
     refine ⟨k + 1, ⟨hlt, hr2⟩, by omega, zaf ?_⟩
     simp -implicitDefEqProofs only [go_sem]
     rw [hs, za2 (by omega)]
     simp
    ·have h' : a.contains (-c[k]) = true := by simpa using h
     rw [h', if_pos rfl, List.append_nil] at hs
     rw [za2 (by omega)]
     refine ⟨k + 1, ⟨hlt, hr2⟩, by omega, zaf ?_⟩
     simp -implicitDefEqProofs only [go_sem]
     rw [hs]
     exact ⟨rfl, rfl⟩
  ·have hns : sat a c = false := by
    rw [<- Bool.not_eq_true, zcy]
    rintro ⟨l, h1, h2⟩
    rw [List.take_of_length_le (by omega)] at hr
    exact hr l h1 h2
   simp -implicitDefEqProofs only [go_sem, hlt]
   rw [List.take_of_length_le (by omega)]
   unfold zl6
   rw [hns, if_neg (by simp)]
   exact ⟨rfl, rfl⟩
def falI (S : List (List Int)) (a : List Int) : Int := zjy S fun c => (zl6 a c).1 == 0
theorem l15False_c (S : List (List Int)) (a : List Int) (hS : ∀ c ∈ S, Sm c) : FC Try.prog 79 [.one (zbi S), .one (zay a)] [iD (falI S a)] := by
 refine zet (fun hw => ?_) Try.call79
 have hl : S.length <= 9223372036854775807 := by simpa [zpq, wfT] using hw.1.1
 unfold falI
 refine za3 Try.call79 Try.func79 rfl (by kernel_rfl) (zbq (by kernel_rfl)) ?_
 simp -implicitDefEqProofs only [go_sem, Try.results79]
 refine zan (fun k : Nat => hd [(0, vT (zbi S)), (1, vT (zay a)), (5, vI k)] [] []) (fun k => k <= S.length /\ ∀ x ∈ S.take k, ((zl6 a x).1 == 0) = false) (fun k => S.length - k) 0 (zaf ?_) ?_ ?_
 ·simp -implicitDefEqProofs only [go_sem]
 ·simp
 ·intro k ⟨hk, hr⟩
  by_cases hlt : k < S.length
  ·have H := zfq S[k] a (hS _ (List.getElem_mem hlt))
   simp -implicitDefEqProofs only [go_sem, zaj, hlt]
   refine callF (H) (by simp -implicitDefEqProofs only [go_sem]) ?_
   simp -implicitDefEqProofs only [go_sem]
   refine ⟨fun h => ?_, fun h => ?_⟩
   ·rw [zb8 (p := fun c => (zl6 a c).1 == 0) hlt hr h]
   ·rw [za2 (by omega)]
    exact ⟨k + 1, ⟨hlt, zbt (p := fun c => (zl6 a c).1 == 0) hlt hr h⟩, by omega, zaf (by simp -implicitDefEqProofs only [go_sem])⟩
  ·simp -implicitDefEqProofs only [go_sem, hlt]
   rw [List.take_of_length_le (by omega)] at hr
   rw [zcz hr]
def zlm (n : Int) (c : List Int) (j : Nat) : Int := (c.take j).foldl (fun m l => max m (ab l)) n
def zlz (S : List (List Int)) (k : Nat) : Int := (S.take k).foldl (fun n c => c.foldl (fun m l => max m (ab l)) n) 0
theorem zl1 (n : Int) (c : List Int) {j : Nat} (h : j < c.length) : zlm n c (j + 1) = max (zlm n c j) (ab c[j]) := by
 unfold zlm
 rw [List.take_succ_eq_append_getElem h, List.foldl_append]; rfl
theorem zli (S : List (List Int)) {k : Nat} (h : k < S.length) : zlz S (k + 1) = zlm (zlz S k) S[k] S[k].length := by
 unfold zlz zlm
 rw [List.take_succ_eq_append_getElem h, List.foldl_append, List.take_length]; rfl
theorem zlt (S : List (List Int)) (hS : ∀ c ∈ S, Sm c) : FC Try.prog 67 [.one (zbi S)] [iD (zml S)] := by
 refine zet (fun hw => ?_) Try.call67
 have hl : S.length <= 9223372036854775807 := by simpa [zpq, wfT] using hw.1.1
 have hwl : ∀ c ∈ S, c.length <= 9223372036854775807 := fun c hc => wf_row (show zbr (S.map fun s => [zay s]) from hw.1.2) hc
 refine za3 Try.call67 Try.func67 rfl (by kernel_rfl) (zbq (by kernel_rfl)) ?_
 simp -implicitDefEqProofs only [go_sem, Try.results67]
 refine zan (fun k : Nat => hd [(3, vI (zlz S k)), (8, vT (zbi S)), (9, vI S.length), (10, vI k)] [] []) (fun k => k <= S.length) (fun k => S.length - k) 0 (zaf ?_) (Nat.zero_le _) ?_
 ·simp -implicitDefEqProofs only [go_sem]
  rfl
 ·intro k hk
  by_cases hlt : k < S.length
  ·have hlk := hwl _ (List.getElem_mem hlt)
   have hsk := hS _ (List.getElem_mem hlt)
   have hsu := zli S hlt
   simp -implicitDefEqProofs only [go_sem, zaj, hlt]
   refine zan (fun j : Nat => hd [(3, vI (zlm (zlz S k) S[k] j)), (8, vT (zbi S)), (9, vI S.length), (10, vI k), (14, vT (zay S[k])), (15, vI S[k].length), (16, vI j)] [] []) (fun j => j <= S[k].length) (fun j => S[k].length - j) 0 (zaf ?_) (Nat.zero_le _) ?_
   ·simp -implicitDefEqProofs only [go_sem]
    rfl
   ·intro j hj
    by_cases hjl : j < S[k].length
    ·have HA := zd8 S[k][j] (by have := hsk _ (List.getElem_mem hjl); omega)
     simp -implicitDefEqProofs only [go_sem, zaj, hjl]
     refine callF (HA) (by simp -implicitDefEqProofs only [go_sem]) ?_
     simp -implicitDefEqProofs only [go_sem]
     rw [za2 (by omega)]
     refine ⟨j + 1, hjl, by omega, zaf ?_⟩
     simp -implicitDefEqProofs only [go_sem]
     rw [zl1 _ _ hjl]
    ·have hjn : j = S[k].length := by omega
     subst hjn
     rw [<- hsu]
     simp -implicitDefEqProofs only [go_sem, hjl]
     rw [za2 (by omega)]
     exact ⟨k + 1, hlt, by omega, zaf (by simp -implicitDefEqProofs only [go_sem])⟩
  ·simp -implicitDefEqProofs only [go_sem, hlt]
   unfold zlz
   rw [List.take_of_length_le (by omega)]
   rfl
end Go.Proofs.Yteeaofpphmhjdaa
namespace Go.Proofs.Yteeaofpphmhjdaa
set_option linter.unusedSimpArgs false
set_option linter.unusedVariables false
set_option linter.unusedSectionVars false
set_option maxRecDepth 4000
open Go.RowKit Go.Sort Go.Proofs
def zuc (x : Int) : Int := max x (wrap64 (-x))
def cmp3 (a b : Int) : Int := if a < b then -1 else if b < a then 1 else 0
def cfV (x y : Int) : Int := cmp3 (zuc x) (zuc y)
theorem zne {x : Int} (h : -1073741824 <= x /\ x <= 1073741824) : zuc x = ab x := by
 have : wrap64 (-x) = -x := by unfold wrap64; omega
 unfold zuc ab
 rw [this]
theorem zkg (x y : Int) : ltOf cfV x y = decide (zuc x < zuc y) := by
 unfold ltOf cfV cmp3
 split
 ·rename_i h; simp [h]
 ·rename_i h; split <;> simp [h]
theorem swoV : SWO (ltOf cfV) where
 irrefl x := by rw [zkg]; simp
 trans x y z h1 h2 := by rw [zkg] at *; simp at *; omega
 ntrans x y z h1 h2 := by rw [zkg] at *; simp at *; omega
theorem zj9 {a b : Int} (h : a = b) : Ending.returned (.int .i64 a) = .returned (.int .i64 b) := by rw [h]
set_option maxHeartbeats 400000 in
theorem zll (x : Int) (w : World) :
  Calls Try.prog 96 #[.int .i64 x] w fun e w' => e = .returned (.int .i64 (zuc x)) /\ w' = w := by
 go_enter Try.func96, Try.ntmps96
 go_wp2
 all_goals (go_ret; refine ⟨zj9 ?_, rfl⟩; unfold zuc; omega)
set_option maxHeartbeats 400000 in
theorem zqm (x y : Int) (w : World) :
  Calls Try.prog 108 #[.int .i64 x, .int .i64 y] w fun e w' => e = .returned (.int .i64 (cmp3 x y)) /\ w' = w := by
 have hx : (x != x) = false := by simp
 have hy : (y != y) = false := by simp
 go_enter Try.func108, Try.ntmps108
 go_wp2
 all_goals (go_ret; refine ⟨zj9 ?_, rfl⟩; unfold cmp3; first | (rw [if_pos (by omega)]; done) | (rw [if_neg (by omega), if_pos (by omega)]; done) | (rw [if_neg (by omega), if_neg (by omega)]; done))
set_option maxHeartbeats 400000 in
theorem zir (x y : Int) (w : World) :
  Calls Try.prog 62 #[.int .i64 x, .int .i64 y] w fun e w' => e = .returned (.int .i64 (cfV x y)) /\ w' = w := by
 go_enter Try.func62, Try.ntmps62
 go_wp2_with (first | (go_at_call 96; refine (zll _ _).mono ?_; rintro e w' ⟨rfl, hw⟩; rw [hw]; clear hw) | (go_at_call 108; refine (zqm _ _ _).mono ?_; rintro e w' ⟨rfl, hw⟩; rw [hw]; clear hw))
 go_ret
 exact ⟨rfl, rfl⟩
theorem zkd {w : World} : ∀ {ss : List Int} {vs : List Value} {fps : List Nat}, zak w (ss.map (T.int .i64)) vs fps -> vs = ss.map (Value.int .i64) /\ fps = [] /\ ∀ s ∈ ss, IntKind.min .i64 <= s /\ s <= IntKind.max .i64
 | [], vs, fps, h => ⟨h.1, h.2, by simp⟩
 | s :: ss, vs, fps, h => by
  obtain ⟨v, vs', f1, f2, rfl, rfl, h1, h2⟩ := h
  unfold zaq at h1
  obtain ⟨rfl, k1, k1', rfl⟩ := h1
  obtain ⟨rfl, rfl, k2⟩ := zkd h2
  exact ⟨rfl, rfl, fun x hx => (List.mem_cons.1 hx).elim (fun e => e ▸ ⟨k1, k1'⟩) (k2 x)⟩
theorem zko {w : World} : ∀ {ss : List Int}, (∀ s ∈ ss, IntKind.min .i64 <= s /\ s <= IntKind.max .i64) -> zak w (ss.map (T.int .i64)) (ss.map (Value.int .i64)) []
 | [], _ => ⟨rfl, rfl⟩
 | s :: ss, h => ⟨_, _, [], [], rfl, rfl, by unfold zaq; exact ⟨rfl, (h s (by simp)).1, (h s (by simp)).2, rfl⟩, zko fun x hx => h x (by simp [hx])⟩
theorem zid (ss : List Int) : (ss.map fun s => [T.int .i64 s]).flatten = ss.map (T.int .i64) := by induction ss <;> simp_all
theorem znf (ss : List Int) : lens 1 (ss.map fun s => [T.int .i64 s]) := fun r hr => by obtain ⟨s, _, rfl⟩ := List.mem_map.1 hr; rfl
theorem zox {xs ys : List Int} {d' : Array Int} (hp : PermIn 0 xs.toArray.size xs.toArray d') (hs : SortedIn (ltOf cfV) 0 xs.toArray.size d') (hxy : xs.Perm ys) (hy : Ris ys) (hb : Sm ys) : d'.toList = ys := by
 obtain ⟨p1, _, p3⟩ := hp
 have hsz : d'.size = xs.length := by rw [p1]; simp
 have e1 : (d'.extract 0 xs.toArray.size).toList = d'.toList := by simp [<- p1]
 have e2 : (xs.toArray.extract 0 xs.toArray.size).toList = xs := by simp
 rw [e1, e2] at p3
 have hpy := p3.trans hxy
 refine zl5 hpy hy (List.pairwise_iff_getElem.2 fun i j hi hj hij => ?_)
 have hj' : j < d'.size := by simpa using hj
 have hi' : i < d'.size := by simpa using hi
 have h := hs i j (Nat.zero_le _) hij (by rw [<- p1]; exact hj')
 rw [zkg, getElem!_pos d' j hj', getElem!_pos d' i hi', decide_eq_false_iff_not] at h
 have m1 : d'[i] ∈ ys := hpy.mem_iff.1 (by rw [<- Array.getElem_toList hi']; exact List.getElem_mem _)
 have m2 : d'[j] ∈ ys := hpy.mem_iff.1 (by rw [<- Array.getElem_toList hj']; exact List.getElem_mem _)
 rw [zne (hb _ m1), zne (hb _ m2)] at h
 rw [Array.getElem_toList, Array.getElem_toList]
 omega
set_option maxHeartbeats 1000000 in
theorem zoh (p : Option Addr) (cap : Nat) (fv : Value) (w : World) :
  Calls Try.prog 119 #[.slice p 0 cap, .int .i64 0, .int .i64 0, fv] w fun e w' => e = .returned (.tuple #[]) /\ w' = w := by
 go_enter Try.func119, Try.ntmps119
 go_wp2
 refine wp_loop_rounds 1 ?_
 rw [rounds_succ]
 go_wp2
 go_end0
 exact ⟨rfl, rfl⟩
set_option maxHeartbeats 2000000 in
theorem zqr (p : Option Addr) (cap : Nat) (lim : Int) (fv : Value) (w : World) :
  Calls Try.prog 106 #[.slice p 0 cap, .int .i64 0, .int .i64 0, .int .i64 lim, fv] w fun e w' => e = .returned (.tuple #[]) /\ w' = w := by
 go_enter Try.func106, Try.ntmps106
 go_wp2
 refine wp_loop_rounds 1 ?_
 rw [rounds_succ]
 go_wp2_with (go_at_call 119; refine (zoh p cap fv _).mono ?_; rintro e w' ⟨rfl, rfl⟩)
 (try simp only [Exit.inBlock, Exit.then]); refine bodyPost_ret (results_none rfl _ _ _) rfl ?_
 exact ⟨rfl, rfl⟩
set_option maxHeartbeats 2000000 in
theorem zmd (p : Option Addr) (cap : Nat) (fv : Value) (w : World) :
  Calls Try.prog 61 #[.slice p 0 cap, fv] w fun e w' => e = .returned (.tuple #[]) /\ w' = w := by
 have hl : ∀ W, Calls Try.prog 107 #[.int .u64 0] W fun e w' => e = .returned (.int .i64 (Lib.bitLen 0 : Nat)) /\ w' = W := fun W =>
  Any.bits_Len (SlLaysF0.n15.bits (P := Try.prog) (ρ := Try.laysSF_ren) { Try.laysSF with }) 0 W (by omega) (by omega)
 go_enter Try.func61, Try.ntmps61
 go_wp2_with (first | (go_at_call 107; refine (hl _).mono ?_; rintro e w' ⟨rfl, rfl⟩) | (go_at_call 106; refine (zqr p cap _ fv _).mono ?_; rintro e w' ⟨rfl, rfl⟩))
 go_end0
 exact ⟨rfl, rfl⟩
set_option maxHeartbeats 1000000 in
theorem zud (xs ys : List Int) (hp : xs.Perm ys) (hr : Ris ys) (hb : Sm ys) (hl : xs.length < 4611686018427387904) : IC Try.prog 61 [] (.one (zay xs)) [.one (.fn 62 [])] (.one (zay ys)) [] := by
 refine ⟨Try.call61, fun w us1 v us2 fp tp h1 hg h2 hn => ?_⟩
 rw [show us1 = [] from h1]
 obtain ⟨u, us, e0, h2, h3⟩ := h2
 rw [show us = [] from h3] at e0
 subst e0
 have h2 : zah w _ (T.fn 62 []) u := h2
 unfold zah at h2
 obtain ⟨cs, rfl, h4⟩ := h2
 rw [show cs = [] by unfold zaa at h4; exact h4]
 have hlen : ys.length = xs.length := hp.length_eq.symm
 have eg : ∀ args w, (callFunc 62 args).run Try.prog w = .ok (.enter 62 args) w := enters_of Try.func62 (by kernel_rfl) rfl
 obtain ⟨hg, _⟩ := hg
 unfold zaq at hg
 obtain ⟨ao, cap, rfl, q1, q2, q3⟩ := hg
 rw [List.length_map] at q1 ⊢
 rcases q3 with ⟨rfl, rfl, q3, rfl⟩ | ⟨b, cells, ty, fps, rfl, rfl, q3, q4, q5⟩
 ·have hs : xs = [] := List.map_eq_nil_iff.1 q3
  subst hs
  have hy : ys = [] := List.length_eq_zero_iff.1 hlen
  subst hy
  refine (zmd none 0 _ w).mono ?_
  rintro e w' ⟨rfl, rfl⟩
  refine ⟨[], [], [], rfl, ⟨_, [], [], [], [], [], rfl, rfl, rfl, ⟨?_, rfl⟩, rfl, rfl, rfl⟩, List.nodup_nil, by simp, Bk.refl _ _⟩
  unfold zaq
  exact ⟨none, 0, by simp, by simp, by simp, Or.inl ⟨rfl, rfl, by simp, rfl⟩⟩
 ·obtain ⟨_, vs, k1, k2, k3⟩ := q5.vals
  rw [zid] at k3
  obtain ⟨rfl, rfl, k4⟩ := zkd k3
  have hsz : xs.length <= cells.size := by omega
  have ht : cells.toList.take xs.length = xs.map (Value.int .i64) := by
   apply List.ext_getElem?
   intro j
   by_cases hj : j < xs.length
   ·rw [List.getElem?_take_of_lt hj, Array.getElem?_toList]
    have := k2 j _ (List.getElem?_eq_getElem (by simpa using hj))
    rw [Nat.zero_add] at this
    rw [this, List.getElem?_eq_getElem (by simpa using hj)]
   ·rw [List.getElem?_take_eq_none (by omega), List.getElem?_eq_none (by simp; omega)]
  have hH := holds_of_blockI q3 ht
  have hcmp : CmpReads Try.prog 62 #[] (Value.int .i64) cfV b 0 xs.toArray.size w := fun m os dk _ x y => (zir x y _).mono fun e w' ⟨he, hw⟩ => ⟨he, 0, hw⟩
  have hC := Any.slices_SortFunc Try.laysSF (Value.int .i64) (fun _ => rfl) cfV swoV 62 #[] b 0 cap xs.toArray w eg hcmp.lays hH (Array.getElem?_eq_some_iff.1 q3).1 (by simpa using hl)
  refine Calls.mono (show Calls Try.prog 61 _ w _ from hC) ?_
  rintro e w' ⟨rfl, d', n, os, hp', hs', rfl⟩
  have hd : d'.toList = ys := zox hp' hs' hp hr hb
  have hd2 : d' = ys.toArray := by rw [<- hd]
  subst hd2
  have hgr := grownBy_sortedI (w := w) (g := b) (n := n) (os := os) ys.toArray
  have htk := take_putCellsI cells ys (by omega)
  refine ⟨[], [b], [b], rfl, ⟨_, [], [b], [], [b], [], rfl, rfl, rfl, ⟨?_, rfl⟩, rfl, rfl, rfl⟩, by simp, fun x hx => Or.inl hx, ⟨hgr.os, hgr.tape, hgr.output, hgr.size, fun k hk => hgr.block k hk.1 fun e => hk.2 (by cases e; simp)⟩⟩
  unfold zaq
  refine ⟨_, cap, by rw [List.length_map, hlen], by rw [List.length_map, hlen]; exact q1, q2, Or.inr ⟨b, _, ty, [], rfl, rfl, heap_sortedI _ q3, by simp [putCells, q4], ?_⟩⟩
  refine zae.of_vals (znf _) (by rw [zid]; exact zko fun s hs => k4 s (hp.mem_iff.2 hs)) fun j u hu => ?_
  rw [<- htk, List.getElem?_take] at hu
  split at hu
  ·simpa using hu
  ·cases hu
end Go.Proofs.Yteeaofpphmhjdaa
namespace Go.Proofs.Yteeaofpphmhjdaa
set_option linter.unusedSimpArgs false
set_option linter.unusedVariables false
set_option linter.unusedSectionVars false
set_option maxRecDepth 4000
open Go.RowKit
set_option maxHeartbeats 1000000 in
theorem zr2 (c : List Int) (x : Int) (hc : Sm c) (hx : -1073741824 <= x /\ x <= 1073741824) (hl : c.length <= 4294967290) : FC Try.prog 66 [.one (zay c), iD x] [.one (zay (zdt c x))] := by
 have HX := zkw x (by omega)
 refine za3 Try.call66 Try.func66 rfl (by kernel_rfl) (zbq (by kernel_rfl)) ?_
 simp -implicitDefEqProofs only [go_sem, Try.results66]
 refine zan (fun k : Nat => hd [(0, vT (zay c)), (1, vI x), (5, vI k)] [] []) (fun k => k <= c.length /\ zdt c x = c.take k ++ zdt (c.drop k) x) (fun k => c.length - k) 0 (zaf ?_) ?_ ?_
 ·simp -implicitDefEqProofs only [go_sem]
 ·simp
 ·intro k ⟨hk, hr⟩
  have fin : zdt (c.drop k) x = x :: c.drop k -> zdt c x = c.take k ++ [x] ++ c.drop k := fun e => by rw [hr, e]; simp
  have hl0 : min k c.length <= 4294967296 := by omega
  have hl1 : min k c.length <= 4294967295 := by omega
  have hl2 : min k c.length + 1 <= 4294967295 := by omega
  have hl3 : min k c.length + 1 + (c.length - k) <= 4294967296 := by omega
  by_cases hlt : k < c.length
  ·have HA := zkw c[k] (by have := hc _ (List.getElem_mem hlt); omega)
   rw [List.drop_eq_getElem_cons hlt] at hr fin
   by_cases hab : ab c[k] < ab x
   ·have hab' : (ab c[k] < ab x) = True := by simpa using hab
    simp -implicitDefEqProofs only [go_sem, hlt, zaj]
    refine callF (HA) (by simp -implicitDefEqProofs only [go_sem]) ?_
    simp -implicitDefEqProofs only [go_sem]
    refine callF (HX) (by simp -implicitDefEqProofs only [go_sem, hab']) ?_
    simp -implicitDefEqProofs only [go_sem, hab']
    rw [za2 (by omega)]
    refine ⟨k + 1, ⟨hlt, ?_⟩, by omega, zaf (by simp -implicitDefEqProofs only [go_sem])⟩
    rw [hr, show zdt (c[k] :: c.drop (k + 1)) x = c[k] :: zdt (c.drop (k + 1)) x by rw [zdt, if_pos hab], List.take_succ_eq_append_getElem hlt, List.append_assoc]
    rfl
   ·have hab' : (ab c[k] < ab x) = False := by simpa using hab
    have hf := fin (by rw [zdt, if_neg hab])
    rw [<- List.drop_eq_getElem_cons hlt] at hf
    rw [hf]
    simp -implicitDefEqProofs only [go_sem, hlt, zaj]
    refine callF (HA) (by simp -implicitDefEqProofs only [go_sem]) ?_
    simp -implicitDefEqProofs only [go_sem]
    refine callF (HX) (by simp -implicitDefEqProofs only [go_sem, hab']) ?_
    simp -implicitDefEqProofs only [go_sem, hab']
    refine drawn (by kernel_rfl) ?_
    simp -implicitDefEqProofs only [go_sem]
    refine zd2 (by simp -implicitDefEqProofs only [go_sem, hk, <- List.map_take]) ?_
    simp -implicitDefEqProofs only [go_sem, hk, <- List.map_take]
    refine zvy true (by simp -implicitDefEqProofs only [go_sem, ne_eq, List.length_map, List.length_take, Nat.zero_add, hl0]) ?_
    simp -implicitDefEqProofs only [go_sem, ne_eq, List.length_map, List.length_take, Nat.zero_add, hl0]
    refine zd2 (by simp -implicitDefEqProofs only [go_sem]) ?_
    simp -implicitDefEqProofs only [go_sem]
    refine zvy true (by simp -implicitDefEqProofs only [go_sem, ne_eq, List.length_map, List.length_append, List.length_take, hl1]) ?_
    simp -implicitDefEqProofs only [go_sem, ne_eq, List.length_map, List.length_append, List.length_take, hl1]
    refine ⟨hk, ?_⟩
    rw [<- List.map_take, List.take_length, <- List.map_drop]
    refine zvy true (by simp -implicitDefEqProofs only [go_sem, ne_eq, List.length_map, List.length_append, List.length_take, List.length_cons, List.length_nil, List.length_drop, hl3]) ?_
    simp -implicitDefEqProofs only [go_sem, ne_eq, List.length_map, List.length_append, List.length_take, List.length_cons, List.length_nil, List.length_drop, hl3]
    refine ⟨by kernel_rfl, ?_⟩
    rw [List.map_append, List.map_append]
    rfl
  ·have hf := fin (by rw [List.drop_of_length_le (by omega)]; rfl)
   rw [hf]
   simp -implicitDefEqProofs only [go_sem, hlt]
   refine drawn (by kernel_rfl) ?_
   simp -implicitDefEqProofs only [go_sem]
   refine zd2 (by simp -implicitDefEqProofs only [go_sem, hk, <- List.map_take]) ?_
   simp -implicitDefEqProofs only [go_sem, hk, <- List.map_take]
   refine zvy true (by simp -implicitDefEqProofs only [go_sem, ne_eq, List.length_map, List.length_take, Nat.zero_add, hl0]) ?_
   simp -implicitDefEqProofs only [go_sem, ne_eq, List.length_map, List.length_take, Nat.zero_add, hl0]
   refine zd2 (by simp -implicitDefEqProofs only [go_sem]) ?_
   simp -implicitDefEqProofs only [go_sem]
   refine zvy true (by simp -implicitDefEqProofs only [go_sem, ne_eq, List.length_map, List.length_append, List.length_take, hl1]) ?_
   simp -implicitDefEqProofs only [go_sem, ne_eq, List.length_map, List.length_append, List.length_take, hl1]
   refine ⟨hk, ?_⟩
   rw [<- List.map_take, List.take_length, <- List.map_drop]
   refine zvy true (by simp -implicitDefEqProofs only [go_sem, ne_eq, List.length_map, List.length_append, List.length_take, List.length_cons, List.length_nil, List.length_drop, hl3]) ?_
   simp -implicitDefEqProofs only [go_sem, ne_eq, List.length_map, List.length_append, List.length_take, List.length_cons, List.length_nil, List.length_drop, hl3]
   refine ⟨by kernel_rfl, ?_⟩
   rw [List.map_append, List.map_append]
   rfl
end Go.Proofs.Yteeaofpphmhjdaa
namespace Go.Proofs.Yteeaofpphmhjdaa
set_option linter.unusedSimpArgs false
set_option linter.unusedVariables false
set_option linter.unusedSectionVars false
set_option maxRecDepth 4000
open Go.RowKit
abbrev bxO (out : List Int) : Bxs := [[(true, zay out)]]
theorem zfd {c : List Int} (h : pcl c = true) : ∀ l ∈ c, -9223372036854775807 <= l /\ l <= 9223372036854775807 := fun l hl => by have := zm3 (zea h hl); omega
theorem zum (c out : List Int) (hc : pcl c = true) : PC Try.prog 58 (bxO out) [.d false (.one (zay c)), .p 0] (bxO out) [(true, bD (zcs out c))] := by
 have H1 := zdw c out
 have H2 := zc9 c out (zfd hc) (by have := zdk hc; omega)
 unfold zcs
 cases h1 : sat out c
 ·rw [h1] at H1
  rw [Bool.not_false, Bool.true_and]
  have e : decide ((opn out c).length <= 1) = decide (((opn out c).length : Int) <= 1) := by rw [decide_eq_decide]; omega
  rw [e]
  refine zct Try.call58 Try.func58 rfl (by kernel_rfl) (by simp only [List.length_cons, List.length_nil, Try.ntmps58]; omega) (by simp only [Try.ntmps58]; omega) rfl rfl (by simp [zax, T.isPin, AF.ds, bxA]) (by simp [gFS, T.fs, T.flat, AF.ds, bxA]) rfl ?_
  simp -implicitDefEqProofs only [go_sem, Try.results58]
  refine callF (H1) (by simp -implicitDefEqProofs only [go_sem]) ?_
  simp -implicitDefEqProofs only [go_sem]
  refine callF (H2) (by simp -implicitDefEqProofs only [go_sem]) ?_
  simp -implicitDefEqProofs only [go_sem]
 ·rw [h1] at H1
  rw [Bool.not_true, Bool.false_and]
  refine zct Try.call58 Try.func58 rfl (by kernel_rfl) (by simp only [List.length_cons, List.length_nil, Try.ntmps58]; omega) (by simp only [Try.ntmps58]; omega) rfl rfl (by simp [zax, T.isPin, AF.ds, bxA]) (by simp [gFS, T.fs, T.flat, AF.ds, bxA]) rfl ?_
  simp -implicitDefEqProofs only [go_sem, Try.results58]
  refine callF (H1) (by simp -implicitDefEqProofs only [go_sem]) ?_
  simp -implicitDefEqProofs only [go_sem]
theorem idxU_c (S : List (List Int)) (out : List Int) (hS : zg7 S = true) : PC Try.prog 57 (bxO out) [.d false (.one (zbi S)), .fn 58 [0]] (bxO out) [(true, iD (zjy S (zcs out)))] := by
 have hl := zhd hS
 refine zct Try.call57 Try.func57 rfl (by kernel_rfl) (by simp only [List.length_cons, List.length_nil, Try.ntmps57]; omega) (by simp only [Try.ntmps57]; omega) rfl rfl (by simp [zax, T.isPin, AF.ds, bxA]) (by simp [gFS, T.fs, T.flat, AF.ds, bxA]) rfl ?_
 simp -implicitDefEqProofs only [go_sem, Try.results57]
 refine zan (fun k : Nat => hd [(0, .one (.rn (zbi S))), (1, .one (.fn 58 [1000000])), (7, vI S.length), (8, vI k), (1000000, .one (.bx 1000000 0))] [(1000000, [.ow 32 0])] [(32, ⟨true, 1, out.map fun s => [.int .i64 s], 0, true⟩)]) (fun k => k <= S.length /\ ∀ x ∈ S.take k, zcs out x = false) (fun k => S.length - k) 0 (zaf ?_) ?_ ?_
 ·simp -implicitDefEqProofs only [go_sem]
 ·simp
 ·intro k ⟨hk, hr⟩
  by_cases hlt : k < S.length
  ·have HC := zum S[k] out (zb3 hS (List.getElem_mem hlt))
   simp -implicitDefEqProofs only [go_sem, zaj, hlt]
   refine zam [0, 1, 5, 7, 8, 11, 1000000] [15] [1000000] [] (HC) (by decide) rfl (by simp -implicitDefEqProofs only [go_sem]) (by simp -implicitDefEqProofs only [go_sem]) (by simp -implicitDefEqProofs only [go_sem]) (by simp -implicitDefEqProofs only [go_sem]) ?_
   simp -implicitDefEqProofs only [go_sem]
   refine ⟨fun h => Or.inl (by rw [zb8 hlt hr h]), fun h => ⟨k + 1, ⟨hlt, zbt hlt hr h⟩, by omega, ze2 32 513 ?_⟩⟩
   simp -implicitDefEqProofs only [go_sem]
   rw [za2 (by omega)]
  ·simp -implicitDefEqProofs only [go_sem, hlt]
   rw [List.take_of_length_le (by omega)] at hr
   rw [zcz hr]
   exact Or.inl rfl
theorem zqo {α : Type} (xs : List α) (p : α -> Bool) : zjy xs p = match xs.findIdx? p with | some i => (i : Int) | none => -1 := by
 cases h : xs.findIdx? p with
 | none => exact zcz fun x hx => List.findIdx?_eq_none_iff.1 h x hx
 | some i =>
  obtain ⟨hi, h1, h2⟩ := List.findIdx?_eq_some_iff_getElem.1 h
  refine zb8 hi (fun x hx => ?_) h1
  obtain ⟨j, hj, rfl⟩ := List.mem_take_iff_getElem.1 hx
  simpa using h2 j (by omega)
def puR (S : List (List Int)) (a : List Int) : (List Int × Int) × Bool := if (zg7 S && pcl a) = true then (zcg (13 - a.length) S a, true) else (([], 0), false)
set_option maxHeartbeats 2000000 in
theorem zev (S : List (List Int)) (a : List Int) : FC Try.prog 16 [.one (zbi S), .one (zay a)] [.one (zay (puR S a).1.1), iD (puR S a).1.2, bD (puR S a).2] := by
 have H1 := zcq S
 have H2 := zc8 a
 unfold puR
 cases h1 : zg7 S
 ·rw [h1] at H1
  rw [Bool.false_and, if_neg (by simp)]
  refine za3 Try.call16 Try.func16 rfl (by kernel_rfl) (zbq (by kernel_rfl)) ?_
  simp -implicitDefEqProofs only [go_sem, Try.results16]
  refine callF (H1) (by simp -implicitDefEqProofs only [go_sem]) ?_
  simp -implicitDefEqProofs only [go_sem]
 ·rw [h1] at H1
  cases h2 : pcl a
  ·rw [h2] at H2
   rw [Bool.and_false, if_neg (by simp)]
   refine za3 Try.call16 Try.func16 rfl (by kernel_rfl) (zbq (by kernel_rfl)) ?_
   simp -implicitDefEqProofs only [go_sem, Try.results16]
   refine callF (H1) (by simp -implicitDefEqProofs only [go_sem]) ?_
   simp -implicitDefEqProofs only [go_sem]
   refine callF (H2) (by simp -implicitDefEqProofs only [go_sem]) ?_
   simp -implicitDefEqProofs only [go_sem]
  ·rw [h2] at H2
   rw [Bool.and_self, if_pos rfl]
   have hSl := zhd h1
   have hla := zdk h2
   have HC := zj6 a (by omega)
   obtain ⟨R, hR⟩ : ∃ R, zcg (13 - a.length) S a = R := ⟨_, rfl⟩
   rw [hR]
   refine zdc Try.call16 Try.func16 rfl (by kernel_rfl) (zbq (by kernel_rfl)) ?_
   simp -implicitDefEqProofs only [go_sem, Try.results16]
   refine callF (H1) (by simp -implicitDefEqProofs only [go_sem]) ?_
   simp -implicitDefEqProofs only [go_sem]
   refine callF (H2) (by simp -implicitDefEqProofs only [go_sem]) ?_
   simp -implicitDefEqProofs only [go_sem]
   refine callF (HC) (by simp -implicitDefEqProofs only [go_sem]) ?_
   simp -implicitDefEqProofs only [go_sem]
   refine zan (fun x : Nat × List Int => hd [(0, .one (.rn (zbi S))), (7, .one (.bx 7 0))] [(7, [.ow 608 x.1])] [(608, ⟨true, 1, x.2.map fun s => [.int .i64 s], x.1, true⟩)]) (fun x => zcg (13 - x.2.length) S x.2 = R /\ pcl x.2 = true) (fun x => 13 - x.2.length) (0, a) (zaf ?_) ⟨hR, h2⟩ ?_
   ·simp -implicitDefEqProofs only [go_sem]
   ·rintro ⟨gn, out⟩ ⟨hr, hpo⟩
    simp only at hr hpo
    have hlo := zdk hpo
    have HI := idxU_c S out h1
    rw [zqo] at HI
    have hu : zcp S out = S.findIdx? (zcs out) := rfl
    rw [<- hu] at HI
    obtain ⟨f, hf⟩ : ∃ f, 13 - out.length = f + 1 := ⟨12 - out.length, by omega⟩
    rw [hf, zcg] at hr
    cases hua : zcp S out with
    | none =>
     rw [hua] at hr HI
     have hr : (out, (-1 : Int)) = R := hr
     subst hr
     have HI : PC Try.prog 57 (bxO out) [.d false (.one (zbi S)), .fn 58 [0]] (bxO out) [(true, iD (-1))] := HI
     simp -implicitDefEqProofs only [go_sem]
     refine zam [0, 7] [20, 21] [7] [] (HI) (by decide) rfl (by simp -implicitDefEqProofs only [go_sem]) (by simp -implicitDefEqProofs only [go_sem]) (by simp -implicitDefEqProofs only [go_sem]) (by simp -implicitDefEqProofs only [go_sem]) ?_
     simp -implicitDefEqProofs only [go_sem]
    | some i =>
     rw [hua] at hr HI
     obtain ⟨hi, hns, hle⟩ := zcf hua
     have hg : S.getD i [] = S[i] := by rw [List.getD_eq_getElem?_getD, List.getElem?_eq_getElem hi]; rfl
     have HI : PC Try.prog 57 (bxO out) [.d false (.one (zbi S)), .fn 58 [0]] (bxO out) [(true, iD i)] := HI
     have hr : (match opn out (S.getD i []) with | [] => (out, (i : Int)) | x :: _ => zcg f S (zdt out x)) = R := hr
     rw [hg] at hr
     have hpi := zb3 h1 (List.getElem_mem hi)
     have HO := zc9 S[i] out (zfd hpi) (by have := zdk hpi; omega)
     have hneg : ((i : Int) < 0) = False := by simp
     cases ho : opn out S[i] with
     | nil =>
      rw [ho] at hr HO
      have hr : (out, (i : Int)) = R := hr
      subst hr
      simp -implicitDefEqProofs only [go_sem]
      refine zam [0, 7] [20, 21] [7] [] (HI) (by decide) rfl (by simp -implicitDefEqProofs only [go_sem, hneg]) (by simp -implicitDefEqProofs only [go_sem, hneg]) (by simp -implicitDefEqProofs only [go_sem, hneg]) (by simp -implicitDefEqProofs only [go_sem, hneg]) ?_
      simp -implicitDefEqProofs only [go_sem, hneg]
      refine drawn (by kernel_rfl) ?_
      simp -implicitDefEqProofs only [go_sem, hi, zaj]
      refine zeg (HO) (by simp -implicitDefEqProofs only [go_sem]) ?_
      simp -implicitDefEqProofs only [go_sem]
      kernel_rfl
     | cons x xs =>
      rw [ho] at hr HO hle
      have hxs : xs = [] := by simpa using hle
      subst hxs
      have hr : zcg f S (zdt out x) = R := hr
      have hxo : x ∈ opn out S[i] := by rw [ho]; simp
      have hxc := zea hpi (zdf.1 hxo).1
      have hnew := zke hns hxo
      have hpp := zks hpo hxc hnew
      have HS := zud (out ++ [x]) (zdt out x) (zlj out x) ((zgv _).1 hpp).2 (zkb hpp) (by simp; omega)
      have hol : out.length <= 4294967295 := by omega
      simp -implicitDefEqProofs only [go_sem]
      refine zam [0, 7] [20, 21] [7] [] (HI) (by decide) rfl (by simp -implicitDefEqProofs only [go_sem, hneg]) (by simp -implicitDefEqProofs only [go_sem, hneg]) (by simp -implicitDefEqProofs only [go_sem, hneg]) (by simp -implicitDefEqProofs only [go_sem, hneg]) ?_
      simp -implicitDefEqProofs only [go_sem, hneg]
      refine drawn (by kernel_rfl) ?_
      simp -implicitDefEqProofs only [go_sem, hi, zaj]
      refine zeg (HO) (by simp -implicitDefEqProofs only [go_sem]) ?_
      simp -implicitDefEqProofs only [go_sem]
      refine ⟨by kernel_rfl, ?_⟩
      refine drawn (by kernel_rfl) ?_
      simp -implicitDefEqProofs only [go_sem]
      refine zd2 (by simp -implicitDefEqProofs only [go_sem]) ?_
      simp -implicitDefEqProofs only [go_sem]
      refine zvy true (by simp -implicitDefEqProofs only [go_sem, ne_eq, List.length_map, hol]) ?_
      simp -implicitDefEqProofs only [go_sem, ne_eq, List.length_map, hol]
      refine ⟨by kernel_rfl, ?_⟩
      simp only [zay, List.map_append, List.map_cons, List.map_nil] at HS
      have hfl : flR (List.map (fun s => [T.int .i64 s]) out ++ [[T.int .i64 x]]) = true := by
       have := zi1 (out ++ [x])
       rwa [List.map_append] at this
      refine callIs (HS) (by simp -implicitDefEqProofs only [go_sem, hfl]) (by simp -implicitDefEqProofs only [go_sem, hfl]) rfl ?_
      simp -implicitDefEqProofs only [go_sem, hfl]
      refine ⟨(1, zdt out x), ⟨by rw [zbl, show 13 - (out.length + 1) = f by omega]; exact hr, hpp⟩, by simp only; rw [zbl]; omega, ze2 608 705 ?_⟩
      simp -implicitDefEqProofs only [go_sem]
end Go.Proofs.Yteeaofpphmhjdaa
namespace Go.Proofs.Yteeaofpphmhjdaa
set_option linter.unusedSimpArgs false
set_option linter.unusedVariables false
set_option linter.unusedSectionVars false
set_option maxRecDepth 4000
open Go.RowKit
theorem zek {S : List (List Int)} {a : List Int} {i : Nat} (hi : i < S.length) (hn : ∀ j (h : j < S.length), j < i -> zcs a S[j] = false) (h : zcs a S[i] = true) : zcp S a = some i := by
 unfold zcp
 rw [List.findIdx?_eq_some_iff_getElem]
 exact ⟨hi, h, fun j hj => by rw [hn j (by omega) hj]; simp⟩
theorem zja {S : List (List Int)} {a : List Int} (hn : ∀ j (h : j < S.length), zcs a S[j] = false) : zcp S a = none := by
 unfold zcp
 rw [List.findIdx?_eq_none_iff]
 intro c hc
 obtain ⟨j, hj, rfl⟩ := List.getElem_of_mem hc
 exact hn j hj
set_option maxHeartbeats 2000000 in
theorem zqw (S : List (List Int)) (a : List Int) : FC Try.prog 17 [.one (zbi S), .one (zay a)] [.one (zay (puR S a).1.1), iD (puR S a).1.2, bD (puR S a).2] := by
 have H1 := zs2 S
 have H2 := zfc a
 unfold puR
 cases h1 : zg7 S
 ·rw [h1] at H1
  rw [Bool.false_and, if_neg (by simp)]
  refine za3 Try.call17 Try.func17 rfl (by kernel_rfl) (zbq (by kernel_rfl)) ?_
  simp -implicitDefEqProofs only [go_sem, Try.results17]
  refine callF (H1) (by simp -implicitDefEqProofs only [go_sem]) ?_
  simp -implicitDefEqProofs only [go_sem]
  refine zas (by simp -implicitDefEqProofs only [go_sem]) ?_
  simp -implicitDefEqProofs only [go_sem]
  skip
 ·rw [h1] at H1
  cases h2 : pcl a
  ·rw [h2] at H2
   rw [Bool.and_false, if_neg (by simp)]
   refine za3 Try.call17 Try.func17 rfl (by kernel_rfl) (zbq (by kernel_rfl)) ?_
   simp -implicitDefEqProofs only [go_sem, Try.results17]
   refine callF (H1) (by simp -implicitDefEqProofs only [go_sem]) ?_
   simp -implicitDefEqProofs only [go_sem]
   refine callF (H2) (by simp -implicitDefEqProofs only [go_sem]) ?_
   simp -implicitDefEqProofs only [go_sem]
   refine zas (by simp -implicitDefEqProofs only [go_sem]) ?_
   simp -implicitDefEqProofs only [go_sem]
   skip
  ·rw [h2] at H2
   rw [Bool.and_self, if_pos rfl]
   have hSl := zhd h1
   have hla := zdk h2
   have HC := zuq a (by omega)
   obtain ⟨R, hR⟩ : ∃ R, zcg (13 - a.length) S a = R := ⟨_, rfl⟩
   rw [hR]
   refine za3 Try.call17 Try.func17 rfl (by kernel_rfl) (zbq (by kernel_rfl)) ?_
   simp -implicitDefEqProofs only [go_sem, Try.results17]
   refine callF (H1) (by simp -implicitDefEqProofs only [go_sem]) ?_
   simp -implicitDefEqProofs only [go_sem]
   refine callF (H2) (by simp -implicitDefEqProofs only [go_sem]) ?_
   simp -implicitDefEqProofs only [go_sem]
   refine callF (HC) (by simp -implicitDefEqProofs only [go_sem]) ?_
   simp -implicitDefEqProofs only [go_sem]
   refine zan (fun out : List Int => hd [(0, vT (zbi S)), (7, .one (.ow 704 0))] [] [(704, ⟨true, 1, out.map fun s => [.int .i64 s], 0, true⟩)]) (fun out => zcg (13 - out.length) S out = R /\ pcl out = true) (fun out => 13 - out.length) a (zaf ?_) ⟨hR, h2⟩ ?_
   ·simp -implicitDefEqProofs only [go_sem]
   ·intro out ⟨hr, hpo⟩
    have hlo := zdk hpo
    obtain ⟨f, hf⟩ : ∃ f, 13 - out.length = f + 1 := ⟨12 - out.length, by omega⟩
    rw [hf, zcg] at hr
    simp -implicitDefEqProofs only [go_sem]
    refine zan (fun x : Nat × Int => hd [(0, vT (zbi S)), (7, .one (.ow 704 0)), (8, vI x.2), (9, vI x.1)] [] [(704, ⟨true, 1, out.map fun s => [.int .i64 s], 0, true⟩)]) (fun x => x.1 <= S.length /\ ((x.2 = 0 /\ ∀ j (h : j < S.length), j < x.1 -> zcs out S[j] = false) \/ (x.2 ≠ 0 /\ ∃ i, ∃ h : i < S.length, zcp S out = some i /\ opn out S[i] = [x.2]))) (fun x => (S.length - x.1) + (if x.2 = 0 then 1 else 0)) (0, 0) (zaf ?_) ?_ ?_
    ·simp -implicitDefEqProofs only [go_sem]
     skip
    ·exact ⟨Nat.zero_le _, Or.inl ⟨rfl, fun j _ hj => absurd hj (by simp)⟩⟩
    ·rintro ⟨i, u⟩ ⟨hi, hu⟩
     simp only at hi hu
     rcases hu with ⟨rfl, hn⟩ | ⟨hu0, q, hq, hua, hop⟩
     ·by_cases hil : i < S.length
      ·have hpi := zb3 h1 (List.getElem_mem hil)
       have HS := zfq S[i] out (zkb hpi)
       have hli := zqk out S[i]
       have hlc := zdk hpi
       have hwi : IntKind.i64.wrap ((i : Int) + 1) = ((i + 1 : Nat) : Int) := za2 (by omega)
       have nxt : zcs out S[i] = false -> ∀ j (h : j < S.length), j < i + 1 -> zcs out S[j] = false := fun hc j h hj => by
        by_cases hji : j < i
        ·exact hn j h hji
        ·have : j = i := by omega
         subst this; exact hc
       cases hsat : sat out S[i]
       ·have hst : zl6 out S[i] = (((opn out S[i]).length : Int), (opn out S[i]).getLast?.getD 0) := by unfold zl6; rw [hsat, if_neg (by simp)]
        rw [hst] at HS
        have hunit : zcs out S[i] = decide ((opn out S[i]).length <= 1) := by unfold zcs; rw [hsat]; rfl
        cases hop : opn out S[i] with
        | nil =>
         rw [hop] at HS hunit
         have hua := zek hil hn (by rw [hunit]; rfl)
         rw [hua] at hr
         have hr : (match opn out (S.getD i []) with | [] => (out, (i : Int)) | x :: _ => zcg f S (zdt out x)) = R := hr
         rw [List.getD_eq_getElem?_getD, List.getElem?_eq_getElem hil, Option.getD_some, hop] at hr
         have hr : (out, (i : Int)) = R := hr
         subst hr
         simp only [List.length_nil] at HS
         simp -implicitDefEqProofs only [go_sem, hil, zaj]
         refine callF (HS) (by simp -implicitDefEqProofs only [go_sem]) ?_
         simp -implicitDefEqProofs only [go_sem]
        | cons x xs =>
         cases xs with
         | nil =>
          rw [hop] at HS hunit
          have hua := zek hil hn (by rw [hunit]; rfl)
          have hxo : x ∈ opn out S[i] := by rw [hop]; simp
          have hx0 := (zm3 (zea hpi (zdf.1 hxo).1)).1
          have HS : FC Try.prog 65 [.one (zay S[i]), .one (zay out)] [iD 1, iD x] := HS
          simp -implicitDefEqProofs only [go_sem, hil, zaj]
          refine callF (HS) (by simp -implicitDefEqProofs only [go_sem]) ?_
          simp -implicitDefEqProofs only [go_sem]
          rw [hwi]
          refine ⟨(i + 1, x), ⟨hil, Or.inr ⟨hx0, i, hil, hua, hop⟩⟩, by simp only; rw [if_neg hx0]; first | omega | (simp; omega), zaf ?_⟩
          simp -implicitDefEqProofs only [go_sem]
         | cons y ys =>
          rw [hop] at HS hunit
          have hno : zcs out S[i] = false := by rw [hunit]; simp
          have hne0 : ((((x :: y :: ys).length : Nat) : Int) == 0) = false := by simp; omega
          have hne1 : ((((x :: y :: ys).length : Nat) : Int) == 1) = false := by simp; omega
          generalize (x :: y :: ys).length = L at HS hne0 hne1
          generalize (x :: y :: ys).getLast?.getD 0 = o at HS
          simp -implicitDefEqProofs only [go_sem, hil, zaj]
          refine callF (HS) (by simp -implicitDefEqProofs only [go_sem, hne0, hne1]) ?_
          simp -implicitDefEqProofs only [go_sem, hne0, hne1]
          rw [hwi]
          refine ⟨(i + 1, 0), ⟨hil, Or.inl ⟨rfl, nxt hno⟩⟩, by simp; omega, zaf ?_⟩
          simp -implicitDefEqProofs only [go_sem]
       ·have hst : zl6 out S[i] = (-1, 0) := by unfold zl6; rw [hsat, if_pos rfl]
        rw [hst] at HS
        have hno : zcs out S[i] = false := by unfold zcs; rw [hsat]; rfl
        simp -implicitDefEqProofs only [go_sem, hil, zaj]
        refine callF (HS) (by simp -implicitDefEqProofs only [go_sem]) ?_
        simp -implicitDefEqProofs only [go_sem]
        rw [hwi]
        refine ⟨(i + 1, 0), ⟨hil, Or.inl ⟨rfl, nxt hno⟩⟩, by simp; omega, zaf ?_⟩
        simp -implicitDefEqProofs only [go_sem]
      ·have hua := zja fun j h => hn j h (by omega)
       rw [hua] at hr
       have hr : (out, (-1 : Int)) = R := hr
       subst hr
       simp -implicitDefEqProofs only [go_sem, hil]
     ·have hu0' : (u == (0 : Int)) = false := by simpa using hu0
      rw [hua] at hr
      have hr : (match opn out (S.getD q []) with | [] => (out, (q : Int)) | x :: _ => zcg f S (zdt out x)) = R := hr
      rw [List.getD_eq_getElem?_getD, List.getElem?_eq_getElem hq, Option.getD_some, hop] at hr
      have hr : zcg f S (zdt out u) = R := hr
      have hxo : u ∈ opn out S[q] := by rw [hop]; simp
      obtain ⟨_, hns, _⟩ := zcf hua
      have hxc := zea (zb3 h1 (List.getElem_mem hq)) (zdf.1 hxo).1
      have hpp := zks hpo hxc (zke hns hxo)
      have HP := zr2 out u (zkb hpo) (by have := (zm3 hxc).2; omega) (by omega)
      by_cases hil : i < S.length
      ·simp -implicitDefEqProofs only [go_sem, hil, hu0']
       refine callF (HP) (by simp -implicitDefEqProofs only [go_sem]) ?_
       simp -implicitDefEqProofs only [go_sem]
       refine ⟨zdt out u, ⟨by rw [zbl, show 13 - (out.length + 1) = f by omega]; exact hr, hpp⟩, by rw [zbl]; omega, ze2 704 1728 ?_⟩
       simp -implicitDefEqProofs only [go_sem]
      ·simp -implicitDefEqProofs only [go_sem, hil, hu0']
       refine callF (HP) (by simp -implicitDefEqProofs only [go_sem]) ?_
       simp -implicitDefEqProofs only [go_sem]
       refine ⟨zdt out u, ⟨by rw [zbl, show 13 - (out.length + 1) = f by omega]; exact hr, hpp⟩, by rw [zbl]; omega, ze2 704 1728 ?_⟩
       simp -implicitDefEqProofs only [go_sem]
end Go.Proofs.Yteeaofpphmhjdaa
namespace Go.Proofs.Yteeaofpphmhjdaa
set_option linter.unusedSimpArgs false
set_option linter.unusedVariables false
set_option linter.unusedSectionVars false
set_option maxRecDepth 4000
open Go.RowKit
theorem zsh (c m : List Int) : FC Try.prog 109 [.one (zay c), .one (.ptr [zay m])] [bD (!sat m c)] := by
 have H := zdw c m
 refine za3 Try.call109 Try.func109 rfl (by kernel_rfl) (zbq (by kernel_rfl)) ?_
 simp -implicitDefEqProofs only [go_sem, Try.results109]
 refine callF (H) (by simp -implicitDefEqProofs only [go_sem]) ?_
 simp -implicitDefEqProofs only [go_sem]
theorem isM_eq (S : List (List Int)) (m : List Int) : isM S m = !(S.any fun c => !sat m c) := by
 unfold isM
 rw [List.not_any_eq_all_not]; simp
theorem znv (S : List (List Int)) (m : List Int) : FC Try.prog 69 [.one (zbi S), .one (zay m)] [bD (isM S m)] := by
 have H := zcn S (fun c => !sat m c) 109 [.ptr [zay m]] fun c _ => zsh c m
 rw [isM_eq]
 refine za3 Try.call69 Try.func69 rfl (by kernel_rfl) (zbq (by kernel_rfl)) ?_
 simp -implicitDefEqProofs only [go_sem, Try.results69]
 refine frzX 3 rfl rfl ?_
 simp -implicitDefEqProofs only [go_sem]
 refine callF (H) (by simp -implicitDefEqProofs only [go_sem]) ?_
 simp -implicitDefEqProofs only [go_sem]
def zlf (n k v : Nat) : List Int := List.replicate v 0 ++ asg ((v : Int) + 1) (n - v) k
theorem zs8 (n k v : Nat) (h : v <= n) : (zlf n k v).length = n := by
 unfold zlf
 rw [List.length_append, List.length_replicate, (show (asg ((v : Int) + 1) (n - v) k).length = n - v from ?_)]
 ·omega
 ·generalize n - v = m
  generalize (v : Int) + 1 = u
  induction m generalizing u with
  | zero => rfl
  | succ m ih => unfold asg; rw [List.length_cons, ih]
theorem zri {n k v : Nat} (h : v + 1 <= n) : (zlf n k (v + 1)).set v (if k / 2 ^ (n - (v + 1)) % 2 = 1 then -((v : Int) + 1) else (v : Int) + 1) = zlf n k v := by
 unfold zlf
 rw [List.set_append_left _ _ (by rw [List.length_replicate]; omega), List.replicate_succ', List.set_append_right _ _ (by rw [List.length_replicate]; omega), List.length_replicate, Nat.sub_self, List.set_cons_zero, List.append_assoc]
 congr 1
 rw [show n - v = (n - (v + 1)) + 1 by omega, asg, List.singleton_append]
 congr 1
theorem zmt (n k : Nat) : zlf n k n = List.replicate n 0 := by unfold zlf; rw [Nat.sub_self, asg, List.append_nil]
theorem zmv (n k : Nat) : zlf n k 0 = asg 1 n k := by unfold zlf; simp
theorem zur {x : Nat} (h : x <= 1099511627776) : IntKind.i64.wrap (((BitVec.ofInt 64 (x : Int) &&& BitVec.ofInt 64 1).toNat : Nat) : Int) = ((x % 2 : Nat) : Int) := by
 have e1 : BitVec.ofInt 64 (x : Int) = BitVec.ofNat 64 x := by simp
 have e2 : BitVec.ofInt 64 1 = BitVec.ofNat 64 1 := by rfl
 rw [e1, e2, BitVec.toNat_and, BitVec.toNat_ofNat, BitVec.toNat_ofNat, Nat.mod_eq_of_lt (by omega), Nat.mod_eq_of_lt (a := 1) (by omega), Nat.and_one_is_mod]
 exact zat (by omega) (by omega)
theorem zsy (x : Nat) : (x : Int).fdiv (2 ^ min 1 64) = ((x / 2 : Nat) : Int) := by
 rw [show ((2 : Int) ^ min 1 64) = ((2 : Nat) : Int) from rfl, Int.fdiv_eq_ediv_of_nonneg _ (by omega)]
 exact (Int.natCast_ediv _ _).symm
set_option maxHeartbeats 1000000 in
theorem zfw (k n : Nat) (hn : n <= 12) (hk : k <= 1048576) : FC Try.prog 68 [iD k, iD n] [.one (zay (asg 1 n k))] := by
 refine za3 Try.call68 Try.func68 rfl (by kernel_rfl) (zbq (by kernel_rfl)) ?_
 simp -implicitDefEqProofs only [go_sem, Try.results68]
 refine makeD (by simp -implicitDefEqProofs only [go_sem]; omega) ?_
 simp -implicitDefEqProofs only [go_sem]
 refine zan (fun v : Nat => hd [(0, vI (k / 2 ^ (n - v) : Nat)), (5, .one (.ow 256 0)), (6, vI v)] [] [(256, ⟨true, 1, (zlf n k v).map fun s => [.int .i64 s], 0, true⟩)]) (fun v => v <= n) (fun v => v) n (zaf ?_) (Nat.le_refl _) ?_
 ·simp -implicitDefEqProofs only [go_sem]
  rw [zmt, List.map_replicate, Nat.sub_self, Nat.pow_zero, Nat.div_one]
  exact ⟨rfl, rfl⟩
 ·intro v hv
  cases v with
  | zero =>
   simp -implicitDefEqProofs only [go_sem]
   rw [zmv]
  | succ v =>
   have hwv : IntKind.i64.wrap (((v + 1 : Nat) : Int) - 1) = (v : Int) := by rw [zat (by omega) (by omega)]; omega
   have hlen := zs8 n k (v + 1) hv
   have hst := zri (n := n) (k := k) (v := v) hv
   have h1v : (1 <= ((v + 1 : Nat) : Int)) = True := by simp; omega
   have hlv : v < (zlf n k (v + 1)).length := by omega
   have hst0 := zgx (zlf n k (v + 1)) v ((v : Int) + 1) hlv
   have hst1 := zgx ((zlf n k (v + 1)).set v ((v : Int) + 1)) v (-((v : Int) + 1)) (by rw [List.length_set]; exact hlv)
   rw [List.set_set] at hst1
   have hkv : k / 2 ^ (n - v) = k / 2 ^ (n - (v + 1)) / 2 := by rw [show n - v = (n - (v + 1)) + 1 by omega, Nat.pow_succ, Nat.div_div_eq_div_mul]
   have hXk : k / 2 ^ (n - (v + 1)) <= k := Nat.div_le_self _ _
   generalize k / 2 ^ (n - (v + 1)) = X at hst hkv hXk ⊢
   have hbx : -9223372036854775808 <= ((X / 2 : Nat) : Int) /\ ((X / 2 : Nat) : Int) <= 9223372036854775807 := by omega
   have hwv2 : IntKind.i64.wrap ((v : Int) + 1 - 1) = (v : Int) := by rw [zat (by omega) (by omega)]; omega
   have ha := zur (x := X) (by omega)
   have hd2 := zsy X
   have hvn : ((v + 1 : Nat) : Int) = (v : Int) + 1 := by omega
   have hneg : IntKind.i64.wrap (0 - ((v : Int) + 1)) = -((v : Int) + 1) := by rw [zat (by omega) (by omega)]; omega
   simp -implicitDefEqProofs only [go_sem, h1v]
   rw [hwv]
   simp -implicitDefEqProofs only [go_sem, hlv]
   refine zod (by simp -implicitDefEqProofs only [go_sem]; simp) ?_
   simp -implicitDefEqProofs only [go_sem]
   rw [hwv, hvn, hst0]
   refine ⟨fun h => ?_, fun h => ?_⟩
   ·have h' : (IntKind.i64.wrap (((BitVec.ofInt 64 (X : Int) &&& BitVec.ofInt 64 1).toNat : Nat) : Int) == 1) = true := h
    rw [ha] at h'
    have hx : X % 2 = 1 := by simp at h'; omega
    rw [if_pos hx] at hst
    rw [hneg]
    simp -implicitDefEqProofs only [go_sem, List.length_set, hlv]
    refine zod (by simp -implicitDefEqProofs only [go_sem]; simp) ?_
    simp -implicitDefEqProofs only [go_sem]
    rw [hst1, hst, hd2]
    refine ⟨hbx, v, Nat.le_of_succ_le hv, Nat.lt_succ_self v, zaf ?_⟩
    simp -implicitDefEqProofs only [go_sem]
    rw [hkv, hwv2]
    exact ⟨rfl, rfl⟩
   ·have h' : (IntKind.i64.wrap (((BitVec.ofInt 64 (X : Int) &&& BitVec.ofInt 64 1).toNat : Nat) : Int) == 1) = false := h
    rw [ha] at h'
    have hx : ¬ X % 2 = 1 := by simp at h'; omega
    rw [if_neg hx] at hst
    rw [hd2]
    refine ⟨hbx, v, Nat.le_of_succ_le hv, Nat.lt_succ_self v, zaf ?_⟩
    simp -implicitDefEqProofs only [go_sem]
    rw [hkv, hst]
    exact ⟨rfl, rfl⟩
theorem zf1 (m a : List Int) (ha : ∀ l ∈ a, -9223372036854775807 <= l /\ l <= 9223372036854775807) : FC Try.prog 19 [.one (zay m), .one (zay a)] [bD (zmm m a)] := by
 refine zet (fun hw => ?_) Try.call19
 have hl : m.length <= 9223372036854775807 := by have := hw.1.1; simpa using this
 have hl2 : a.length <= 9223372036854775807 := by have := hw.2.1.1; simpa using this
 refine za3 Try.call19 Try.func19 rfl (by kernel_rfl) (zbq (by kernel_rfl)) ?_
 simp -implicitDefEqProofs only [go_sem, Try.results19]
 refine zan (fun k : Nat => hd [(0, vT (zay m)), (1, vT (zay a)), (5, vI k)] [] []) (fun k => k <= a.length /\ zmm m a = zmm m (a.drop k)) (fun k => a.length - k) 0 (zaf ?_) ?_ ?_
 ·simp -implicitDefEqProofs only [go_sem]
 ·simp
 ·intro k ⟨hk, hr⟩
  by_cases hlt : k < a.length
  ·have hwk : IntKind.i64.wrap ((k : Int) + 1) = ((k + 1 : Nat) : Int) := za2 (by omega)
   have hin := ha a[k] (List.getElem_mem hlt)
   have hn : IntKind.i64.wrap (0 - a[k]) = -a[k] := by rw [zat (by omega) (by omega)]; omega
   rw [List.drop_eq_getElem_cons hlt] at hr
   have hr : zmm m a = (!m.contains (-a[k]) && zmm m (a.drop (k + 1))) := hr
   simp -implicitDefEqProofs only [go_sem, hlt]
   refine zan (fun j : Nat => hd [(0, vT (zay m)), (1, vT (zay a)), (5, vI k), (6, vI j)] [] []) (fun j => j <= m.length /\ -a[k] ∉ m.take j) (fun j => m.length - j) 0 (zaf ?_) ?_ ?_
   ·simp -implicitDefEqProofs only [go_sem]
   ·simp
   ·intro j ⟨hj, hno⟩
    by_cases hjl : j < m.length
    ·have hwj : IntKind.i64.wrap ((j : Int) + 1) = ((j + 1 : Nat) : Int) := za2 (by omega)
     simp -implicitDefEqProofs only [go_sem, hjl, hlt]
     refine drawn (by kernel_rfl) ?_
     simp -implicitDefEqProofs only [go_sem, zaj, hjl, hlt]
     refine ⟨by kernel_rfl, ?_⟩
     rw [hwj, hn]
     refine ⟨fun h => ?_, fun h => ⟨j + 1, ⟨hjl, ?_⟩, by omega, zaf (by simp -implicitDefEqProofs only [go_sem])⟩⟩
     ·have e : m[j] = -a[k] := by simpa using h
      rw [hr, show m.contains (-a[k]) = true from by rw [<- e]; simp]; rfl
     ·exact zcl hjl hno fun e => by rw [e] at h; simp at h
    ·rw [List.take_of_length_le (by omega)] at hno
     have hf : m.contains (-a[k]) = false := by simpa using hno
     rw [hf] at hr
     have hr : zmm m a = zmm m (a.drop (k + 1)) := by rw [hr]; rfl
     simp -implicitDefEqProofs only [go_sem, hjl, hlt]
     rw [hwk]
     exact ⟨k + 1, ⟨hlt, hr⟩, by omega, zaf (by simp -implicitDefEqProofs only [go_sem])⟩
  ·simp -implicitDefEqProofs only [go_sem, hlt]
   rw [hr, List.drop_of_length_le (by omega)]; rfl
end Go.Proofs.Yteeaofpphmhjdaa
namespace Go.Proofs.Yteeaofpphmhjdaa
set_option linter.unusedSimpArgs false
set_option linter.unusedVariables false
set_option linter.unusedSectionVars false
set_option maxRecDepth 4000
open Go.RowKit
variable {P : Program} {N : Nat}
theorem zb4.cond {c : Operand} {x y : Code} {σ : St} {Q : Exit -> St -> Prop} {b : Bool} (hv : σ.get P 0 c = .one (.t (.bool b))) (ht : b = true -> zb4 P N x σ Q) (hf : b = false -> zb4 P N y σ Q) : zb4 P N (.cond c x y) σ Q := fun n0 w0 A0 g a w h1 h2 h3 h4 => by
 have hs := h1.get P 0 c
 rw [hv] at hs
 simp only [VR, CR, zah] at hs
 exact wp_cond_split hs (fun e => ht e n0 w0 A0 g a w h1 h2 h3 h4) (fun e => hf e n0 w0 A0 g a w h1 h2 h3 h4)
theorem zb4.condT {c : Operand} {x y : Code} {σ : St} {Q : Exit -> St -> Prop} (hv : σ.get P 0 c = .one (.t (.bool true))) (ht : zb4 P N x σ Q) : zb4 P N (.cond c x y) σ Q := zb4.cond hv (fun _ => ht) (fun h => by cases h)
end Go.Proofs.Yteeaofpphmhjdaa
namespace Go.Proofs.Yteeaofpphmhjdaa
set_option linter.unusedSimpArgs false
set_option linter.unusedVariables false
set_option linter.unusedSectionVars false
set_option maxRecDepth 4000
open Go.RowKit
abbrev zqv (q : Cu) : Bxs := [[(false, zmb q.code), (false, .int .i64 q.pos), (false, .int .u64 q.seed)]]
theorem zvs (b : UInt8) : IntKind.i64.wrap (b.toNat : Int) = b.toNat := by
 have := b.toNat_lt
 exact zat (by omega) (by omega)
theorem ztg (x : Int) : 0 <= (IntKind.u64.wrap x).fdiv (2 ^ 40) /\ (IntKind.u64.wrap x).fdiv (2 ^ 40) <= 18446744073709551615 := by
 have h : 0 <= IntKind.u64.wrap x /\ IntKind.u64.wrap x <= 18446744073709551615 := by
  have := I64.wrap .u64 x
  have m1 : IntKind.min .u64 = 0 := by decide
  have m2 : IntKind.max .u64 = 18446744073709551615 := by decide
  rw [m1, m2] at this; exact this
 generalize IntKind.u64.wrap x = y at h
 rw [Int.fdiv_eq_ediv_of_nonneg _ (by decide)]
 omega
theorem next_c (q : Cu) (hp : q.pos <= 1099511627776) : PC Try.prog 95 (zqv q) [.p 0] (zqv q.nx) [(true, iD q.v)] := by
 obtain ⟨code, pos, seed⟩ := q
 have hpw : IntKind.i64.wrap ((pos : Int) + 1) = ((pos + 1 : Nat) : Int) := za2 (by dsimp only at hp; omega)
 unfold Cu.v Cu.nx Cu.sd Cu.b
 dsimp only at hp ⊢
 by_cases hlt : pos < code.length
 ·have hli : ((pos : Int) < code.length) = True := by simp; omega
  have hle : (((pos + 1 : Nat) : Int) <= code.length) = True := by simp; omega
  have hg : code.getD pos 0 = code[pos] := by rw [List.getD_eq_getElem?_getD, List.getElem?_eq_getElem hlt]; rfl
  rw [if_pos hlt, if_pos (by omega), hg]
  refine zct Try.call95 Try.func95 rfl (by kernel_rfl) (by simp only [List.length_cons, List.length_nil, Try.ntmps95]; omega) (by simp only [Try.ntmps95]; omega) rfl rfl (by simp [zax, T.isPin, AF.ds, bxA]) (by simp [gFS, T.fs, T.flat, AF.ds, bxA]) rfl ?_
  simp -implicitDefEqProofs only [go_sem, Try.results95]
  refine drawn (by kernel_rfl) ?_
  simp -implicitDefEqProofs only [go_sem, hli]
  refine ⟨by kernel_rfl, ?_⟩
  refine drawn (by kernel_rfl) ?_
  simp -implicitDefEqProofs only [go_sem, hlt, zaj, zvs]
  refine ⟨by kernel_rfl, ?_⟩
  rw [hpw]
  refine drawn (by kernel_rfl) ?_
  simp -implicitDefEqProofs only [go_sem, hle]
  kernel_rfl
 ·have hli : ((pos : Int) < code.length) = False := by simp; omega
  have hle : (((pos + 1 : Nat) : Int) <= code.length) = False := by simp; omega
  rw [if_neg hlt, if_neg (by omega)]
  refine zct Try.call95 Try.func95 rfl (by kernel_rfl) (by simp only [List.length_cons, List.length_nil, Try.ntmps95]; omega) (by simp only [Try.ntmps95]; omega) rfl rfl (by simp [zax, T.isPin, AF.ds, bxA]) (by simp [gFS, T.fs, T.flat, AF.ds, bxA]) rfl ?_
  simp -implicitDefEqProofs only [go_sem, Try.results95]
  refine drawn (by kernel_rfl) ?_
  simp -implicitDefEqProofs only [go_sem, hli]
  refine ⟨by kernel_rfl, ?_⟩
  rw [hpw]
  refine drawn (by kernel_rfl) ?_
  simp -implicitDefEqProofs only [go_sem, hle]
  refine ⟨by kernel_rfl, ?_⟩
  rw [show min 40 64 = 40 from rfl]
  exact ⟨ztg _, Or.inl rfl⟩
theorem ztu (q : Cu) (hp : q.pos <= 1099511627776) (n : Int) (hn : n <= 200) : PC Try.prog 45 (zqv q) [.p 0, .d false (iD n)] (zqv (q.pick n).1) [(true, iD (q.pick n).2)] := by
 have HN := next_c q hp
 have hv := q.v_bd
 unfold Cu.pick
 by_cases h1 : n <= 1
 ·rw [if_pos h1]
  refine zct Try.call45 Try.func45 rfl (by kernel_rfl) (by simp only [List.length_cons, List.length_nil, Try.ntmps45]; omega) (by simp only [Try.ntmps45]; omega) rfl rfl (by simp [zax, T.isPin, AF.ds, bxA]) (by simp [gFS, T.fs, T.flat, AF.ds, bxA]) rfl ?_
  simp -implicitDefEqProofs only [go_sem, Try.results45, h1]
 ·have h2 : (200 < n) = False := by simp; omega
  rw [if_neg h1]
  refine zct Try.call45 Try.func45 rfl (by kernel_rfl) (by simp only [List.length_cons, List.length_nil, Try.ntmps45]; omega) (by simp only [Try.ntmps45]; omega) rfl rfl (by simp [zax, T.isPin, AF.ds, bxA]) (by simp [gFS, T.fs, T.flat, AF.ds, bxA]) rfl ?_
  simp -implicitDefEqProofs only [go_sem, Try.results45, h1]
  refine zam [1, 1000000] [8] [1000000] [] (HN) (by decide) rfl (by simp -implicitDefEqProofs only [go_sem, h2]) (by simp -implicitDefEqProofs only [go_sem, h2]) (by simp -implicitDefEqProofs only [go_sem, h2]) (by simp -implicitDefEqProofs only [go_sem, h2]) ?_
  simp -implicitDefEqProofs only [go_sem, h2]
  have ht : 0 <= q.v.tmod n /\ q.v.tmod n < n := by
   rw [Int.tmod_eq_emod_of_nonneg hv.1]
   exact ⟨Int.emod_nonneg _ (by omega), Int.emod_lt_of_pos _ (by omega)⟩
  exact ⟨by omega, by omega, by omega⟩
theorem one_c (q : Cu) (hp : q.pos <= 1099511627776) (n : Int) (hn : n <= 200) : PC Try.prog 52 (zqv q) [.p 0, .d false (iD n)] (zqv (q.pick n).1) [(true, bD ((q.pick n).2 == 0))] := by
 have HN := ztu q hp n hn
 refine zct Try.call52 Try.func52 rfl (by kernel_rfl) (by simp only [List.length_cons, List.length_nil, Try.ntmps52]; omega) (by simp only [Try.ntmps52]; omega) rfl rfl (by simp [zax, T.isPin, AF.ds, bxA]) (by simp [gFS, T.fs, T.flat, AF.ds, bxA]) rfl ?_
 simp -implicitDefEqProofs only [go_sem, Try.results52]
 refine zam [1000000] [5, 6] [1000000] [] (HN) (by decide) rfl (by simp -implicitDefEqProofs only [go_sem]) (by simp -implicitDefEqProofs only [go_sem]) (by simp -implicitDefEqProofs only [go_sem]) (by simp -implicitDefEqProofs only [go_sem]) ?_
 simp -implicitDefEqProofs only [go_sem]
abbrev zfx (code : List UInt8) (q : Cu) : Bxs := [[(false, zmb code), (false, .int .i64 q.pos), (false, .int .u64 q.seed)]]
theorem zda {code : List UInt8} {q : Cu} (hc : q.code = code) (hp : q.pos <= 1099511627776) (n : Int) (hn : n <= 200) : PC Try.prog 45 (zfx code q) [.p 0, .d false (iD n)] (zfx code (q.pick n).1) [(true, iD (q.pick n).2)] := by
 subst hc
 have h := ztu q hp n hn
 rw [show zqv (q.pick n).1 = zfx q.code (q.pick n).1 by unfold zqv; rw [q.pick_code]] at h
 exact h
theorem zjc {code : List UInt8} {q : Cu} (hc : q.code = code) (hp : q.pos <= 1099511627776) (n : Int) (hn : n <= 200) : PC Try.prog 52 (zfx code q) [.p 0, .d false (iD n)] (zfx code (q.pick n).1) [(true, bD ((q.pick n).2 == 0))] := by
 subst hc
 have h := one_c q hp n hn
 rw [show zqv (q.pick n).1 = zfx q.code (q.pick n).1 by unfold zqv; rw [q.pick_code]] at h
 exact h
theorem zk9 (q : Cu) (k : Nat) : clR q (k + 1) = if ((clR q k).1.pick 3).2 = 0 then ((((clR q k).1.pick 3).1.pick 2).1, (clR q k).2 ++ [zsf ((k : Int) + 1) ((((clR q k).1.pick 3).1.pick 2).2)]) else (((clR q k).1.pick 3).1, (clR q k).2) := rfl
theorem zgw {v x : Int} (hv : 0 <= v /\ v <= 1000) (hx : 0 <= x /\ x < 2) : IntKind.i64.wrap (v - IntKind.i64.wrap (IntKind.i64.wrap (2 * v) * x)) = zsf v x := by
 unfold zsf
 have : x = 0 \/ x = 1 := by omega
 rcases this with rfl | rfl
 ·rw [zat (n := 2 * v) (by omega) (by omega), Int.mul_zero, zat (n := 0) (by omega) (by omega), zat (by omega) (by omega)]
 ·rw [zat (n := 2 * v) (by omega) (by omega), Int.mul_one, zat (n := 2 * v) (by omega) (by omega), zat (by omega) (by omega)]
def clE (x : Cu × List Int) (n : Nat) : Cu × List Int := if x.2.take 3 = [] then
  if (x.1.pick 20).2 = 0 then ((x.1.pick 20).1, [])
  else (((((x.1.pick 20).1.pick n).1.pick 2).1), [zsf (1 + ((x.1.pick 20).1.pick n).2) (((x.1.pick 20).1.pick n).1.pick 2).2])
 else (x.1, x.2.take 3)
set_option maxHeartbeats 1000000 in
theorem zht (code : List UInt8) (q : Cu) (hcd : q.code = code) (n : Nat) (hp : q.pos <= 549755813888) (h1 : 1 <= n) (hn : n <= 100) (h3 : (clR q n).2.length <= 3) : PC Try.prog 53 (zfx code q) [.p 0, .d false (iD n)] (zfx code (clD q n).1) [(true, .one (zay (clD q n).2))] := by
 obtain ⟨R, hR⟩ : ∃ R, clD q n = R := ⟨_, rfl⟩
 have hE : clE (clR q n) n = R := hR
 rw [hR]
 refine zct Try.call53 Try.func53 rfl (by kernel_rfl) (by simp only [List.length_cons, List.length_nil, Try.ntmps53]; omega) (by simp only [Try.ntmps53]; omega) rfl rfl (by simp [zax, T.isPin, AF.ds, bxA]) (by simp [gFS, T.fs, T.flat, AF.ds, bxA]) rfl ?_
 simp -implicitDefEqProofs only [go_sem, Try.results53]
 refine zas (by simp -implicitDefEqProofs only [go_sem]) ?_
 simp -implicitDefEqProofs only [go_sem]
 refine zan (fun k : Nat => hd [(0, .one (.bx 1000000 0)), (1, vI n), (5, .one (.ow 256 (clR q k).2.length)), (6, vI ((k : Int) + 1)), (1000000, .one (.bx 1000000 0))] [(1000000, [.rn (zmb code), .t (.int .i64 (clR q k).1.pos), .t (.int .u64 (clR q k).1.seed)])] [(256, ⟨true, 1, (clR q k).2.map fun s => [.int .i64 s], (clR q k).2.length, true⟩)]) (fun k => k <= n) (fun k => n - k) 0 (zaf ?_) (Nat.zero_le _) ?_
 ·simp -implicitDefEqProofs only [go_sem]
  exact ⟨⟨rfl, rfl⟩, rfl⟩
 ·intro k hk
  obtain ⟨g1, g2, g3, g4⟩ := zgu q k
  rw [hcd] at g3
  have hs := zk9 q k
  by_cases hlt : k < n
  ·have hle : ((k : Int) + 1 <= n) = True := by simp; omega
   generalize clR q k = x at g1 g2 g3 g4 hs
   obtain ⟨Q, o⟩ := x
   simp only at g1 g2 g3 g4 hs
   have H1 := zjc g3 (by omega) 3 (by omega)
   have hpk := Q.pick_pos 3
   have hck := (Q.pick_code 3).trans g3
   have hwk : IntKind.i64.wrap ((k : Int) + 1 + 1) = ((k + 1 : Nat) : Int) + 1 := by rw [zat (by omega) (by omega)]; omega
   by_cases h0 : (Q.pick 3).2 = 0
   ·rw [if_pos h0] at hs
    rw [show ((Q.pick 3).2 == 0) = true by simpa using h0] at H1
    have H2 := zda hck (by omega) 2 (by omega)
    have hb2 := (Q.pick 3).1.pick_bd (n := 2) (by omega)
    have hlw := zgw (v := (k : Int) + 1) (by omega) hb2
    have hol : o.length <= 4294967295 := by omega
    simp -implicitDefEqProofs only [go_sem, hle]
    refine zam [0, 1, 5, 6, 1000000] [14] [1000000] [] (H1) (by decide) rfl (by simp -implicitDefEqProofs only [go_sem]) (by simp -implicitDefEqProofs only [go_sem]) (by simp -implicitDefEqProofs only [go_sem]) (by simp -implicitDefEqProofs only [go_sem]) ?_
    simp -implicitDefEqProofs only [go_sem]
    refine zam [0, 1, 5, 6, 16, 17, 19, 1000000] [20] [1000000] [] (H2) (by decide) rfl (by simp -implicitDefEqProofs only [go_sem]) (by simp -implicitDefEqProofs only [go_sem]) (by simp -implicitDefEqProofs only [go_sem]) (by simp -implicitDefEqProofs only [go_sem]) ?_
    simp -implicitDefEqProofs only [go_sem]
    rw [hlw]
    refine zas (by simp -implicitDefEqProofs only [go_sem]) ?_
    simp -implicitDefEqProofs only [go_sem]
    refine apD true (by simp -implicitDefEqProofs only [go_sem, ne_eq, List.length_map, hol]) ?_
    simp -implicitDefEqProofs only [go_sem, ne_eq, List.length_map, hol]
    refine ⟨k + 1, hlt, by omega, zaf ?_⟩
    simp -implicitDefEqProofs only [go_sem]
    rw [hwk, hs]
    exact ⟨rfl, ⟨rfl, rfl⟩, by rw [List.map_append]; rfl⟩
   ·rw [if_neg h0] at hs
    rw [show ((Q.pick 3).2 == 0) = false by simpa using h0] at H1
    simp -implicitDefEqProofs only [go_sem, hle]
    refine zam [0, 1, 5, 6, 1000000] [14] [1000000] [] (H1) (by decide) rfl (by simp -implicitDefEqProofs only [go_sem]) (by simp -implicitDefEqProofs only [go_sem]) (by simp -implicitDefEqProofs only [go_sem]) (by simp -implicitDefEqProofs only [go_sem]) ?_
    simp -implicitDefEqProofs only [go_sem]
    refine ⟨k + 1, hlt, by omega, zaf ?_⟩
    simp -implicitDefEqProofs only [go_sem]
    rw [hwk, hs]
    exact ⟨rfl, ⟨rfl, rfl⟩, rfl⟩
  ·have hle : ((k : Int) + 1 <= n) = False := by simp; omega
   have hkn : k = n := by omega
   subst hkn
   generalize clR q k = x at g1 g2 g3 g4 h3 hE
   obtain ⟨Q, o⟩ := x
   simp only at g1 g2 g3 g4 h3 hE
   have ht3 : o.take 3 = o := List.take_of_length_le h3
   unfold clE at hE
   simp only [ht3] at hE
   have hl3 : ((3 : Int) < o.length) = False := by simp; omega
   by_cases hnil : o = []
   ·subst hnil
    rw [if_pos rfl] at hE
    have H1 := zjc g3 (by omega) 20 (by omega)
    have hpk := Q.pick_pos 20
    have hck := (Q.pick_code 20).trans g3
    by_cases h0 : (Q.pick 20).2 = 0
    ·rw [if_pos h0] at hE
     subst hE
     rw [show ((Q.pick 20).2 == 0) = true by simpa using h0] at H1
     simp -implicitDefEqProofs only [go_sem, hle, hl3]
     refine zam [0, 1, 5, 34, 1000000] [35] [1000000] [] (H1) (by decide) rfl (by simp -implicitDefEqProofs only [go_sem]) (by simp -implicitDefEqProofs only [go_sem]) (by simp -implicitDefEqProofs only [go_sem]) (by simp -implicitDefEqProofs only [go_sem]) ?_
     simp -implicitDefEqProofs only [go_sem]
    ·rw [if_neg h0] at hE
     subst hE
     rw [show ((Q.pick 20).2 == 0) = false by simpa using h0] at H1
     have H2 := zda hck (by omega) k (by omega)
     have hb2 := (Q.pick 20).1.pick_bd (n := k) (by omega)
     have hpk2 := (Q.pick 20).1.pick_pos k
     have hck2 := ((Q.pick 20).1.pick_code k).trans hck
     have H3 := zda hck2 (by omega) 2 (by omega)
     have hb3 := ((Q.pick 20).1.pick k).1.pick_bd (n := 2) (by omega)
     have hlw := zgw (v := 1 + ((Q.pick 20).1.pick k).2) (by omega) hb3
     have hw1 : IntKind.i64.wrap (1 + ((Q.pick 20).1.pick k).2) = 1 + ((Q.pick 20).1.pick k).2 := zat (by omega) (by omega)
     simp -implicitDefEqProofs only [go_sem, hle, hl3]
     refine zam [0, 1, 5, 34, 1000000] [35] [1000000] [] (H1) (by decide) rfl (by simp -implicitDefEqProofs only [go_sem]) (by simp -implicitDefEqProofs only [go_sem]) (by simp -implicitDefEqProofs only [go_sem]) (by simp -implicitDefEqProofs only [go_sem]) ?_
     simp -implicitDefEqProofs only [go_sem]
     refine zam [0, 1, 5, 1000000] [39, 40] [1000000] [] (H2) (by decide) rfl (by simp -implicitDefEqProofs only [go_sem]) (by simp -implicitDefEqProofs only [go_sem]) (by simp -implicitDefEqProofs only [go_sem]) (by simp -implicitDefEqProofs only [go_sem]) ?_
     simp -implicitDefEqProofs only [go_sem]
     rw [hw1]
     refine zam [0, 1, 5, 43, 44, 46, 1000000] [47] [1000000] [] (H3) (by decide) rfl (by simp -implicitDefEqProofs only [go_sem]) (by simp -implicitDefEqProofs only [go_sem]) (by simp -implicitDefEqProofs only [go_sem]) (by simp -implicitDefEqProofs only [go_sem]) ?_
     simp -implicitDefEqProofs only [go_sem]
     rw [hlw]
     refine zas (by simp -implicitDefEqProofs only [go_sem]) ?_
     simp -implicitDefEqProofs only [go_sem]
     refine apD true (by simp -implicitDefEqProofs only [go_sem, ne_eq]) ?_
     simp -implicitDefEqProofs only [go_sem, ne_eq]
   ·rw [if_neg hnil] at hE
    subst hE
    have hl0 : ((o.length : Int) == 0) = false := by
     rw [beq_eq_false_iff_ne]
     have : o.length ≠ 0 := fun e => hnil (List.length_eq_zero_iff.1 e)
     omega
    simp -implicitDefEqProofs only [go_sem, hle, hl3, hl0]
set_option maxHeartbeats 1000000 in
theorem zh7 (code : List UInt8) (q : Cu) (hcd : q.code = code) (n : Nat) (hp : q.pos <= 549755813888) (h1 : 1 <= n) (hn : n <= 100) (h3 : 3 < (clR q n).2.length) : PC Try.prog 53 (zfx code q) [.p 0, .d false (iD n)] (zfx code (clD q n).1) [(true, .one (zay (clD q n).2))] := by
 obtain ⟨R, hR⟩ : ∃ R, clD q n = R := ⟨_, rfl⟩
 have hE : clE (clR q n) n = R := hR
 rw [hR]
 refine ztn Try.call53 Try.func53 rfl (by simp only [List.length_cons, List.length_nil, Try.ntmps53]; omega) (by simp only [Try.ntmps53]; omega) rfl rfl (by simp [zax, T.isPin, AF.ds, bxA]) (by simp [gFS, T.fs, T.flat, AF.ds, bxA]) rfl ?_
 refine zb4.cut 2 rfl (by kernel_rfl) ?_
 simp -implicitDefEqProofs only [go_sem, Try.results53]
 refine zas (by simp -implicitDefEqProofs only [go_sem]) ?_
 simp -implicitDefEqProofs only [go_sem]
 refine zan (fun k : Nat => hd [(0, .one (.bx 1000000 0)), (1, vI n), (5, .one (.ow 256 (clR q k).2.length)), (6, vI ((k : Int) + 1)), (1000000, .one (.bx 1000000 0))] [(1000000, [.rn (zmb code), .t (.int .i64 (clR q k).1.pos), .t (.int .u64 (clR q k).1.seed)])] [(256, ⟨true, 1, (clR q k).2.map fun s => [.int .i64 s], (clR q k).2.length, true⟩)]) (fun k => k <= n) (fun k => n - k) 0 (zaf ?_) (Nat.zero_le _) ?_
 ·simp -implicitDefEqProofs only [go_sem]
  exact ⟨⟨rfl, rfl⟩, rfl⟩
 ·intro k hk
  obtain ⟨g1, g2, g3, g4⟩ := zgu q k
  rw [hcd] at g3
  have hs := zk9 q k
  by_cases hlt : k < n
  ·have hle : ((k : Int) + 1 <= n) = True := by simp; omega
   generalize clR q k = x at g1 g2 g3 g4 hs
   obtain ⟨Q, o⟩ := x
   simp only at g1 g2 g3 g4 hs
   have H1 := zjc g3 (by omega) 3 (by omega)
   have hpk := Q.pick_pos 3
   have hck := (Q.pick_code 3).trans g3
   have hwk : IntKind.i64.wrap ((k : Int) + 1 + 1) = ((k + 1 : Nat) : Int) + 1 := by rw [zat (by omega) (by omega)]; omega
   by_cases h0 : (Q.pick 3).2 = 0
   ·rw [if_pos h0] at hs
    rw [show ((Q.pick 3).2 == 0) = true by simpa using h0] at H1
    have H2 := zda hck (by omega) 2 (by omega)
    have hb2 := (Q.pick 3).1.pick_bd (n := 2) (by omega)
    have hlw := zgw (v := (k : Int) + 1) (by omega) hb2
    have hol : o.length <= 4294967295 := by omega
    simp -implicitDefEqProofs only [go_sem, hle]
    refine zam [0, 1, 5, 6, 1000000] [14] [1000000] [] (H1) (by decide) rfl (by simp -implicitDefEqProofs only [go_sem]) (by simp -implicitDefEqProofs only [go_sem]) (by simp -implicitDefEqProofs only [go_sem]) (by simp -implicitDefEqProofs only [go_sem]) ?_
    simp -implicitDefEqProofs only [go_sem]
    refine zam [0, 1, 5, 6, 16, 17, 19, 1000000] [20] [1000000] [] (H2) (by decide) rfl (by simp -implicitDefEqProofs only [go_sem]) (by simp -implicitDefEqProofs only [go_sem]) (by simp -implicitDefEqProofs only [go_sem]) (by simp -implicitDefEqProofs only [go_sem]) ?_
    simp -implicitDefEqProofs only [go_sem]
    rw [hlw]
    refine zas (by simp -implicitDefEqProofs only [go_sem]) ?_
    simp -implicitDefEqProofs only [go_sem]
    refine apD true (by simp -implicitDefEqProofs only [go_sem, ne_eq, List.length_map, hol]) ?_
    simp -implicitDefEqProofs only [go_sem, ne_eq, List.length_map, hol]
    refine ⟨k + 1, hlt, by omega, zaf ?_⟩
    simp -implicitDefEqProofs only [go_sem]
    rw [hwk, hs]
    exact ⟨rfl, ⟨rfl, rfl⟩, by rw [List.map_append]; rfl⟩
   ·rw [if_neg h0] at hs
    rw [show ((Q.pick 3).2 == 0) = false by simpa using h0] at H1
    simp -implicitDefEqProofs only [go_sem, hle]
    refine zam [0, 1, 5, 6, 1000000] [14] [1000000] [] (H1) (by decide) rfl (by simp -implicitDefEqProofs only [go_sem]) (by simp -implicitDefEqProofs only [go_sem]) (by simp -implicitDefEqProofs only [go_sem]) (by simp -implicitDefEqProofs only [go_sem]) ?_
    simp -implicitDefEqProofs only [go_sem]
    refine ⟨k + 1, hlt, by omega, zaf ?_⟩
    simp -implicitDefEqProofs only [go_sem]
    rw [hwk, hs]
    exact ⟨rfl, ⟨rfl, rfl⟩, rfl⟩
  ·have hle : ((k : Int) + 1 <= n) = False := by simp; omega
   have hkn : k = n := by omega
   subst hkn
   generalize clR q k = x at g1 g2 g3 g4 h3 hE
   obtain ⟨Q, o⟩ := x
   simp only at g1 g2 g3 g4 h3 hE
   unfold clE at hE
   have hl3 : ((3 : Int) < o.length) = True := by simp; omega
   have hne : (o.take 3).length = 3 := by rw [List.length_take]; omega
   rw [if_neg (fun e => by simp only at e; rw [e] at hne; cases hne)] at hE
   subst hE
   have hdt : decide ((3 : Int) < (o.length : Int)) = true := by rw [decide_eq_true_eq]; omega
   simp -implicitDefEqProofs only [go_sem, hle]
   refine zb4.seq ?_
   refine zb4.cut 0 rfl (by kernel_rfl) ?_
   simp -implicitDefEqProofs only [go_sem, hl3]
   refine zb4.condT (by simp -implicitDefEqProofs only [go_sem, hdt]) ?_
   refine zb4.cutO 1 rfl rfl rfl rfl (by kernel_rfl) (by simp only [Try.ntmps53]; omega) (el := 3) (by kernel_rfl) (by kernel_rfl) ?_
   simp -implicitDefEqProofs only [go_sem, List.take_succ_cons, List.take_zero]
   refine ⟨by omega, ?_⟩
   have hl0 : ((List.length (List.take 3 o) : Int) == 0) = false := by rw [hne]; rfl
   rw [<- List.map_take]
   refine zb4.ofEx (by kernel_rfl) ?_
   simp -implicitDefEqProofs only [go_sem, List.length_map, hl0]
   skip
end Go.Proofs.Yteeaofpphmhjdaa
namespace Go.Proofs.Yteeaofpphmhjdaa
set_option linter.unusedSimpArgs false
set_option linter.unusedVariables false
set_option linter.unusedSectionVars false
set_option maxRecDepth 4000
open Go.RowKit
theorem zbo {code : List UInt8} {q : Cu} (hc : q.code = code) (n : Nat) (hp : q.pos <= 549755813888) (h1 : 1 <= n) (hn : n <= 100) : PC Try.prog 53 (zfx code q) [.p 0, .d false (iD n)] (zfx code (clD q n).1) [(true, .one (zay (clD q n).2))] := by
 by_cases h3 : (clR q n).2.length <= 3
 ·exact zht code q hc n hp h1 hn h3
 ·exact zh7 code q hc n hp h1 hn (by omega)
structure DrS (code : List UInt8) (b m k : Nat) (x : Cu × List (List Int)) : Prop where
 code : x.1.code = code
 pos : x.1.pos + k * b <= 274877910000
 len : x.2.length + k * m <= 2000
theorem DrS.put {code : List UInt8} {b m k n : Nat} {x : Cu × List (List Int)} (h : DrS code b m (k + 1) x) (hb : 2 * n + 3 <= b) (hm : 1 <= m) : DrS code b m k ((clD x.1 n).1, x.2 ++ [(clD x.1 n).2]) := by
 obtain ⟨p1, p2, p3, p4⟩ := zd4 x.1 n
 have h1 := h.pos
 have h2 := h.len
 rw [Nat.add_mul] at h1 h2
 exact ⟨p3.trans h.code, by dsimp only; omega, by simp; omega⟩
set_option maxHeartbeats 1000000 in
theorem zn4 {code : List UInt8} {q : Cu} (hc : q.code = code) (hp : q.pos <= 274877906944) : PC Try.prog 94 (zfx code q) [.p 0] (zfx code (zb2 q).1) [(true, .one (zbi (zb2 q).2))] := by
 have H1 := zda hc (by omega) 4 (by omega)
 have b1 := q.pick_bd (n := 4) (by omega)
 have p1 := q.pick_pos 4
 have c1 := (q.pick_code 4).trans hc
 have H2 := zda c1 (by omega) 7 (by omega)
 have b2 := (q.pick 4).1.pick_bd (n := 7) (by omega)
 have p2 := (q.pick 4).1.pick_pos 7
 have c2 := ((q.pick 4).1.pick_code 7).trans c1
 have hS : zb2 q = zjg (2 + (q.pick 4).2.toNat) ((zde (2 + (q.pick 4).2.toNat) (1 + ((q.pick 4).1.pick 7).2.toNat) (((q.pick 4).1.pick 7).1, [])).1.pick 14).2.toNat
  (((zde (2 + (q.pick 4).2.toNat) (1 + ((q.pick 4).1.pick 7).2.toNat) (((q.pick 4).1.pick 7).1, [])).1.pick 14).1, (zde (2 + (q.pick 4).2.toNat) (1 + ((q.pick 4).1.pick 7).2.toNat) (((q.pick 4).1.pick 7).1, [])).2) := rfl
 generalize (q.pick 4).1.pick 7 = a2 at H2 b2 p2 c2 hS
 obtain ⟨Q2, y⟩ := a2
 generalize hn : 2 + (q.pick 4).2.toNat = n at hS
 have hw1 : IntKind.i64.wrap (2 + (q.pick 4).2) = (n : Int) := by rw [zat (by omega) (by omega)]; omega
 simp only at b2 p2 c2 hS H2
 generalize hK : 1 + y.toNat = K at hS
 have hw2 : IntKind.i64.wrap (1 + y) = (K : Int) := by rw [zat (by omega) (by omega)]; omega
 generalize zb2 q = R at hS ⊢
 generalize hR1 : zde n K (Q2, []) = R1 at hS
 refine zct Try.call94 Try.func94 rfl (by kernel_rfl) (by simp only [List.length_cons, List.length_nil, Try.ntmps94]; omega) (by simp only [Try.ntmps94]; omega) rfl rfl (by simp [zax, T.isPin, AF.ds, bxA]) (by simp [gFS, T.fs, T.flat, AF.ds, bxA]) rfl ?_
 simp -implicitDefEqProofs only [go_sem, Try.results94]
 refine zas (by simp -implicitDefEqProofs only [go_sem]) ?_
 simp -implicitDefEqProofs only [go_sem]
 refine zam [0, 3, 1000000] [8] [1000000] [] (H1) (by decide) rfl (by simp -implicitDefEqProofs only [go_sem]) (by simp -implicitDefEqProofs only [go_sem]) (by simp -implicitDefEqProofs only [go_sem]) (by simp -implicitDefEqProofs only [go_sem]) ?_
 simp -implicitDefEqProofs only [go_sem]
 rw [hw1]
 refine zam [0, 3, 4, 1000000] [11] [1000000] [] (H2) (by decide) rfl (by simp -implicitDefEqProofs only [go_sem]) (by simp -implicitDefEqProofs only [go_sem]) (by simp -implicitDefEqProofs only [go_sem]) (by simp -implicitDefEqProofs only [go_sem]) ?_
 simp -implicitDefEqProofs only [go_sem]
 rw [hw2]
 refine zan (fun x : Nat × (Cu × List (List Int)) => hd [(0, .one (.bx 1000000 0)), (3, .one (.ow 224 x.2.2.length)), (4, vI n), (5, vI x.1), (1000000, .one (.bx 1000000 0))] [(1000000, [.rn (zmb code), .t (.int .i64 x.2.1.pos), .t (.int .u64 x.2.1.seed)])] [(224, ⟨true, 1, x.2.2.map fun s => [zay s], x.2.2.length, true⟩)]) (fun x => zde n x.1 x.2 = R1 /\ DrS code 30 2 (x.1 + 50) x.2) (fun x => x.1) (K, (Q2, [])) (zaf ?_) ?_ ?_
 ·simp -implicitDefEqProofs only [go_sem]
 ·exact ⟨hR1, c2, by dsimp only; omega, by simp; omega⟩
 ·rintro ⟨k, x⟩ ⟨hr, hD⟩
  simp only at hr hD
  cases k with
  | succ k =>
   rw [zde] at hr
   have hgt : ((0 : Int) < ((k + 1 : Nat) : Int)) = True := by simp
   have hwk : IntKind.i64.wrap (((k + 1 : Nat) : Int) - 1) = (k : Int) := by have := hD.len; rw [zat (by omega) (by omega)]; omega
   have hD' := hD.put (n := n) (k := k + 50) (by omega) (by omega)
   have HC := zbo hD.code n (by have := hD.pos; omega) (by omega) (by omega)
   have hol : x.2.length <= 4294967295 := by have := hD.len; omega
   obtain ⟨Q, S⟩ := x
   simp only at hr hD hD' HC hol
   simp -implicitDefEqProofs only [go_sem, hgt]
   refine zam [0, 3, 4, 5, 18, 1000000] [19, 20] [1000000] [] (HC) (by decide) rfl (by simp -implicitDefEqProofs only [go_sem]) (by simp -implicitDefEqProofs only [go_sem]) (by simp -implicitDefEqProofs only [go_sem]) (by simp -implicitDefEqProofs only [go_sem]) ?_
   simp -implicitDefEqProofs only [go_sem]
   refine zas (by simp -implicitDefEqProofs only [go_sem]) ?_
   simp -implicitDefEqProofs only [go_sem]
   refine apD true (by simp -implicitDefEqProofs only [go_sem, ne_eq, List.length_map, hol]) ?_
   simp -implicitDefEqProofs only [go_sem, ne_eq, List.length_map, hol]
   refine ⟨(k, ((clD Q n).1, S ++ [(clD Q n).2])), ⟨hr, hD'⟩, by simp only; omega, zaf ?_⟩
   simp -implicitDefEqProofs only [go_sem]
   rw [hwk, List.map_append]
   exact ⟨rfl, rfl⟩
  | zero =>
   have hr : x = R1 := hr
   subst hr
   have hgt : ((0 : Int) < ((0 : Nat) : Int)) = False := by simp
   have H3 := zda hD.code (by have := hD.pos; omega) 14 (by omega)
   have b3 := x.1.pick_bd (n := 14) (by omega)
   have p3 := x.1.pick_pos 14
   have c3 := (x.1.pick_code 14).trans hD.code
   obtain ⟨z, hz⟩ : ∃ z : Nat, (x.1.pick 14).2 = z := ⟨(x.1.pick 14).2.toNat, by omega⟩
   rw [hz] at H3 b3 hS
   rw [Int.toNat_natCast] at hS
   have hd0 := hD.pos
   have hd1 := hD.len
   obtain ⟨Q, S⟩ := x
   simp only at H3 p3 c3 hz hS hd0 hd1
   generalize (Q.pick 14).1 = Q3 at H3 p3 c3 hS
   simp -implicitDefEqProofs only [go_sem, hgt]
   refine zam [0, 3, 4, 1000000] [24] [1000000] [] (H3) (by decide) rfl (by simp -implicitDefEqProofs only [go_sem]) (by simp -implicitDefEqProofs only [go_sem]) (by simp -implicitDefEqProofs only [go_sem]) (by simp -implicitDefEqProofs only [go_sem]) ?_
   simp -implicitDefEqProofs only [go_sem]
   refine zan (fun x : Nat × (Cu × List (List Int)) => hd [(0, .one (.bx 1000000 0)), (3, .one (.ow 224 x.2.2.length)), (4, vI n), (6, vI x.1), (1000000, .one (.bx 1000000 0))] [(1000000, [.rn (zmb code), .t (.int .i64 x.2.1.pos), .t (.int .u64 x.2.1.seed)])] [(224, ⟨true, 1, x.2.2.map fun s => [zay s], x.2.2.length, true⟩)]) (fun x => zjg n x.1 x.2 = R /\ DrS code 40 2 (x.1 + 10) x.2) (fun x => x.1) (z, (Q3, S)) (zaf ?_) ?_ ?_
   ·simp -implicitDefEqProofs only [go_sem]
   ·exact ⟨hS.symm, c3, by dsimp only; omega, by dsimp only; omega⟩
   ·rintro ⟨k, x⟩ ⟨hr, hD⟩
    simp only at hr hD
    cases k with
    | succ k =>
     rw [zjg] at hr
     have hgt : ((0 : Int) < ((k + 1 : Nat) : Int)) = True := by simp
     have hwk : IntKind.i64.wrap (((k + 1 : Nat) : Int) - 1) = (k : Int) := by have := hD.len; rw [zat (by omega) (by omega)]; omega
     have H4 := zjc hD.code (by have := hD.pos; omega) 2 (by omega)
     have p4 := x.1.pick_pos 2
     have c4 := (x.1.pick_code 2).trans hD.code
     have e0 := hD.pos
     have e1 := hD.len
     obtain ⟨Q, S⟩ := x
     simp only at hr H4 p4 c4 e0 e1
     by_cases h0 : (Q.pick 2).2 = 0
     ·rw [if_pos h0] at hr
      rw [show ((Q.pick 2).2 == 0) = true by simpa using h0] at H4
      generalize (Q.pick 2).1 = Q4 at H4 p4 c4 hr
      have HC := zbo c4 n (by omega) (by omega) (by omega)
      obtain ⟨u1, u2, u3, u4⟩ := zd4 Q4 n
      have HD := zbo (u3.trans c4) 2 (by omega) (by omega) (by omega)
      obtain ⟨v1, v2, v3, v4⟩ := zd4 (clD Q4 n).1 2
      have hol : S.length <= 4294967294 := by omega
      have hol1 : S.length <= 4294967295 := by omega
      have hol2 : S.length + 1 <= 4294967295 := by omega
      generalize clD Q4 n = C1 at HC u1 u2 u3 u4 HD v1 v2 v3 v4 hr
      obtain ⟨Q5, s1⟩ := C1
      simp only at HC u1 u2 u3 u4 HD v1 v2 v3 v4 hr
      generalize clD Q5 2 = C2 at HD v1 v2 v3 v4 hr
      obtain ⟨Q6, s2⟩ := C2
      simp only at HD v1 v2 v3 v4 hr
      simp -implicitDefEqProofs only [go_sem, hgt]
      refine zam [0, 3, 4, 6, 28, 1000000] [29] [1000000] [] (H4) (by decide) rfl (by simp -implicitDefEqProofs only [go_sem]) (by simp -implicitDefEqProofs only [go_sem]) (by simp -implicitDefEqProofs only [go_sem]) (by simp -implicitDefEqProofs only [go_sem]) ?_
      simp -implicitDefEqProofs only [go_sem]
      refine zam [0, 3, 4, 6, 34, 1000000] [35, 36] [1000000] [] (HC) (by decide) rfl (by simp -implicitDefEqProofs only [go_sem]) (by simp -implicitDefEqProofs only [go_sem]) (by simp -implicitDefEqProofs only [go_sem]) (by simp -implicitDefEqProofs only [go_sem]) ?_
      simp -implicitDefEqProofs only [go_sem]
      refine zas (by simp -implicitDefEqProofs only [go_sem]) ?_
      simp -implicitDefEqProofs only [go_sem]
      refine apD true (by simp -implicitDefEqProofs only [go_sem, ne_eq, List.length_map, hol1]) ?_
      simp -implicitDefEqProofs only [go_sem, ne_eq, List.length_map, hol1]
      refine zam [0, 3, 4, 6, 40, 1000000] [41] [1000000] [] (HD) (by decide) rfl (by simp -implicitDefEqProofs only [go_sem]) (by simp -implicitDefEqProofs only [go_sem]) (by simp -implicitDefEqProofs only [go_sem]) (by simp -implicitDefEqProofs only [go_sem]) ?_
      simp -implicitDefEqProofs only [go_sem]
      refine zas (by simp -implicitDefEqProofs only [go_sem]) ?_
      simp -implicitDefEqProofs only [go_sem]
      refine apD true (by simp -implicitDefEqProofs only [go_sem, ne_eq, List.length_map, List.length_append, List.length_cons, List.length_nil, hol2]) ?_
      simp -implicitDefEqProofs only [go_sem, ne_eq, List.length_map, List.length_append, List.length_cons, List.length_nil, hol2]
      refine ⟨(k, (Q6, S ++ [s1] ++ [s2])), ⟨hr, v3.trans (u3.trans c4), ?_, ?_⟩, by simp only; omega, zaf ?_⟩
      ·dsimp only; rw [Nat.add_mul] at e0 ⊢; omega
      ·simp; omega
      ·simp -implicitDefEqProofs only [go_sem]
       rw [hwk, List.map_append, List.map_append]
       exact ⟨rfl, rfl⟩
     ·rw [if_neg h0] at hr
      subst hr
      rw [show ((Q.pick 2).2 == 0) = false by simpa using h0] at H4
      simp -implicitDefEqProofs only [go_sem, hgt]
      refine zam [0, 3, 4, 6, 28, 1000000] [29] [1000000] [] (H4) (by decide) rfl (by simp -implicitDefEqProofs only [go_sem]) (by simp -implicitDefEqProofs only [go_sem]) (by simp -implicitDefEqProofs only [go_sem]) (by simp -implicitDefEqProofs only [go_sem]) ?_
      simp -implicitDefEqProofs only [go_sem]
    | zero =>
     have hr : x = R := hr
     subst hr
     have hgt : ((0 : Int) < ((0 : Nat) : Int)) = False := by simp
     simp -implicitDefEqProofs only [go_sem, hgt]
end Go.Proofs.Yteeaofpphmhjdaa
namespace Go.Proofs.Yteeaofpphmhjdaa
set_option linter.unusedSimpArgs false
set_option linter.unusedVariables false
set_option linter.unusedSectionVars false
set_option maxRecDepth 4000
open Go.RowKit
theorem zvm {code : List UInt8} {q : Cu} (hc : q.code = code) (hp : q.pos <= 1099511627776) (l : List Int) (hl : 1 <= l.length) (hn : l.length <= 200) : PC Try.prog 70 (zfx code q) [.p 0, .d true (.one (zay l))] (zfx code (zmk q l).1) [(true, iD (zmk q l).2)] := by
 have HN := zda hc hp l.length (by omega)
 have hb := q.pick_bd (n := l.length) (by omega)
 unfold zmk
 obtain ⟨j, hj⟩ : ∃ j : Nat, (q.pick l.length).2 = j := ⟨(q.pick l.length).2.toNat, by omega⟩
 have hjl : j < l.length := by omega
 rw [hj] at HN ⊢
 refine zct Try.call70 Try.func70 rfl (by kernel_rfl) (by simp only [List.length_cons, List.length_nil, Try.ntmps70]; omega) (by simp only [Try.ntmps70]; omega) rfl rfl (by simp [zax, T.isPin, AF.ds, bxA]) (by simp [gFS, T.fs, T.flat, AF.ds, bxA]) rfl ?_
 simp -implicitDefEqProofs only [go_sem, Try.results70]
 refine zam [5, 1000000] [6, 8] [1000000] [] (HN) (by decide) rfl (by simp -implicitDefEqProofs only [go_sem, hjl, zaj]) (by simp -implicitDefEqProofs only [go_sem, hjl, zaj]) (by simp -implicitDefEqProofs only [go_sem, hjl, zaj]) (by simp -implicitDefEqProofs only [go_sem, hjl, zaj]) ?_
 simp -implicitDefEqProofs only [go_sem, hjl, zaj]
 exact Or.inl (by rw [List.getD_eq_getElem?_getD, List.getElem?_eq_getElem hjl]; rfl)
def anyE (y : Cu × Int) (S : List (List Int)) : Cu × List (List Int) :=
 if y.2 = 0 then ((zmk y.1 [0, 13, -13]).1, S ++ [[(zmk y.1 [0, 13, -13]).2]])
 else if y.2 = 1 then (y.1, S ++ [[2, 1]])
 else if y.2 = 2 then (y.1, S ++ [[1, -1]])
 else if y.2 = 3 then zi9 (42 - S.length) (y.1, S)
 else if y.2 = 4 then (y.1, S ++ [[12], [-12, 7]])
 else (y.1, S)
theorem zup (q : Cu) : zse q = anyE ((zb2 q).1.pick 30) (zb2 q).2 := rfl
set_option maxHeartbeats 1000000 in
theorem zq9 {code : List UInt8} {q : Cu} (hc : q.code = code) (hp : q.pos <= 137438953472) : PC Try.prog 44 (zfx code q) [.p 0] (zfx code (zse q).1) [(true, .one (zbi (zse q).2))] := by
 have H0 := zn4 hc (by omega)
 have hg := zn9 q
 have hpos := hg.pos
 have hcd := hg.code.trans hc
 have hlen := hg.len
 have hA := zup q
 generalize zse q = R at hA ⊢
 generalize zb2 q = x at H0 hpos hcd hlen hA
 obtain ⟨Q, S⟩ := x
 simp only at H0 hpos hcd hlen hA
 have H1 := zda hcd (by omega) 30 (by omega)
 have b1 := Q.pick_bd (n := 30) (by omega)
 have p1 := Q.pick_pos 30
 have c1 := (Q.pick_code 30).trans hcd
 generalize Q.pick 30 = y at H1 b1 p1 c1 hA
 obtain ⟨Q1, z⟩ := y
 simp only at H1 b1 p1 c1
 unfold anyE at hA
 simp only at hA
 have hol : S.length <= 4294967295 := by omega
 have hol2 : S.length <= 4294967294 := by omega
 have hg0 : ¬ S.length = 4294967295 := by omega
 by_cases h0 : z = 0
 ·rw [if_pos h0] at hA
  subst h0 hA
  have H2 : PC Try.prog 70 (zfx code Q1) [.p 0, .d true (.one (.sl 1 [[.int .i64 0], [.int .i64 13], [.int .i64 (-13)]]))] (zfx code (zmk Q1 [0, 13, -13]).1) [(true, iD (zmk Q1 [0, 13, -13]).2)] := zvm c1 (by omega) [0, 13, -13] (by simp) (by simp)
  generalize zmk Q1 [0, 13, -13] = v at H2 ⊢
  obtain ⟨Q2, u⟩ := v
  simp only at H2 ⊢
  refine zct Try.call44 Try.func44 rfl (by kernel_rfl) (by simp only [List.length_cons, List.length_nil, Try.ntmps44]; omega) (by simp only [Try.ntmps44]; omega) rfl rfl (by simp [zax, T.isPin, AF.ds, bxA]) (by simp [gFS, T.fs, T.flat, AF.ds, bxA]) rfl ?_
  simp -implicitDefEqProofs only [go_sem, Try.results44]
  refine zam [0, 1000000] [4] [1000000] [] (H0) (by decide) rfl (by simp -implicitDefEqProofs only [go_sem]) (by simp -implicitDefEqProofs only [go_sem]) (by simp -implicitDefEqProofs only [go_sem]) (by simp -implicitDefEqProofs only [go_sem]) ?_
  simp -implicitDefEqProofs only [go_sem]
  refine zam [0, 3, 1000000] [6] [1000000] [] (H1) (by decide) rfl (by simp -implicitDefEqProofs only [go_sem]) (by simp -implicitDefEqProofs only [go_sem]) (by simp -implicitDefEqProofs only [go_sem]) (by simp -implicitDefEqProofs only [go_sem]) ?_
  simp -implicitDefEqProofs only [go_sem]
  refine zas (by simp -implicitDefEqProofs only [go_sem]) ?_
  simp -implicitDefEqProofs only [go_sem]
  refine zam [10, 1000000] [11, 12] [1000000] [] (H2) (by decide) rfl (by simp -implicitDefEqProofs only [go_sem]) (by simp -implicitDefEqProofs only [go_sem]) (by simp -implicitDefEqProofs only [go_sem]) (by simp -implicitDefEqProofs only [go_sem]) ?_
  simp -implicitDefEqProofs only [go_sem]
  refine zas (by simp -implicitDefEqProofs only [go_sem]) ?_
  simp -implicitDefEqProofs only [go_sem]
  refine zas (by simp -implicitDefEqProofs only [go_sem]) ?_
  simp -implicitDefEqProofs only [go_sem]
  refine apD true (by simp -implicitDefEqProofs only [go_sem, ne_eq, List.length_map, hol]) ?_
  simp -implicitDefEqProofs only [go_sem, ne_eq, List.length_map, hol]
  rw [List.map_append]
  exact Or.inl (Or.inl rfl)
 ·rw [if_neg h0] at hA
  have n0 : (z == (0 : Int)) = false := by simpa using h0
  by_cases h1 : z = 1
  ·rw [if_pos h1] at hA
   subst h1 hA
   refine zct Try.call44 Try.func44 rfl (by kernel_rfl) (by simp only [List.length_cons, List.length_nil, Try.ntmps44]; omega) (by simp only [Try.ntmps44]; omega) rfl rfl (by simp [zax, T.isPin, AF.ds, bxA]) (by simp [gFS, T.fs, T.flat, AF.ds, bxA]) rfl ?_
   simp -implicitDefEqProofs only [go_sem, Try.results44]
   refine zam [0, 1000000] [4] [1000000] [] (H0) (by decide) rfl (by simp -implicitDefEqProofs only [go_sem]) (by simp -implicitDefEqProofs only [go_sem]) (by simp -implicitDefEqProofs only [go_sem]) (by simp -implicitDefEqProofs only [go_sem]) ?_
   simp -implicitDefEqProofs only [go_sem]
   refine zam [0, 3, 1000000] [6] [1000000] [] (H1) (by decide) rfl (by simp -implicitDefEqProofs only [go_sem]) (by simp -implicitDefEqProofs only [go_sem]) (by simp -implicitDefEqProofs only [go_sem]) (by simp -implicitDefEqProofs only [go_sem]) ?_
   simp -implicitDefEqProofs only [go_sem]
   refine zas (by simp -implicitDefEqProofs only [go_sem]) ?_
   simp -implicitDefEqProofs only [go_sem]
   refine zas (by simp -implicitDefEqProofs only [go_sem]) ?_
   simp -implicitDefEqProofs only [go_sem]
   refine apD true (by simp -implicitDefEqProofs only [go_sem, ne_eq, List.length_map, hol]) ?_
   simp -implicitDefEqProofs only [go_sem, ne_eq, List.length_map, hol]
   rw [List.map_append]
   exact Or.inl (Or.inl rfl)
  ·rw [if_neg h1] at hA
   have n1 : (z == (1 : Int)) = false := by simpa using h1
   by_cases h2 : z = 2
   ·rw [if_pos h2] at hA
    subst h2 hA
    refine zct Try.call44 Try.func44 rfl (by kernel_rfl) (by simp only [List.length_cons, List.length_nil, Try.ntmps44]; omega) (by simp only [Try.ntmps44]; omega) rfl rfl (by simp [zax, T.isPin, AF.ds, bxA]) (by simp [gFS, T.fs, T.flat, AF.ds, bxA]) rfl ?_
    simp -implicitDefEqProofs only [go_sem, Try.results44]
    refine zam [0, 1000000] [4] [1000000] [] (H0) (by decide) rfl (by simp -implicitDefEqProofs only [go_sem]) (by simp -implicitDefEqProofs only [go_sem]) (by simp -implicitDefEqProofs only [go_sem]) (by simp -implicitDefEqProofs only [go_sem]) ?_
    simp -implicitDefEqProofs only [go_sem]
    refine zam [0, 3, 1000000] [6] [1000000] [] (H1) (by decide) rfl (by simp -implicitDefEqProofs only [go_sem]) (by simp -implicitDefEqProofs only [go_sem]) (by simp -implicitDefEqProofs only [go_sem]) (by simp -implicitDefEqProofs only [go_sem]) ?_
    simp -implicitDefEqProofs only [go_sem]
    refine zas (by simp -implicitDefEqProofs only [go_sem]) ?_
    simp -implicitDefEqProofs only [go_sem]
    refine zas (by simp -implicitDefEqProofs only [go_sem]) ?_
    simp -implicitDefEqProofs only [go_sem]
    refine apD true (by simp -implicitDefEqProofs only [go_sem, ne_eq, List.length_map, hol]) ?_
    simp -implicitDefEqProofs only [go_sem, ne_eq, List.length_map, hol]
    rw [List.map_append]
    exact Or.inl (Or.inl rfl)
   ·rw [if_neg h2] at hA
    have n2 : (z == (2 : Int)) = false := by simpa using h2
    by_cases h3 : z = 3
    ·rw [if_pos h3] at hA
     subst h3
     refine zct Try.call44 Try.func44 rfl (by kernel_rfl) (by simp only [List.length_cons, List.length_nil, Try.ntmps44]; omega) (by simp only [Try.ntmps44]; omega) rfl rfl (by simp [zax, T.isPin, AF.ds, bxA]) (by simp [gFS, T.fs, T.flat, AF.ds, bxA]) rfl ?_
     simp -implicitDefEqProofs only [go_sem, Try.results44]
     refine zam [0, 1000000] [4] [1000000] [] (H0) (by decide) rfl (by simp -implicitDefEqProofs only [go_sem]) (by simp -implicitDefEqProofs only [go_sem]) (by simp -implicitDefEqProofs only [go_sem]) (by simp -implicitDefEqProofs only [go_sem]) ?_
     simp -implicitDefEqProofs only [go_sem]
     refine zam [0, 3, 1000000] [6] [1000000] [] (H1) (by decide) rfl (by simp -implicitDefEqProofs only [go_sem]) (by simp -implicitDefEqProofs only [go_sem]) (by simp -implicitDefEqProofs only [go_sem]) (by simp -implicitDefEqProofs only [go_sem]) ?_
     simp -implicitDefEqProofs only [go_sem]
     refine zan (fun x : Nat × (Cu × List (List Int)) => hd [(0, .one (.bx 1000000 0)), (3, .one (.ow 160 (42 - S.length - x.1))), (7, vI 3), (1000000, .one (.bx 1000000 0))] [(1000000, [.rn (zmb code), .t (.int .i64 x.2.1.pos), .t (.int .u64 x.2.1.seed)])] [(160, ⟨true, 1, x.2.2.map fun s => [zay s], 42 - S.length - x.1, true⟩)]) (fun x => zi9 x.1 x.2 = R /\ (1 <= x.1 /\ x.1 + x.2.2.length = 42 /\ S.length <= x.2.2.length) /\ DrS code 40 2 (x.1 + 10) x.2) (fun x => x.1) (42 - S.length, (Q1, S)) (zaf ?_) ?_ ?_
     ·simp -implicitDefEqProofs only [go_sem]
      skip
     ·exact ⟨hA.symm, ⟨by simp only; omega, by simp only; omega, Nat.le_refl _⟩, c1, by dsimp only; omega, by dsimp only; omega⟩
     ·rintro ⟨k, x⟩ ⟨hr, hk, hD⟩
      simp only at hr hk hD
      cases k with
      | zero => exact absurd hk.1 (by omega)
      | succ k =>
       rw [zi9] at hr
       have H4 := zda hD.code (by have := hD.pos; omega) 2 (by omega)
       have b4 := x.1.pick_bd (n := 2) (by omega)
       have p4 := x.1.pick_pos 2
       have c4 := (x.1.pick_code 2).trans hD.code
       have e0 := hD.pos
       have e1 := hD.len
       obtain ⟨Q, U⟩ := x
       simp only at hr H4 p4 c4 e0 e1 b4 hk
       generalize Q.pick 2 = y at H4 p4 c4 b4 hr
       obtain ⟨Q4, u⟩ := y
       simp only at hr H4 p4 c4 b4
       have hw : IntKind.i64.wrap (40 + u) = 40 + u := zat (by omega) (by omega)
       have hgen : 42 - S.length - k = 42 - S.length - (k + 1) + 1 := by omega
       by_cases hlt : (U.length : Int) < 40 + u
       ·rw [if_pos hlt] at hr
        have hlt' : ((U.length : Int) < 40 + u) = True := by simpa using hlt
        have HC := zbo c4 6 (by omega) (by omega) (by omega)
        obtain ⟨u1, u2, u3, u4⟩ := zd4 Q4 6
        have hol1 : U.length <= 4294967295 := by omega
        generalize clD Q4 6 = C1 at HC u1 u2 u3 u4 hr
        obtain ⟨Q5, s1⟩ := C1
        simp only at HC u1 u2 u3 u4 hr
        simp -implicitDefEqProofs only [go_sem]
        refine zam [0, 3, 7, 32, 1000000] [33] [1000000] [] (H4) (by decide) rfl (by simp -implicitDefEqProofs only [go_sem]) (by simp -implicitDefEqProofs only [go_sem]) (by simp -implicitDefEqProofs only [go_sem]) (by simp -implicitDefEqProofs only [go_sem]) ?_
        simp -implicitDefEqProofs only [go_sem]
        rw [hw]
        simp -implicitDefEqProofs only [go_sem, hlt']
        refine zam [0, 7, 37, 1000000] [38] [1000000] [] (HC) (by decide) rfl (by simp -implicitDefEqProofs only [go_sem]) (by simp -implicitDefEqProofs only [go_sem]) (by simp -implicitDefEqProofs only [go_sem]) (by simp -implicitDefEqProofs only [go_sem]) ?_
        simp -implicitDefEqProofs only [go_sem]
        refine zas (by simp -implicitDefEqProofs only [go_sem]) ?_
        simp -implicitDefEqProofs only [go_sem]
        refine apD true (by simp -implicitDefEqProofs only [go_sem, ne_eq, List.length_map, hol1]) ?_
        simp -implicitDefEqProofs only [go_sem, ne_eq, List.length_map, hol1]
        refine ⟨(k, (Q5, U ++ [s1])), ⟨hr, ⟨by simp only; omega, by simp; omega, by simp; omega⟩, u3.trans c4, ?_, ?_⟩, by simp only; omega, zaf ?_⟩
        ·dsimp only; rw [Nat.add_mul] at e0 ⊢; omega
        ·simp; omega
        ·simp -implicitDefEqProofs only [go_sem]
         rw [hgen, List.map_append]
         rfl
       ·rw [if_neg hlt] at hr
        subst hr
        have hlt' : ((U.length : Int) < 40 + u) = False := by simpa using hlt
        simp -implicitDefEqProofs only [go_sem]
        refine zam [0, 3, 7, 32, 1000000] [33] [1000000] [] (H4) (by decide) rfl (by simp -implicitDefEqProofs only [go_sem]) (by simp -implicitDefEqProofs only [go_sem]) (by simp -implicitDefEqProofs only [go_sem]) (by simp -implicitDefEqProofs only [go_sem]) ?_
        simp -implicitDefEqProofs only [go_sem]
        rw [hw]
        simp -implicitDefEqProofs only [go_sem, hlt']
        skip
    ·rw [if_neg h3] at hA
     have n3 : (z == (3 : Int)) = false := by simpa using h3
     by_cases h4 : z = 4
     ·rw [if_pos h4] at hA
      subst h4 hA
      refine zct Try.call44 Try.func44 rfl (by kernel_rfl) (by simp only [List.length_cons, List.length_nil, Try.ntmps44]; omega) (by simp only [Try.ntmps44]; omega) rfl rfl (by simp [zax, T.isPin, AF.ds, bxA]) (by simp [gFS, T.fs, T.flat, AF.ds, bxA]) rfl ?_
      simp -implicitDefEqProofs only [go_sem, Try.results44]
      refine zam [0, 1000000] [4] [1000000] [] (H0) (by decide) rfl (by simp -implicitDefEqProofs only [go_sem]) (by simp -implicitDefEqProofs only [go_sem]) (by simp -implicitDefEqProofs only [go_sem]) (by simp -implicitDefEqProofs only [go_sem]) ?_
      simp -implicitDefEqProofs only [go_sem]
      refine zam [0, 3, 1000000] [6] [1000000] [] (H1) (by decide) rfl (by simp -implicitDefEqProofs only [go_sem]) (by simp -implicitDefEqProofs only [go_sem]) (by simp -implicitDefEqProofs only [go_sem]) (by simp -implicitDefEqProofs only [go_sem]) ?_
      simp -implicitDefEqProofs only [go_sem]
      refine zas (by simp -implicitDefEqProofs only [go_sem]) ?_
      simp -implicitDefEqProofs only [go_sem]
      refine zas (by simp -implicitDefEqProofs only [go_sem]) ?_
      simp -implicitDefEqProofs only [go_sem]
      refine zas (by simp -implicitDefEqProofs only [go_sem]) ?_
      simp -implicitDefEqProofs only [go_sem]
      refine apD true (by simp -implicitDefEqProofs only [go_sem, ne_eq, List.length_map, hol2]) ?_
      simp -implicitDefEqProofs only [go_sem, ne_eq, List.length_map, hol2]
      rw [List.map_append]
      exact Or.inl (Or.inl rfl)
     ·rw [if_neg h4] at hA
      have n4 : (z == (4 : Int)) = false := by simpa using h4
      subst hA
      refine zct Try.call44 Try.func44 rfl (by kernel_rfl) (by simp only [List.length_cons, List.length_nil, Try.ntmps44]; omega) (by simp only [Try.ntmps44]; omega) rfl rfl (by simp [zax, T.isPin, AF.ds, bxA]) (by simp [gFS, T.fs, T.flat, AF.ds, bxA]) rfl ?_
      simp -implicitDefEqProofs only [go_sem, Try.results44]
      refine zam [0, 1000000] [4] [1000000] [] (H0) (by decide) rfl (by simp -implicitDefEqProofs only [go_sem]) (by simp -implicitDefEqProofs only [go_sem]) (by simp -implicitDefEqProofs only [go_sem]) (by simp -implicitDefEqProofs only [go_sem]) ?_
      simp -implicitDefEqProofs only [go_sem]
      refine zam [0, 3, 1000000] [6] [1000000] [] (H1) (by decide) rfl (by simp -implicitDefEqProofs only [go_sem, n0, n1, n2, n3, n4]) (by simp -implicitDefEqProofs only [go_sem, n0, n1, n2, n3, n4]) (by simp -implicitDefEqProofs only [go_sem, n0, n1, n2, n3, n4]) (by simp -implicitDefEqProofs only [go_sem, n0, n1, n2, n3, n4]) ?_
      simp -implicitDefEqProofs only [go_sem, n0, n1, n2, n3, n4]
      skip
end Go.Proofs.Yteeaofpphmhjdaa
namespace Go.Proofs.Yteeaofpphmhjdaa
set_option linter.unusedSimpArgs false
set_option linter.unusedVariables false
set_option linter.unusedSectionVars false
set_option maxRecDepth 4000
open Go.RowKit
theorem vBig_c (code : List UInt8) : FC Try.prog 10 [.one (zmb code)] [bD (decide (65536 < (code.length : Int)))] := by
 refine za3 Try.call10 Try.func10 rfl (by kernel_rfl) (zbq (by kernel_rfl)) ?_
 simp -implicitDefEqProofs only [go_sem, Try.results10]
theorem zui (xs ys : List Int) : FC Try.prog 14 [.one (zay xs), .one (zay ys)] [bD (same xs ys)] := by
 refine zet (fun hw => ?_) Try.call14
 have hl : xs.length <= 9223372036854775807 := by have := hw.1.1; simpa using this
 by_cases hne : xs.length = ys.length
 ·have hni : ((xs.length : Int) != (ys.length : Int)) = false := by rw [hne]; simp
  refine za3 Try.call14 Try.func14 rfl (by kernel_rfl) (zbq (by kernel_rfl)) ?_
  simp -implicitDefEqProofs only [go_sem, Try.results14, hni]
  refine zan (fun k : Nat => hd [(0, vT (zay xs)), (1, vT (zay ys)), (5, vI k)] [] []) (fun k => k <= xs.length /\ same xs ys = same (xs.drop k) (ys.drop k)) (fun k => xs.length - k) 0 (zaf ?_) ?_ ?_
  ·simp -implicitDefEqProofs only [go_sem]
  ·simp
  ·intro k ⟨hk, hr⟩
   by_cases hlt : k < xs.length
   ·have hlt2 : k < ys.length := by omega
    have hwk : IntKind.i64.wrap ((k : Int) + 1) = ((k + 1 : Nat) : Int) := za2 (by omega)
    rw [List.drop_eq_getElem_cons hlt, List.drop_eq_getElem_cons hlt2, zpc] at hr
    simp -implicitDefEqProofs only [go_sem, hlt]
    refine drawn (by kernel_rfl) ?_
    simp -implicitDefEqProofs only [go_sem, zaj, hlt, hlt2]
    refine ⟨by kernel_rfl, ?_⟩
    rw [hwk]
    refine ⟨fun h => ?_, fun h => ⟨k + 1, ⟨hlt, ?_⟩, by omega, zaf (by simp -implicitDefEqProofs only [go_sem])⟩⟩
    ·rw [hr, zo9.2 (by simpa using h), Bool.false_and]
    ·rw [hr, ze0.2 (by simpa using h), Bool.true_and]
   ·simp -implicitDefEqProofs only [go_sem, hlt]
    rw [hr, List.drop_of_length_le (by omega), List.drop_of_length_le (by omega), zib]
 ·have hni : ((xs.length : Int) != (ys.length : Int)) = true := by simp; omega
  refine za3 Try.call14 Try.func14 rfl (by kernel_rfl) (zbq (by kernel_rfl)) ?_
  simp -implicitDefEqProofs only [go_sem, Try.results14, hni]
  rw [zo9.2 (fun e => hne (by rw [e]))]
def q0 (code : List UInt8) : Cu := ⟨code, 0, 0⟩
end Go.Proofs.Yteeaofpphmhjdaa
