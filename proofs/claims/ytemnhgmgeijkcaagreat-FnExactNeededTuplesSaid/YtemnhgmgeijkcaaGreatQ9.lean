/-
  FnExactNeededTuples returns true for all arguments, and its arguments read afterwards as they read before.
  Conditions: none.
-/
import Derived.Test.YtemnhgmgeijkcaaGreatQ7
import Derived.Test.YtemnhgmgeijkcaaGreatQ6
import Derived.Test.YtemnhgmgeijkcaaGreatQ8
import Derived.Test.YtemnhgmgeijkcaaGreatQ5
import Derived.Test.YtemnhgmgeijkcaaGreatRows
import Derived.Test.YtemnhgmgeijkcaaGreatQ1
import Derived.ProofKit
import Derived.OpenShut
import Derived.ShutString
import Derived.ChangeOld
namespace Go.Proofs.YtemnhgmgeijkcaaGreat
set_option linter.unusedSimpArgs false
set_option linter.unusedVariables false
set_option linter.unusedSectionVars false
set_option maxRecDepth 4000
open Go.RowKit
variable {P : Program} {N : Nat}
theorem ze7 {w : World} {zt : T} {z : Value} (h : zaw w zt z []) : ∀ n, zau w (List.replicate n [zt]).flatten (List.replicate n z) []
 | 0 => ⟨rfl, rfl⟩
 | n + 1 => by
  rw [List.replicate_succ, List.replicate_succ, List.flatten_cons]
  exact ⟨z, List.replicate n z, [], [], rfl, rfl, h, ze7 h n⟩
theorem zpt : ∀ {rows : List (List T)}, lens 1 rows -> rows.flatten.length = rows.length
 | [], _ => rfl
 | r :: rs, h => by
  rw [List.flatten_cons, List.length_append, zpt fun x hx => h x (by simp [hx]), h r (by simp), List.length_cons]; omega
theorem zlv : ∀ {rows : List (List T)} (k : Nat), lens 1 rows -> (rows.take k).flatten = rows.flatten.take k
 | [], k, _ => by simp
 | r :: rs, 0, _ => rfl
 | r :: rs, k + 1, h => by
  obtain ⟨x, rfl⟩ := List.length_eq_one_iff.1 (h r (by simp))
  rw [List.take_succ_cons, List.flatten_cons, List.flatten_cons, zlv k fun y hy => h y (by simp [hy])]
  rfl
theorem zq1 : ∀ {rows : List (List T)} (k : Nat), flR rows = true -> flR (rows.take k) = true
 | [], k, _ => by simp [flR]
 | r :: rs, 0, _ => rfl
 | r :: rs, k + 1, h => by
  unfold flR at h
  rw [Bool.and_eq_true] at h
  rw [List.take_succ_cons]
  unfold flR
  rw [h.1, zq1 k h.2]; rfl
def clrM (P : Program) (t : TypeId) (x lo : Operand) (d : Nat) (zt : T) (K : St -> Prop) (σ : St) : Prop := match σ.get P t x, σ.get P 0 lo with
 | .one (.ow e gn), .one (.t (.int _ k)) => zaq (σ.ev e) fun y => y.gen = gn /\ y.on = true /\ y.deep = true /\ y.sz = 1 /\ flR y.rows = true /\ 0 <= k /\ k < y.rows.length /\ K ((σ.apd e [] ⟨true, 1, y.rows.take k.toNat ++ List.replicate (y.rows.length - k.toNat) [zt], gn, true⟩).put (some d) (.one .any))
 | _, _ => False
theorem ql1 {t : TypeId} {x lo : Operand} {d : Nat} {zt : T} {K : St -> Prop} {σ : St} (h : clrM P t x lo d zt K σ) : ∃ e gn kk k rows, σ.get P t x = .one (.ow e gn) /\ σ.get P 0 lo = .one (.t (.int kk k)) /\ σ.ev e = some ⟨true, 1, rows, gn, true⟩ /\ flR rows = true /\ 0 <= k /\ k < rows.length /\ K ((σ.apd e [] ⟨true, 1, rows.take k.toNat ++ List.replicate (rows.length - k.toNat) [zt], gn, true⟩).put (some d) (.one .any)) := by
 unfold clrM at h
 split at h
 ·rename_i e gn kk k h1 h2
  obtain ⟨y, he, h3⟩ := zan h
  obtain ⟨dp, sz, rows, g, on⟩ := y
  obtain ⟨rfl, rfl, rfl, rfl, h4, h5, h6, h7⟩ := h3
  exact ⟨e, _, kk, k, rows, h1, h2, he, h4, h5, h6, h7⟩
 ·exact h.elim
theorem zbt.clr {i d : Nat} {ops : Array Oper} {t el : TypeId} {x lo : Operand} {y0 y1 : TypeId} {p0 p1 : String} {f0 f1 : Array Edge} {σ : St} {Q : Exit -> St -> Prop} {z : Value} (m : Nat) (zt : T) (hz : ops.size = m + 2) (c0 : ops[m]? = some ⟨some d, .slice t x (some lo) none none, y0, p0, f0, none⟩) (c1 : ops[m + 1]? = some ⟨none, .call ⟨.builtin .clear, #[.tmp d], #[t]⟩, y1, p1, f1, none⟩)
  (hg : (ops.toList.all fun o => o.guard.isNone) = true) (hd : zbb N (.region i ops false) = true) (hdN : d < N) (hel : elT P t = some el) (hsz : zbl P el = some 1) (hzv : ∀ w, (zeroValue el).run P w = .ok z w) (hzc : z.cells = #[z]) (hz1 : z.oneCell' = true) (hzt : ∀ w, zaw w zt z []) (hzf : zt.flat = true)
  (h : exo P ops (ops.toList.take m) [] (fun _ σ' => clrM P t x lo d zt (Q .normal) σ') σ) : zbt P N (.region i ops false) σ Q := fun n0 w0 A0 g a w hR hn hb hA => by
 refine wp_region ?_
 have hd' : ∀ o ∈ ops.toList, ∀ d, o.dst = some d -> d < N := fun o ho d hdd => by
  simp only [zbb, Array.all_eq_true_iff_forall_mem] at hd
  have := hd o (by simpa using ho)
  rw [hdd] at this
  simpa using this
 have hg' : ∀ o ∈ ops.toList, o.guard = none := fun o ho => by
  have := List.all_eq_true.1 hg o ho
  simpa using this
 rw [hz, List.range_eq_range', show List.range' 0 (m + 2) = List.range' 0 m ++ [m, m + 1] by rw [show m + 2 = m + 1 + 1 from rfl, List.range'_1_concat, List.range'_1_concat]; simp]
 refine znz (w0 := w0) (A0 := A0) hg' ?_ m 0 (by omega) hd' σ g a w (by simpa [exo, zwe] using h) hR hn hb hA
 intro a w σ g hK hR hn hb hA
 obtain ⟨e, gn, kk, k, rows, s1, s2, he, hfl, hk0, hkl, hK⟩ := ql1 hK
 have v1 := hR.get P t x
 rw [s1] at v1
 obtain ⟨v1, -⟩ := v1
 obtain ⟨vs0, fps, top, hT⟩ := hR.tgt he rfl
 have hlens := hT.lens
 simp only at hlens
 rcases hT.val with ⟨_, hh, _⟩ | ⟨b, cap, cells, cty, w1, w2, w3, w4, w5, w6, w7⟩
 ·simp only at hh; rw [hh] at hkl; simp at hkl; omega
 simp only at w1 w2 w5 w6
 obtain ⟨kn, rfl⟩ : ∃ kn : Nat, k = kn := ⟨k.toNat, by omega⟩
 rw [Int.toNat_natCast] at hK
 have hkl : kn < rows.length := by omega
 have hfps : fps = [] := by
  have hown := hT.own rfl
  simp only at hown
  have : ∀ {ts : List T} {vs : List Value} {f : List Nat}, (∀ c ∈ ts, c.flat = true) -> zau w ts vs f -> f = [] := fun {ts} => by
   induction ts with
   | nil => intro vs f _ h; exact h.2
   | cons c ts ih =>
    intro vs f hc h
    obtain ⟨v, vs', f1, f2, _, rfl, h1, h2⟩ := h
    rw [ih (fun c' hc' => hc c' (by simp [hc'])) h2, List.append_nil]
    have hcf := hc c (by simp)
    cases c <;> simp only [T.flat, Bool.false_eq_true] at hcf <;> unfold zaw at h1
    ·exact h1.2.2.2
    ·exact h1.2
    ·exact h1.2.2
    ·exact h1.2
  exact this (zhk hfl) hown
 subst hfps
 have hbn := zdv (P := P) (low := some lo) (high := none) (len := rows.length) (cap := cap) hR true (l := (kn : Int)) (u := (rows.length : Int)) (by simp only [zkl, s2]) rfl (by omega) (by omega) (by omega) w2
 have hun : P.underlying t = some (.slice el) := zfc hel
 have e0 : (execOp a.eval ⟨some d, .slice t x (some lo) none none, y0, p0, f0, none⟩).run P w = .ok (.value (.slice (some ⟨b, kn, none⟩) (rows.length - kn) (cap - kn))) w := by
  unfold execOp
  have hcp : ¬ cap = kn := by omega
  rw [Int.toNat_natCast, Int.toNat_natCast, Option.map_some, Option.map_none] at hbn
  simp only [Instr.sliceAt, Instr.slice, Sem.run_bind, run_underlying hun, Result.andThen, v1, w1, Option.map_some, Option.map_none, hbn, zbs hsz, Sem.run_pure]
  rw [if_neg hcp]
  simp only [Addr.add]
  congr 2
  split <;> simp_all
 rw [wpOps_cons]
 unfold wpOp
 simp only [c0]
 rw [if_pos (by simp [Region.wanted])]
 refine Or.inl ?_
 unfold Oper.wp
 rw [e0]
 show wpOps P ops _ [m + 1] _ w
 rw [wpOps_cons]
 unfold wpOp
 simp only [c1]
 rw [if_pos (by simp [Region.wanted])]
 refine Or.inl ?_
 unfold Oper.wp
 have ev : (a.put (some d) (.slice (some ⟨b, kn, none⟩) (rows.length - kn) (cap - kn))).eval (.tmp d) = .slice (some ⟨b, kn, none⟩) (rows.length - kn) (cap - kn) := by
  show (a.tmps.setIfInBounds d _).getD d undef = _
  exact zdn hR.size hdN _ _
 have hcs : kn + (rows.length - kn) <= cells.size := by rw [w5]; omega
 have hst := run_storeCells_at P b kn cty (List.replicate (rows.length - kn) z) 0 cells w w4 (by simpa using hcs) (fun v hv => by rw [List.eq_of_mem_replicate hv]; exact hz1)
 have hzc' : (Builtin.zeroCells z.cells (rows.length - kn)).toList = List.replicate (rows.length - kn) z := by
  rw [hzc]
  simp [Builtin.zeroCells]
  apply List.ext_getElem
  ·simp
  ·intro i h1 h2
   simp [Nat.mod_one]
 simp only [Nat.add_zero, List.length_replicate] at hst
 have e1 : (execOp (a.put (some d) (.slice (some ⟨b, kn, none⟩) (rows.length - kn) (cap - kn))).eval ⟨none, .call ⟨.builtin .clear, #[.tmp d], #[t]⟩, y1, p1, f1, none⟩).run P w = .ok (.value (.tuple #[])) (w.setRow b (cells.toList.take kn ++ List.replicate (rows.length - kn) z ++ cells.toList.drop (kn + (rows.length - kn))).toArray) := by
  obtain ⟨n', hn'⟩ : ∃ n', rows.length - kn = n' + 1 := ⟨rows.length - kn - 1, by omega⟩
  rw [hn'] at ev hst hzc' ⊢
  unfold execOp
  simp [resolve, invoke, builtin, ev, Builtin.clear_, run_underlying hun, hzv, hzc', hst, Result.andThen]
 rw [e1]
 have hown := hT.own rfl
 simp only at hown
 rw [<- List.take_append_drop kn rows.flatten] at hown
 obtain ⟨u1, u2, f1, f2, hu, hf, k1, k2⟩ := hown.split
 obtain ⟨rfl, rfl⟩ := List.append_eq_nil_iff.1 hf.symm
 have hfl1 := zpt hlens
 have l1 : u1.length = kn := by rw [k1.len, List.length_take]; omega
 rw [Nat.mul_one] at w6
 obtain ⟨rest, hrest⟩ : ∃ rest, cells.toList = vs0 ++ rest := ⟨cells.toList.drop rows.length, by rw [<- w6, List.take_append_drop]⟩
 have hvl : vs0.length = rows.length := by
  have := hT.len
  simp only at this
  omega
 have hnew : cells.toList.take kn ++ List.replicate (rows.length - kn) z ++ cells.toList.drop (kn + (rows.length - kn)) = u1 ++ List.replicate (rows.length - kn) z ++ rest := by
  rw [show kn + (rows.length - kn) = vs0.length by omega, hrest, List.drop_left, hu, List.append_assoc u1 u2, <- l1, List.take_left]
 rw [hnew]
 have hsame : ∀ k, k ≠ b -> (w.setRow b (u1 ++ List.replicate (rows.length - kn) z ++ rest).toArray).heap[k]? = w.heap[k]? := fun k hk => setRow_other w _ k _ hk
 have hblk := setRow_heap w b cells (u1 ++ List.replicate (rows.length - kn) z ++ rest).toArray cty (0, 0) w4
 have hsize : (w.setRow b (u1 ++ List.replicate (rows.length - kn) z ++ rest).toArray).heap.size = w.heap.size := setRow_size _ _ _
 have hbk : Bk n0 w (w.setRow b (u1 ++ List.replicate (rows.length - kn) z ++ rest).toArray) := ⟨rfl, rfl, rfl, Nat.le_of_eq hsize.symm, fun k hk => hsame k fun e' => (hT.bx b (Or.inl w7.symm)).2.1.2.2 (e' ▸ hk)⟩
 generalize w.setRow b (u1 ++ List.replicate (rows.length - kn) z ++ rest).toArray = w' at hsame hblk hsize hbk ⊢
 have hyl : (rows.take kn ++ List.replicate (rows.length - kn) [zt]).length = rows.length := by simp; omega
 have hR' := hR.apd_fin (w' := w') (y := ⟨true, 1, rows.take kn ++ List.replicate (rows.length - kn) [zt], gn, true⟩) (v' := g.ψ e gn) (fp' := [b]) (fps2 := []) hT rfl (fun m hm => ⟨by
   obtain ⟨q, hq, hmq⟩ := hm
   rw [he, Option.some.injEq] at hq
   subst hq
   exact hmq, fun em => by simp only at em; rw [em]⟩) (cons := []) (fun p hp => by simp at hp) (fun b hb => by simp at hb) b (Or.inl w7.symm) (fun k _ hk => hsame k hk) (Nat.le_of_eq hsize.symm) hn (by simp) (fun c hc => by
   simp only [List.mem_singleton] at hc
   exact Or.inl hc) (fun c hc => by simpa using hc.symm) fun A' hA' => by
  refine ⟨some ⟨b, 0, none⟩, cap, by rw [hyl]; exact w1, by rw [hyl]; exact w2, w3, Or.inr ⟨b, _, cty, [], rfl, rfl, hblk, ?_, ?_⟩⟩
  ·have := congrArg List.length hrest
   simp only [List.length_append, Array.length_toList] at this
   simp only [List.size_toArray, List.length_append, List.length_replicate]
   omega
  ·simp only [if_true]
   have hl2 : lens 1 (rows.take kn ++ List.replicate (rows.length - kn) [zt]) := fun r hr => by
    rcases List.mem_append.1 hr with h | h
    ·exact hlens r (List.mem_of_mem_take h)
    ·rw [List.eq_of_mem_replicate h]; rfl
   have ha : zau w' (rows.take kn ++ List.replicate (rows.length - kn) [zt]).flatten (u1 ++ List.replicate (rows.length - kn) z) [] := by
    rw [List.flatten_append, zlv kn hlens]
    exact (k1.keep fun c hc => by simp at hc).append (ze7 (hzt w') _)
   refine zag.of_vals hl2 ha fun j u hu => ?_
   rw [Nat.zero_add]
   simp only [List.getElem?_toArray]
   rw [List.getElem?_append_left (List.getElem?_eq_some_iff.1 hu).1]
   exact hu
 refine ⟨_, _, hK, (hR'.put (some d) (x := .one .any) (v := .slice (some ⟨b, kn, none⟩) (rows.length - kn) (cap - kn)) trivial fun j hj => by cases hj; exact hdN), hn.mono hbk.size, hb.trans hbk, hA⟩
def cutM (P : Program) (t : TypeId) (x hi : Operand) (d r : Nat) (K : St -> Prop) (σ : St) : Prop := match σ.get P t x, σ.get P 0 hi with
 | .one (.ow e gn), .one (.t (.int _ k)) => zaq (σ.ev e) fun y => y.gen = gn /\ y.on = true /\ y.deep = true /\ y.sz = 1 /\ flR y.rows = true /\ 0 <= k /\ k < y.rows.length /\ K (((σ.apd e [] ⟨true, 1, y.rows.take k.toNat, gn + 1, true⟩).put (some d) (.one (.ow e (gn + 1)))).put (some r) (.one (.ow e (gn + 1))))
 | _, _ => False
theorem qki {t : TypeId} {x hi : Operand} {d r : Nat} {K : St -> Prop} {σ : St} (h : cutM P t x hi d r K σ) : ∃ e gn kk k rows, σ.get P t x = .one (.ow e gn) /\ σ.get P 0 hi = .one (.t (.int kk k)) /\ σ.ev e = some ⟨true, 1, rows, gn, true⟩ /\ flR rows = true /\ 0 <= k /\ k < rows.length /\ K (((σ.apd e [] ⟨true, 1, rows.take k.toNat, gn + 1, true⟩).put (some d) (.one (.ow e (gn + 1)))).put (some r) (.one (.ow e (gn + 1)))) := by
 unfold cutM at h
 split at h
 ·rename_i e gn kk k h1 h2
  obtain ⟨y, he, h3⟩ := zan h
  obtain ⟨dp, sz, rows, g, on⟩ := y
  obtain ⟨rfl, rfl, rfl, rfl, h4, h5, h6, h7⟩ := h3
  exact ⟨e, _, kk, k, rows, h1, h2, he, h4, h5, h6, h7⟩
 ·exact h.elim
theorem zbt.cutO {i d r : Nat} {ops : Array Oper} {t el : TypeId} {x hi : Operand} {y0 y1 : TypeId} {p0 p1 : String} {f0 f1 : Array Edge} {σ : St} {Q : Exit -> St -> Prop} (m : Nat) (hz : ops.size = m + 2) (c0 : ops[m]? = some ⟨some d, .slice t x none (some hi) none, y0, p0, f0, none⟩) (c1 : ops[m + 1]? = some ⟨some r, .assign (.tmp d), y1, p1, f1, none⟩)
  (hg : (ops.toList.all fun o => o.guard.isNone) = true) (hd : zbb N (.region i ops false) = true) (hdN : d < N /\ r < N) (hel : elT P t = some el) (hsz : zbl P el = some 1)
  (h : exo P ops (ops.toList.take m) [] (fun _ σ' => cutM P t x hi d r (Q .normal) σ') σ) : zbt P N (.region i ops false) σ Q := fun n0 w0 A0 g a w hR hn hb hA => by
 refine wp_region ?_
 have hd' : ∀ o ∈ ops.toList, ∀ d, o.dst = some d -> d < N := fun o ho d hdd => by
  simp only [zbb, Array.all_eq_true_iff_forall_mem] at hd
  have := hd o (by simpa using ho)
  rw [hdd] at this
  simpa using this
 have hg' : ∀ o ∈ ops.toList, o.guard = none := fun o ho => by
  have := List.all_eq_true.1 hg o ho
  simpa using this
 rw [hz, List.range_eq_range', show List.range' 0 (m + 2) = List.range' 0 m ++ [m, m + 1] by rw [show m + 2 = m + 1 + 1 from rfl, List.range'_1_concat, List.range'_1_concat]; simp]
 refine znz (w0 := w0) (A0 := A0) hg' ?_ m 0 (by omega) hd' σ g a w (by simpa [exo, zwe] using h) hR hn hb hA
 intro a w σ g hK hR hn hb hA
 obtain ⟨e, gn, kk, k, rows, s1, s2, he, hfl, hk0, hkl, hK⟩ := qki hK
 have v1 := hR.get P t x
 rw [s1] at v1
 obtain ⟨v1, -⟩ := v1
 obtain ⟨ao, cap, w1, w2, w3, w4⟩ := hR.evs e _ he rfl
 simp only at w1 w2 w4
 obtain ⟨kn, rfl⟩ : ∃ kn : Nat, k = kn := ⟨k.toNat, by omega⟩
 rw [Int.toNat_natCast] at hK
 have hkl : kn < rows.length := by omega
 rcases w4 with ⟨_, _, hh, _⟩ | ⟨b, cells, cty, fps, rfl, w5, w6, w7, w8⟩
 ·rw [hh] at hkl; simp at hkl
 rw [if_pos trivial] at w8
 have hfps := zag.flat hfl w8
 subst hfps
 have hbn := zdv (P := P) (low := none) (high := some hi) (len := rows.length) (cap := cap) hR true (l := 0) (u := (kn : Int)) rfl (by simp only [zkl, s2]) (by omega) (by omega) (by omega) w2
 have hun : P.underlying t = some (.slice el) := zfc hel
 have e0 : (execOp a.eval ⟨some d, .slice t x none (some hi) none, y0, p0, f0, none⟩).run P w = .ok (.value (.slice (some ⟨b, 0, none⟩) kn cap)) w := by
  unfold execOp
  have hcp : ¬ cap = 0 := by omega
  rw [Int.toNat_natCast, show ((0 : Int).toNat) = 0 from rfl, Option.map_some, Option.map_none] at hbn
  simp only [Instr.sliceAt, Instr.slice, Sem.run_bind, run_underlying hun, Result.andThen, v1, w1, Option.map_some, Option.map_none, hbn, zbs hsz, Sem.run_pure]
  rw [if_neg hcp]
  simp only [Addr.add]
  congr 2
 have ev : (a.put (some d) (.slice (some ⟨b, 0, none⟩) kn cap)).eval (.tmp d) = .slice (some ⟨b, 0, none⟩) kn cap := by
  show (a.tmps.setIfInBounds d _).getD d undef = _
  exact zdn hR.size hdN.1 _ _
 rw [wpOps_cons]
 unfold wpOp
 simp only [c0]
 rw [if_pos (by simp [Region.wanted])]
 refine Or.inl ?_
 unfold Oper.wp
 rw [e0]
 show wpOps P ops _ [m + 1] _ w
 rw [wpOps_cons]
 unfold wpOp
 simp only [c1]
 rw [if_pos (by simp [Region.wanted])]
 refine Or.inl ?_
 unfold Oper.wp
 have e1 : ∀ (a : Act) (w : World), (execOp a.eval ⟨some r, .assign (.tmp d), y1, p1, f1, none⟩).run P w = .ok (.value (a.eval (.tmp d))) w := fun a w => rfl
 rw [e1, ev]
 obtain ⟨vs0, fps, top, hT⟩ := hR.tgt he rfl
 have hmem : b ∈ g.φ e := by rw [w5]; simp
 have htop : some b = top := by
  rcases hT.val with ⟨_, hh, _⟩ | ⟨b', cap', cells', cty', q1, _, _, _, _, _, q7⟩
  ·simp only at hh; rw [hh] at hkl; simp at hkl
  ·simp only at q1
   rw [w1] at q1
   injection q1 with q1 _ _
   simp only [Option.some.injEq, Addr.mk.injEq, and_true] at q1
   rw [q1]; exact q7.symm
 have hR' := hR.apd_fin (w' := w) (y := ⟨true, 1, rows.take kn, gn + 1, true⟩) (v' := .slice (some ⟨b, 0, none⟩) kn cap) (fp' := [b]) (fps2 := []) hT rfl (fun m hm => by
   obtain ⟨q, hq, hmq⟩ := hm
   rw [he, Option.some.injEq] at hq
   subst hq
   simp only at hmq ⊢
   exact ⟨by omega, fun em => by omega⟩) (cons := []) (fun p hp => by simp at hp) (fun b hb => by simp at hb) b (Or.inl htop) (fun k _ _ => rfl) (Nat.le_refl _) hn (by simp) (fun c hc => by
   simp only [List.mem_singleton] at hc
   exact Or.inl hc) (fun c hc => by simpa using hc.symm) fun A' hA' => by
  refine ⟨some ⟨b, 0, none⟩, cap, by simp only [List.length_take]; congr 1; omega, by simp only [List.length_take]; omega, w3, Or.inr ⟨b, cells, cty, [], rfl, rfl, w6, w7, ?_⟩⟩
  simp only [if_true]
  have : ∀ (rs : List (List T)) (o k : Nat), flR rs = true -> zag w cells o 1 rs [] -> zag w cells o 1 (rs.take k) [] := fun rs => by
   induction rs with
   | nil => intro o k _ h; rw [List.take_nil]; exact h
   | cons r rs ih =>
    intro o k hf h
    cases k with
    | zero => rw [List.take_zero]; unfold zag; rfl
    | succ k =>
     unfold flR at hf
     rw [Bool.and_eq_true] at hf
     unfold zag at h
     obtain ⟨h1, f1, f2, h2, h3, h4⟩ := h
     obtain ⟨rfl, rfl⟩ := List.append_eq_nil_iff.1 h2.symm
     rw [List.take_succ_cons]
     unfold zag
     exact ⟨h1, [], [], rfl, h3, ih _ k hf.2 h4⟩
  exact this rows 0 kn hfl w8
 have hval : ∀ (σ' : St) (g' : Gh), σ'.ev e = some ⟨true, 1, rows.take kn, gn + 1, true⟩ -> g'.ψ e (gn + 1) = .slice (some ⟨b, 0, none⟩) kn cap -> VR σ' g' w (.one (.ow e (gn + 1))) (.slice (some ⟨b, 0, none⟩) kn cap) := fun σ' g' h1 h2 => ⟨h2.symm, _, h1, Nat.le_refl _⟩
 have hE : (σ.apd e [] ⟨true, 1, rows.take kn, gn + 1, true⟩).ev e = some ⟨true, 1, rows.take kn, gn + 1, true⟩ := by simp [St.apd, zah]
 have hR1 := hR'.put (some d) (x := .one (.ow e (gn + 1))) (v := .slice (some ⟨b, 0, none⟩) kn cap) (hval _ _ hE (by simp only [zah])) (fun j hj => by cases hj; exact hdN.1)
 have hR2 := hR1.put (some r) (x := .one (.ow e (gn + 1))) (v := .slice (some ⟨b, 0, none⟩) kn cap) (hval _ _ hE (by simp only [zah])) (fun j hj => by cases hj; exact hdN.2)
 exact ⟨_, _, hK, hR2, hn, hb, hA⟩
attribute [go_sem] clrM cutM
end Go.Proofs.YtemnhgmgeijkcaaGreat
namespace Go.Proofs.YtemnhgmgeijkcaaGreat
set_option linter.unusedSimpArgs false
set_option linter.unusedVariables false
set_option linter.unusedSectionVars false
set_option maxRecDepth 4000
open Go.RowKit
variable {P : Program}
theorem PC_ofW {f : FuncId} {fn : Func} {c : Code} {bx bx' : Bxs} {l : List AF} {res : List (Bool × D)} (hc : zaz P f) (hf : P.funcs[f]? = some fn) (hb : fn.body = some c) (hN : l.length <= fn.ntmps) (hN2 : fn.ntmps <= 1000000) (hbl : bx'.length = bx.length) (hj : AF.okJ bx.length l = true) (hs : zbo (AF.ds l ++ bxA bx.flatten)) (hfs : gFS (AF.ds l ++ bxA bx.flatten) = true) (hrl : fn.results.toList.length = res.length)
  (h : zbt P fn.ntmps c (zit l bx) (PB P fn.results.toList res bx')) : PC P f bx l bx' res := by
 refine ⟨hc, hbl, fun w bs bvs dvs fp tp A hinj hbf hbx hv hn hl => ?_⟩
 refine calls_of_wp hf hb ?_
 obtain ⟨g, hg, hR⟩ := qax (N := fn.ntmps) hinj hbf hbx hv hn hl hj hN hN2 hs hfs (ξ := fun i => if 1000000 <= i then qey (bs (i - 1000000)) else undef) (fun i hi => if_neg (by omega)) (fun i b => by
  by_cases h : 1000000 <= i
  ·rw [if_pos h]; exact fun e => by cases e
  ·rw [if_neg h]; exact fun e => by cases e) (fun j hj => by
  rw [if_pos (by omega), show 1000000 + j - 1000000 = j by omega])
 refine wp_mono (h _ w _ g _ w hR (fun k hk => hk.1) (Bk.refl _ _) hg) fun e a' w' hq => ?_
 obtain ⟨σ', g', h1, h2, h3, h4, h5⟩ := hq
 have hξ : ∀ q, q < bx'.length -> g'.R0.ξ (1000000 + (0 + q)) = qey (bs (0 + q)) := fun q hq => by
  rw [(Prod.mk.inj h5).2, Nat.zero_add]
  show (if 1000000 <= 1000000 + q then qey (bs (1000000 + q - 1000000)) else undef) = _
  rw [if_pos (by omega), show 1000000 + q - 1000000 = q by omega]
 have key : (∃ pl, PB0 P fn.results.toList res bx' pl σ') -> ∃ v, (results fn a'.tmps).run P w' = .ok v w' /\ ∃ us bvs' fp' tp', Ending.returned v = .returned (zbp us) /\ zyd w' bs 0 bvs' bx' /\ us.length = res.length ∧
   zar w' (fun k => (k < w'.heap.size /\ k ∉ fp' /\ ∀ j, j < bx.length -> k ≠ bs j) /\ (A k \/ w.heap.size <= k \/ k ∈ fp)) (res ++ bxA bx'.flatten) (us ++ bvs'.flatten) fp' tp' /\ fp'.Nodup /\ (∀ b ∈ fp', b ∈ fp \/ w.heap.size <= b) /\ Bk (fun k => k < w.heap.size /\ k ∉ fp /\ ∀ j, j < bx.length -> k ≠ bs j) w w' := by
  rintro ⟨pl, hk⟩
  obtain ⟨vs, hvs, hk⟩ := zan hk
  obtain ⟨us, r1, r2⟩ := zbi h2 fn hvs
  obtain ⟨cs, bvs', k0, b1, b2, b3⟩ := zpf (bs := bs) h2 hN2 hξ hk
  obtain ⟨B, hB⟩ := h2.fam
  obtain ⟨s, k1, ⟨tp', k2⟩, k3, k4⟩ := zeu h2 hB k0 (VRl.append r2 b2)
  rw [List.append_nil] at k4
  have hsp : s.Pairwise okP := (List.pairwise_reverse.1 (k4 List.Pairwise.nil)).imp fun h => h.symm
  have hin : ∀ b ∈ bks B s, ∃ e, σ'.On e /\ b ∈ g'.φ e := fun b hb => by
   obtain ⟨x, hx, hm⟩ := List.mem_flatMap.1 hb
   exact ⟨x.1, k3 x hx, hB.sub x.1 x.2 b (k3 x hx) hm⟩
  have hbβ : ∀ j, j < bx.length -> σ'.bx (1000000 + j) ≠ none /\ g'.β (1000000 + j) = bs j := fun j hj => by
   have := b3 j (by omega)
   rwa [Nat.zero_add] at this
  have hA : ∀ b, zca σ' g' w' b -> (b < w'.heap.size /\ b ∉ bks B s /\ ∀ j, j < bx.length -> b ≠ bs j) /\ (A b \/ w.heap.size <= b \/ b ∈ fp) := fun b hb => by
   have hnb : ∀ j, j < bx.length -> b ≠ bs j := fun j hj e => hb.1.1 _ (hbβ j hj).1 (by rw [(hbβ j hj).2, e])
   refine ⟨⟨hb.1.2.2.1, fun hm => ?_, hnb⟩, ?_⟩
   ·obtain ⟨e, ho, hm⟩ := hin b hm
    exact hb.2 e ho hm
   ·have h0 := hb.1.2.2.2
    rw [(Prod.mk.inj h5).1] at h0
    rcases h0 with h0 | h0 | h0 | ⟨j, hj, h0⟩
    ·exact Or.inl h0
    ·exact Or.inr (Or.inl h0)
    ·exact Or.inr (Or.inr h0)
    ·exact absurd h0 (hnb j hj)
  refine ⟨_, r1, us, bvs', bks B s, tp', rfl, b1, by rw [r2.len, <- hrl]; exact zjc hvs, zar.keepA hA k2, zdx h2 hB k3 hsp, fun b hb => ?_, h4⟩
  obtain ⟨e, ho, hm⟩ := hin b hb
  have h0 := (h2.ebase e ho b hm).2
  rw [(Prod.mk.inj h5).2] at h0
  rcases h0 with h0 | h0 | ⟨j, hj, h0⟩
  ·exact Or.inl h0
  ·exact Or.inr h0
  ·have := h2.ebx e _ ho (hbβ j hj).1
   rw [(hbβ j hj).2] at this
   exact absurd (h0 ▸ hm) this
 have key' : ∀ {Y : Prop}, (PB0 P fn.results.toList res bx' [] σ' \/ ∃ pl, PB0 P fn.results.toList res bx' pl σ') -> ((∃ pl, PB0 P fn.results.toList res bx' pl σ') -> Y) -> Y := fun h k => h.elim (fun h => k ⟨[], h⟩) k
 cases e with
 | normal => exact ⟨h2.defers, key' h1 key⟩
 | ret => exact ⟨h2.defers, key' h1 key⟩
 | exit _ => exact h1.elim
 | goto _ => exact h1.elim
 | panic _ => exact h1.elim
 | outgrown => exact h1.elim
end Go.Proofs.YtemnhgmgeijkcaaGreat
namespace Go.Proofs.YtemnhgmgeijkcaaGreat
set_option linter.unusedSimpArgs false
set_option linter.unusedVariables false
set_option linter.unusedSectionVars false
set_option maxRecDepth 4000
open Go.RowKit
theorem zzr (xs : List Int) (i : Nat) (v : Int) (hi : i < xs.length) : zd2 (xs.map fun s => [T.int .i64 s]) i 0 [.int .i64 v] = (xs.set i v).map fun s => [T.int .i64 s] := by
 unfold zd2 setR
 rw [List.getD_eq_getElem?_getD, List.getElem?_map, List.getElem?_eq_getElem hi]
 simp [List.map_set]
theorem isI_c (k i : Int) : FC Tryz.prog 84 [iD k, .one (.ptr [.int .i64 i])] [bD (k == i)] := by
 refine zaj Tryz.call84 Tryz.func84 rfl (by kernel_rfl) (zav (by kernel_rfl)) ?_
 simp -implicitDefEqProofs only [go_sem, Tryz.results84]
theorem zv_int : ∀ w, (zeroValue 3).run Tryz.prog w = .ok (.int .i64 0) w := Tryz.zeroValue3
abbrev bxI (i : Int) : Bxs := [[(false, .int .i64 i)]]
def keep (i x : Int) : Bool := !(x == i)
theorem zkp (xs : List Int) (p : Int -> Bool) (g : FuncId) (caps : List T) (H : ∀ x ∈ xs, FC Tryz.prog g (iD x :: caps.map .one) [bD (p x)]) : FC Tryz.prog 136 [.one (zgv xs), .one (.fn g caps)] [iD (zn5 xs p)] := by
 refine zc1 (fun hw => ?_) Tryz.call136
 have hl : xs.length <= 9223372036854775807 := by simpa [zf5, wfT] using hw.1.1
 refine zaj Tryz.call136 Tryz.func136 rfl (by kernel_rfl) (zav (by kernel_rfl)) ?_
 simp -implicitDefEqProofs only [go_sem, Tryz.results136]
 refine zad (fun k : Nat => hd [(0, vT (zgv xs)), (1, vT (.fn g caps)), (7, vI xs.length), (8, vI k)] [] []) (fun k => k <= xs.length /\ ∀ x ∈ xs.take k, p x = false) (fun k => xs.length - k) 0 (zab ?_) ?_ ?_
 ·simp -implicitDefEqProofs only [go_sem]
 ·simp
 ·intro k ⟨hk, hr⟩
  by_cases hlt : k < xs.length
  ·simp -implicitDefEqProofs only [go_sem, zai, hlt, ne_eq]
   refine callF (H xs[k] (List.getElem_mem hlt)) (by simp -implicitDefEqProofs only [go_sem, ne_eq]) ?_
   simp -implicitDefEqProofs only [go_sem, ne_eq]
   refine ⟨fun h => ?_, fun h => ⟨k + 1, ⟨hlt, zdl hlt hr h⟩, by omega, zab (by simp -implicitDefEqProofs only [go_sem]; rw [zak (by omega)])⟩⟩
   rw [zec hlt hr h]
  ·simp -implicitDefEqProofs only [go_sem, hlt]
   rw [List.take_of_length_le (by omega)] at hr
   rw [zg0 hr]
def kpt (i : Int) (xs : List Int) (j : Nat) : List Int := (xs.take j).filter (keep i)
theorem zvj (i : Int) (xs : List Int) {j : Nat} (h : j < xs.length) : kpt i xs (j + 1) = kpt i xs j ++ if keep i xs[j] = true then [xs[j]] else [] := by
 unfold kpt
 rw [List.take_succ_eq_append_getElem h, List.filter_append]
 congr 1
 rw [List.filter_cons]
 split <;> simp
set_option maxHeartbeats 2000000 in
theorem zop (xs : List Int) (i : Int) (hl : xs.length <= 1048577) : PC Tryz.prog 82 (bxI i) [.d true (.one (zgv xs)), .fn 84 [0]] (bxI i) [(true, .one (zgv (xs.filter (keep i))))] := by
 have HI := zkp xs (fun k => k == i) 84 [.ptr [.int .i64 i]] fun x _ => isI_c x i
 refine PC_ofW Tryz.call82 Tryz.func82 rfl (by simp only [List.length_cons, List.length_nil, Tryz.ntmps82]; omega) (by simp only [Tryz.ntmps82]; omega) rfl rfl (by simp [zbo, T.isPin, AF.ds, bxA]) (by simp [gFS, T.fs, T.flat, AF.ds, bxA]) rfl ?_
 by_cases hany : (xs.any fun k => k == i) = true
 ·obtain ⟨c, hc, hid, hno, hye⟩ : ∃ c, ∃ hc : c < xs.length, zn5 xs (fun k => k == i) = (c : Nat) /\ (∀ x ∈ xs.take c, (x == i) = false) /\ (xs[c] == i) = true := by
   have hlt : xs.findIdx (fun k => k == i) < xs.length := List.findIdx_lt_length.2 (List.any_eq_true.1 hany)
   refine ⟨_, hlt, ?_, fun x hx => ?_, List.findIdx_getElem (p := fun k => k == i) (w := hlt)⟩
   ·unfold zn5; rw [if_pos hany]
   ·obtain ⟨q, hq, rfl⟩ := List.getElem_of_mem hx
    rw [List.length_take] at hq
    rw [List.getElem_take]
    have := List.not_of_lt_findIdx (p := fun k => k == i) (xs := xs) (show q < xs.findIdx fun k => k == i by omega)
    simpa using this
  rw [hid] at HI
  have hn1 : ((c : Int) == -1) = false := by rw [beq_eq_false_iff_ne]; omega
  have hw1 : IntKind.i64.wrap ((c : Int) + 1) = ((c + 1 : Nat) : Int) := zak (by omega)
  have hk0 : kpt i xs (c + 1) = xs.take c := by
   rw [zvj i xs hc]
   unfold kpt
   rw [show keep i xs[c] = false by unfold keep; rw [hye]; rfl, if_neg (by simp), List.append_nil, List.filter_eq_self]
   intro x hx
   unfold keep
   rw [hno x hx]; rfl
  refine zbt.cut 3 rfl (by kernel_rfl) ?_
  simp -implicitDefEqProofs only [go_sem, Tryz.results82]
  refine callF (HI) (by simp -implicitDefEqProofs only [go_sem, hn1, hw1]) ?_
  simp -implicitDefEqProofs only [go_sem, hn1, hw1]
  refine zad (fun x : Nat × List Int => hd [(0, .one (.ow 0 0)), (1, .one (.fn 84 [1000000])), (5, vI (kpt i xs x.1).length), (6, vI x.1), (1000000, .one (.bx 1000000 0))] [(1000000, [.t (.int .i64 i)])] [(0, ⟨true, 1, x.2.map fun s => [.int .i64 s], 0, true⟩)])
   (fun x => x.1 <= xs.length /\ x.2.length = xs.length /\ x.2.take (kpt i xs x.1).length = kpt i xs x.1 /\ x.2.drop x.1 = xs.drop x.1 /\ (kpt i xs x.1).length < x.1) (fun x => xs.length - x.1) (c + 1, xs) (zab ?_) ?_ ?_
  ·simp -implicitDefEqProofs only [go_sem]
   rw [hk0, List.length_take, Nat.min_eq_left (by omega)]
  ·refine ⟨hc, rfl, ?_, rfl, ?_⟩
   ·rw [hk0, List.length_take, Nat.min_eq_left (by omega)]
   ·rw [hk0, List.length_take]; simp only; omega
  ·rintro ⟨j, R⟩ ⟨hj, hRl, hRt, hRd, hcj⟩
   simp only at hj hRl hRt hRd hcj
   by_cases hlt : j < xs.length
   ·have hjR : j < R.length := by omega
    have hRj : R[j] = xs[j] := by
     have := congrArg (fun l => l[0]?) hRd
     simp only [List.getElem?_drop, Nat.add_zero, List.getElem?_eq_getElem hjR, List.getElem?_eq_getElem hlt] at this
     exact Option.some.inj this
    have hks := zvj i xs hlt
    have HC := isI_c xs[j] i
    have hcR : (kpt i xs j).length < R.length := by omega
    have hlRi : ((j : Int) < (R.length : Int)) = True := by simp; omega
    have hRd2 : R.drop (j + 1) = xs.drop (j + 1) := by
     have := congrArg (List.drop 1) hRd
     simpa [List.drop_drop] using this
    cases hb : (xs[j] == i)
    ·rw [hb] at HC
     rw [show keep i xs[j] = true by unfold keep; rw [hb]; rfl, if_pos rfl] at hks
     have hst := zzr R (kpt i xs j).length xs[j] hcR
     simp -implicitDefEqProofs only [go_sem, hlRi, hjR, zai, hRj]
     refine callF (HC) (by simp -implicitDefEqProofs only [go_sem]) ?_
     simp -implicitDefEqProofs only [go_sem]
     refine ⟨hcR, ?_⟩
     refine zge (by simp -implicitDefEqProofs only [go_sem]; simp) ?_
     simp -implicitDefEqProofs only [go_sem, hst]
     refine ⟨(j + 1, R.set (kpt i xs j).length xs[j]), ⟨hlt, by rw [List.length_set]; exact hRl, ?_, ?_, ?_⟩, by simp only; omega, zab ?_⟩
     ·simp only
      rw [hks, List.length_append, List.length_singleton, List.take_succ_eq_append_getElem (by rw [List.length_set]; exact hcR), List.getElem_set_self, List.take_set_of_le (Nat.le_refl _), hRt]
     ·simp only
      rw [List.drop_set_of_lt (by omega)]
      exact hRd2
     ·simp only
      rw [hks, List.length_append, List.length_singleton]; omega
     ·simp -implicitDefEqProofs only [go_sem]
      rw [zak (by omega), zak (by omega), hks, List.length_append, List.length_singleton]
      exact ⟨rfl, rfl⟩
    ·rw [hb] at HC
     rw [show keep i xs[j] = false by unfold keep; rw [hb]; rfl, if_neg (by simp), List.append_nil] at hks
     simp -implicitDefEqProofs only [go_sem, hlRi, hjR, zai, hRj]
     refine callF (HC) (by simp -implicitDefEqProofs only [go_sem]) ?_
     simp -implicitDefEqProofs only [go_sem]
     refine ⟨(j + 1, R), ⟨hlt, hRl, by rw [hks]; exact hRt, hRd2, by rw [hks]; simp only; omega⟩, by simp only; omega, zab ?_⟩
     simp -implicitDefEqProofs only [go_sem]
     rw [zak (by omega), hks]
     exact ⟨rfl, rfl⟩
   ·have hlRi : ((j : Int) < (R.length : Int)) = False := by simp; omega
    have hjn : j = xs.length := by omega
    subst hjn
    have hkf : kpt i xs xs.length = xs.filter (keep i) := by unfold kpt; rw [List.take_length]
    rw [hkf] at hRt hcj ⊢
    generalize xs.filter (keep i) = F at hRt hcj ⊢
    have hFR : F.length < R.length := by omega
    have hflR : ∀ l : List Int, flR (l.map fun s => [T.int .i64 s]) = true := fun l => by
     induction l with
     | nil => rfl
     | cons a l ih => rw [List.map_cons]; unfold flR; rw [ih]; rfl
    simp -implicitDefEqProofs only [go_sem, hlRi]
    refine zbt.seq ?_
    refine zbt.clr 2 (.int .i64 0) rfl rfl rfl rfl (by kernel_rfl) (by simp only [Tryz.ntmps82]; omega) (el := 3) (by kernel_rfl) (by kernel_rfl) zv_int rfl rfl (fun w => by unfold zaw; exact ⟨rfl, by decide, by decide, rfl⟩) rfl ?_
    simp -implicitDefEqProofs only [go_sem, List.take_succ_cons, List.take_zero, hflR]
    refine ⟨hFR, ?_⟩
    obtain ⟨Z, hZ⟩ : ∃ Z, List.take F.length (R.map fun s => [T.int .i64 s]) ++ List.replicate (R.length - F.length) [T.int .i64 0] = Z := ⟨_, rfl⟩
    have hZl : Z.length = R.length := by rw [<- hZ]; simp; omega
    have hZf : flR Z = true := by
     rw [<- hZ]
     have : ∀ a b : List (List T), flR a = true -> flR b = true -> flR (a ++ b) = true := fun a b ha hb => by
      induction a with
      | nil => exact hb
      | cons r rs ih =>
       unfold flR at ha
       rw [Bool.and_eq_true] at ha
       show flR (r :: (rs ++ b)) = true
       unfold flR
       rw [ha.1, ih ha.2]; rfl
     refine this _ _ (zq1 _ (hflR R)) ?_
     have : ∀ n, flR (List.replicate n [T.int .i64 0]) = true := fun n => by
      induction n with
      | zero => rfl
      | succ n ih => rw [List.replicate_succ]; unfold flR; rw [ih]; rfl
     exact this _
    have hZt : Z.take F.length = F.map fun s => [T.int .i64 s] := by
     rw [<- hZ, List.take_append_of_le_length (by simp; omega), List.take_take, Nat.min_self, <- List.map_take, hRt]
    rw [hZ]
    have hZF : F.length < Z.length := by omega
    refine zbt.seq ?_
    refine zbt.cutO 2 rfl rfl rfl rfl (by kernel_rfl) (by simp only [Tryz.ntmps82]; omega) (el := 3) (by kernel_rfl) (by kernel_rfl) ?_
    simp -implicitDefEqProofs only [go_sem, List.take_succ_cons, List.take_zero, hZf, hZF, hZt]
    refine zbt.ofEx (by kernel_rfl) ?_
    simp -implicitDefEqProofs only [go_sem]
 ·have hany : (xs.any fun k => k == i) = false := by rw [<- Bool.not_eq_true]; exact hany
  have hid : zn5 xs (fun k => k == i) = -1 := by unfold zn5; rw [hany]; rfl
  rw [hid] at HI
  have hall := List.any_eq_false.1 hany
  have hf : xs.filter (keep i) = xs := by
   rw [List.filter_eq_self]
   intro x hx
   unfold keep
   rw [Bool.not_eq_true', <- Bool.not_eq_true]
   exact hall x hx
  rw [hf]
  refine zbt.cut 3 rfl (by kernel_rfl) ?_
  simp -implicitDefEqProofs only [go_sem, Tryz.results82]
  refine callF (HI) (by simp -implicitDefEqProofs only [go_sem]) ?_
  simp -implicitDefEqProofs only [go_sem]
end Go.Proofs.YtemnhgmgeijkcaaGreat
namespace Go.Proofs.YtemnhgmgeijkcaaGreat
set_option linter.unusedSimpArgs false
set_option linter.unusedVariables false
set_option linter.unusedSectionVars false
set_option maxRecDepth 4000
open Go.RowKit
theorem zbt.wk {P : Program} {N : Nat} {c : Code} {σ σ' : St} {Q : Exit -> St -> Prop} (h : Wk σ σ') (k : zbt P N c σ' Q) : zbt P N c σ Q := fun n0 w0 A0 g a w h1 h2 h3 h4 => by
 obtain ⟨g', r1, r2, r3⟩ := h n0 N g a w h1
 exact k n0 w0 A0 g' a w r1 h2 h3 (by rw [r2, r3]; exact h4)
set_option maxHeartbeats 1000000 in
theorem zwq : CloneOf Tryz.prog 83 1 8 := by
 have t22 := Tryz.underlying49
 have q22 : ∀ (w : World) (a : Option Addr) (n c n' c' : Nat), (binOp .eql 49 (.slice a n c) (.slice none n' c')).run Tryz.prog w = .ok (.bool a.isNone) w := fun w a n c n' c' => Lib.run_eql_slice_nil w _ _ a n c n' c' t22
 have u22 : ∀ w, Sem.run Tryz.prog (underlying 49) w = .ok (TypeDesc.slice 3) w := run_underlying t22
 refine ⟨Tryz.call83, fun ad n c news w hl hn hbig hc h1 => ?_, fun n c w => ?_⟩
 ·have A : Aside (∀ j u, news[j]? = some u -> w.cell? (ad.add j) = some u) := hc
  clear hc
  obtain ⟨i0, z, hi, hz0, hzs, hz1, hz2⟩ := qal (P := Tryz.prog) (t := 3) (n := 1) (b := 8) (z := [.t (.int .i64 0)]) (by kernel_rfl) (by kernel_rfl) (by kernel_rfl) rfl
  go_enter Tryz.func83, Tryz.ntmps83
  go_wp2_with (at_builtin; refine wpList_append_own _ rfl _ _ 49 rfl w.heap.size 3 i0 z 1 8 t22 hi hz0 hz1 hz2 hzs (by decide) _ _ _ rfl (World.ownsRow_made w #[] 0 (Nat.le_refl _) (Nat.zero_le _) (by simp)) ad n c news rfl ?qc1 ?qc2 ?qc3 ?qc4 ?qc5 ?qc6 ?_)
  case qc1 => exact hl
  case qc2 =>
   intro j u hj
   exact Lib.cell?_alloc_some _ (A.out j u hj)
  case qc3 => exact h1
  case qc4 => rw [Nat.zero_add]; exact hn
  case qc5 => rw [Nat.zero_add]; exact hbig
  case qc6 => simp
  intro v' w1 hown hgrow hnil
  go_wp2
  go_ret
  refine ⟨_, v', rfl, by simpa using hown, hnil, ?_⟩
  exact ((Below.refl _ w).alloc (Nat.le_refl _) _).grown hgrow (by simp) (by intro k hk; simp [Value.ownBlock] at hk; omega)
 ·go_enter Tryz.func83, Tryz.ntmps83
  go_wp2
  go_ret
  exact ⟨rfl, rfl⟩
theorem zx4 (ss : List Int) (hs : ss.length <= 1099511627776) : FC Tryz.prog 83 [.one (zgv ss)] [.one (zgv ss)] :=
 zu3 zwq _ (by simp; omega) (fun c hc => by
  obtain ⟨l, hl, hm⟩ := List.mem_flatten.1 hc
  obtain ⟨x, _, rfl⟩ := List.mem_map.1 hl
  rw [List.mem_singleton.1 hm]; rfl)
noncomputable def zj0 (f : Fm) (tss : List (List Tm)) (i : Nat) (left : List Int) : List Int :=
 if (hpR f ((left.filter (keep i)).map fun k => tss.getD k.toNat [])).1 = true then left.filter (keep i) else left
noncomputable def ndF (f : Fm) (tss : List (List Tm)) : Nat -> List Int -> List Int
 | 0, left => left
 | n + 1, left => ndF f tss n (zj0 f tss n left)
def zb1 (n : Nat) : List Int := (List.range n).map fun k : Nat => (k : Int)
noncomputable def qi0 (f : Fm) (tss : List (List Tm)) : Bool := (hpR f tss).2 && (hpR f tss).1
noncomputable def ndR (f : Fm) (tss : List (List Tm)) : List Int := if qi0 f tss = true then ndF f tss tss.length (zb1 tss.length) else []
theorem zpz (k : Nat) : zb1 (k + 1) = zb1 k ++ [(k : Int)] := by unfold zb1; rw [List.range_succ, List.map_append]; rfl
theorem zvo {n : Nat} {k : Int} (h : k ∈ zb1 n) : 0 <= k /\ k < n := by
 unfold zb1 at h
 obtain ⟨j, hj, rfl⟩ := List.mem_map.1 h
 have := List.mem_range.1 hj
 omega
theorem qfw : ∀ {l1 l2 : List (List Tm)}, l1.Sublist l2 -> ziq l1 <= ziq l2 := fun h => by
 induction h with
 | slnil => exact Nat.le_refl _
 | cons a _ ih => unfold ziq at ih ⊢; rw [List.length_cons, List.map_cons, List.sum_cons]; omega
 | cons_cons a _ ih => unfold ziq at ih ⊢; rw [List.length_cons, List.map_cons, List.sum_cons, List.length_cons, List.map_cons, List.sum_cons]; omega
theorem qf4 (tss : List (List Tm)) : (zb1 tss.length).map (fun k => tss.getD k.toNat []) = tss := by
 unfold zb1
 rw [List.map_map]
 refine List.ext_getElem (by simp) fun i h1 h2 => ?_
 simp [List.getD, h2]
theorem sub_W (tss : List (List Tm)) {l : List Int} (h : l.Sublist (zb1 tss.length)) : ziq (l.map fun k => tss.getD k.toNat []) <= ziq tss := by
 have := qfw (h.map fun k => tss.getD k.toNat [])
 rw [qf4] at this
 exact this
theorem zml (f : Fm) (tss : List (List Tm)) (i : Nat) {l : List Int} (h : l.Sublist (zb1 tss.length)) : (zj0 f tss i l).Sublist (zb1 tss.length) := by
 unfold zj0
 split
 ·exact List.filter_sublist.trans h
 ·exact h
set_option maxHeartbeats 4000000 in
theorem qg5 (f : Fm) (hw : f.wt <= 1048576) (tss : List (List Tm)) (ht : ziq tss <= 1048576) : FC Tryz.prog 26 [fmD f, .one (ze4 tss)] [.one (zgv (ndR f tss)), bD (qi0 f tss)] := by
 have HP := zvw f hw tss ht
 have hv : ndR f tss = if qi0 f tss = true then ndF f tss tss.length (zb1 tss.length) else [] := rfl
 have hok : qi0 f tss = ((hpR f tss).2 && (hpR f tss).1) := rfl
 have hTW : ziq tss = tss.length + (tss.map ze6).sum := rfl
 rw [hv, hok]
 have hHP := fun (left : List Int) (i : Nat) (h : left.Sublist (zb1 tss.length)) => zvw f hw ((left.filter (keep i)).map fun k => tss.getD k.toNat []) (Nat.le_trans (sub_W tss (List.filter_sublist.trans h)) ht)
 generalize hpR f tss = B at HP ⊢
 obtain ⟨b1, b2⟩ := B
 simp only at HP ⊢
 simp only [fmD, zac f] at HP hHP ⊢
 have fin : ∀ R : List Int, (b1 = false \/ b2 = false) -> R = [] -> FC Tryz.prog 26 [.agg [.int .i64 f.op, .str f.atom.name, .sl 2 (f.atom.args.map tmC), .str f.var, .sl 5 (f.parts.map fmC)], .one (ze4 tss)] [.one (zgv R), bD false] := fun R hb hR => by
  subst hR
  show FC _ _ _ [.one (.sl 1 []), _]
  cases b2
  ·refine zb8 Tryz.call26 Tryz.func26 rfl (by kernel_rfl) (zav (by kernel_rfl)) ?_
   simp -implicitDefEqProofs only [go_sem, Tryz.results26]
   refine callF (HP) (by simp -implicitDefEqProofs only [go_sem]) ?_
   simp -implicitDefEqProofs only [go_sem]
  ·have hb : b1 = false := by rcases hb with h | h <;> first | exact h | cases h
   subst hb
   refine zb8 Tryz.call26 Tryz.func26 rfl (by kernel_rfl) (zav (by kernel_rfl)) ?_
   simp -implicitDefEqProofs only [go_sem, Tryz.results26]
   refine callF (HP) (by simp -implicitDefEqProofs only [go_sem]) ?_
   simp -implicitDefEqProofs only [go_sem]
 cases hbb : b2 && b1
 ·rw [if_neg (by simp)]
  refine fin _ ?_ rfl
  cases b1
  ·exact Or.inl rfl
  ·cases b2
   ·exact Or.inr rfl
   ·cases hbb
 ·rw [Bool.and_eq_true] at hbb
  obtain ⟨rfl, rfl⟩ := hbb
  rw [if_pos rfl]
  refine qbb Tryz.call26 Tryz.func26 rfl (zav (by kernel_rfl)) ?_
  refine zbt.cut 3 rfl (by kernel_rfl) ?_
  simp -implicitDefEqProofs only [go_sem, Tryz.results26]
  refine callF (HP) (by simp -implicitDefEqProofs only [go_sem]) ?_
  simp -implicitDefEqProofs only [go_sem]
  refine za2 (by simp -implicitDefEqProofs only [go_sem]) ?_
  simp -implicitDefEqProofs only [go_sem]
  refine zad (fun k : Nat => hd [(1, .one (.rn (ze4 tss))), (2, .one (.bx 2 0)), (8, .one (.ow 928 0)), (31, vI tss.length), (32, vI k)] [(2, [.t (.int .i64 f.op), .t (.str f.atom.name), .rn (tmS f.atom.args), .t (.str f.var), .rn (fmS f.parts)])] [(928, ⟨true, 1, (zb1 k).map fun s => [.int .i64 s], 0, true⟩)]) (fun k => k <= tss.length) (fun k => tss.length - k) 0 (zab ?_) (Nat.zero_le _) ?_
  ·simp -implicitDefEqProofs only [go_sem]
   rfl
  ·intro k hk
   have hil : (zb1 k).length = k := by unfold zb1; simp
   have ha : k <= 4294967295 := by omega
   by_cases hlt : k < tss.length
   ·simp -implicitDefEqProofs only [go_sem, hlt]
    refine za2 (by simp -implicitDefEqProofs only [go_sem]) ?_
    simp -implicitDefEqProofs only [go_sem]
    refine apD true (by simp -implicitDefEqProofs only [go_sem, ne_eq, List.length_map, hil, ha]) ?_
    simp -implicitDefEqProofs only [go_sem, ne_eq, List.length_map, hil, ha]
    refine ⟨k + 1, hlt, by omega, zab ?_⟩
    simp -implicitDefEqProofs only [go_sem]
    rw [zak (by omega), zpz, List.map_append, List.map_singleton]
    exact ⟨rfl, rfl⟩
   ·have hkn : k = tss.length := by omega
    subst hkn
    have hwn : IntKind.i64.wrap ((tss.length : Int) - 1) = (tss.length : Int) - 1 := zbc (by omega) (by omega)
    simp -implicitDefEqProofs only [go_sem, hlt]
    refine zbt.seq ?_
    refine zbt.cut 0 rfl (by kernel_rfl) ?_
    simp -implicitDefEqProofs only [go_sem, hwn]
    refine zbt.block ?_
    have hR : ∃ R, ndF f tss tss.length (zb1 tss.length) = R := ⟨_, rfl⟩
    obtain ⟨R, hR⟩ := hR
    rw [hR]
    refine zbt.loop (fun x : Nat × List Int => hd [(1, .one (.rn (ze4 tss))), (2, .one (.bx 2 0)), (8, .one (.ow 928 0)), (10, .one (.bx 10 0))] [(2, [.t (.int .i64 f.op), .t (.str f.atom.name), .rn (tmS f.atom.args), .t (.str f.var), .rn (fmS f.parts)]), (10, [.t (.int .i64 ((x.1 : Int) - 1))])] [(928, ⟨true, 1, x.2.map fun s => [.int .i64 s], 0, true⟩)]) (fun x => x.1 <= tss.length /\ x.2.Sublist (zb1 tss.length) /\ ndF f tss x.1 x.2 = R) (fun x => x.1) (tss.length, zb1 tss.length) (zab ?_) ⟨Nat.le_refl _, List.Sublist.refl _, hR⟩ ?_
    ·simp -implicitDefEqProofs only [go_sem]
    ·rintro ⟨m, left⟩ ⟨hm, hsub, hrec⟩
     simp only at hm hsub hrec
     refine zbt.cut 0 rfl (by kernel_rfl) ?_
     cases m with
     | zero =>
      have hrec : left = R := hrec
      subst hrec
      simp -implicitDefEqProofs only [go_sem]
      refine zbt.ofEx (by kernel_rfl) ?_
      simp -implicitDefEqProofs only [go_sem]
     | succ m =>
      have hrec : ndF f tss m (zj0 f tss m left) = R := hrec
      have e1 : (((m + 1 : Nat) : Int) - 1) = (m : Int) := by omega
      have e2 : ((0 : Int) <= (m : Int)) = True := by simp
      have hll := hsub.length_le
      rw [show (zb1 tss.length).length = tss.length by unfold zb1; simp] at hll
      have HCl := zx4 left (by omega)
      have HDe := zop left m (by omega)
      have hHPm := hHP left m hsub
      simp only [e1]
      simp -implicitDefEqProofs only [go_sem, e2]
      refine zbt.seq ?_
      refine zbt.ofEx (by kernel_rfl) ?_
      simp -implicitDefEqProofs only [go_sem]
      refine callF (HCl) (by simp -implicitDefEqProofs only [go_sem]) ?_
      simp -implicitDefEqProofs only [go_sem]
      refine callPL [1, 2, 8, 10] [48, 49] [10] [] (HDe) (by decide) rfl (by simp -implicitDefEqProofs only [go_sem]) (by simp -implicitDefEqProofs only [go_sem]) (by simp -implicitDefEqProofs only [go_sem]) (by simp -implicitDefEqProofs only [go_sem]) ?_
      simp -implicitDefEqProofs only [go_sem]
      refine zep (by simp -implicitDefEqProofs only [go_sem]) ?_
      simp -implicitDefEqProofs only [go_sem]
      have hsub2 := zml f tss m hsub
      unfold zj0 at hrec hsub2
      have hRs : (left.filter (keep m)).Sublist (zb1 tss.length) := List.filter_sublist.trans hsub
      generalize left.filter (keep m) = Rl at hHPm hrec hsub2 hRs ⊢
      have hRl := hRs.length_le
      rw [show (zb1 tss.length).length = tss.length by unfold zb1; simp] at hRl
      refine zad (fun k : Nat => hd [(1, .one (.rn (ze4 tss))), (2, .one (.bx 2 0)), (8, .one (.ow 928 0)), (10, .one (.bx 10 0)), (11, .one (.ow 1600 0)), (12, .one (.ow 1632 0)), (52, .one (.ow 1600 0)), (53, vI Rl.length), (54, vI k)] [(2, [.t (.int .i64 f.op), .t (.str f.atom.name), .rn (tmS f.atom.args), .t (.str f.var), .rn (fmS f.parts)]), (10, [.t (.int .i64 m)])] [(928, ⟨true, 1, left.map fun s => [.int .i64 s], 0, true⟩), (1600, ⟨true, 1, Rl.map fun s => [.int .i64 s], 0, true⟩), (1632, ⟨false, 1, ((Rl.take k).map fun q => tss.getD q.toNat []).map fun s => [tmS s], 0, true⟩)]) (fun k => k <= Rl.length) (fun k => Rl.length - k) 0 (zab ?_) (Nat.zero_le _) ?_
      ·simp -implicitDefEqProofs only [go_sem]
      ·intro k hk
       by_cases hlt : k < Rl.length
       ·obtain ⟨q, hq, hqt⟩ : ∃ q : Nat, Rl[k] = q /\ q < tss.length := by
         have := zvo (hRs.subset (List.getElem_mem hlt))
         exact ⟨Rl[k].toNat, by omega, by omega⟩
        have hmin : min k Rl.length <= 4294967295 := by omega
        simp -implicitDefEqProofs only [go_sem, hlt, zai, hq, hqt]
        refine zep (by simp -implicitDefEqProofs only [go_sem]) ?_
        simp -implicitDefEqProofs only [go_sem]
        refine apD false (by simp -implicitDefEqProofs only [go_sem, ne_eq, List.length_map, List.length_take, hmin]) ?_
        simp -implicitDefEqProofs only [go_sem, ne_eq, List.length_map, List.length_take, hmin]
        refine ⟨k + 1, hlt, by omega, zab ?_⟩
        simp -implicitDefEqProofs only [go_sem]
        rw [zak (by omega), List.take_succ_eq_append_getElem hlt, hq, List.map_append, List.map_singleton]
        simp only [Function.comp_apply, Int.toNat_natCast, qeg hqt, and_self]
       ·have htk : Rl.take k = Rl := List.take_of_length_le (by omega)
        rw [htk]
        generalize hpR f (Rl.map fun k => tss.getD k.toNat []) = B at hHPm hrec hsub2
        obtain ⟨c1, c2⟩ := B
        simp only at hHPm hrec hsub2
        simp -implicitDefEqProofs only [go_sem, hlt]
        refine callF (hHPm) (by simp -implicitDefEqProofs only [go_sem]) ?_
        simp -implicitDefEqProofs only [go_sem]
        cases c1
        ·rw [if_neg (by simp)] at hrec
         have e3 : IntKind.i64.wrap ((m : Int) - 1) = (m : Int) - 1 := zbc (by omega) (by omega)
         simp -implicitDefEqProofs only [go_sem]
         refine zbt.wk (σ' := hd [(1, .one (.rn (ze4 tss))), (2, .one (.bx 2 0)), (8, .one (.ow 928 0)), (10, .one (.bx 10 0))] [(2, [.t (.int .i64 f.op), .t (.str f.atom.name), .rn (tmS f.atom.args), .t (.str f.var), .rn (fmS f.parts)]), (10, [.t (.int .i64 m)])] [(928, ⟨true, 1, left.map fun s => [.int .i64 s], 0, true⟩)]) (zab (by simp -implicitDefEqProofs only [go_sem])) ?_
         refine zbt.seq ?_
         refine zbt.seq ?_
         refine zbt.ofEx (by kernel_rfl) ?_
         simp -implicitDefEqProofs only [go_sem]
         refine zbt.wk (σ' := hd [(1, .one (.rn (ze4 tss))), (2, .one (.bx 2 0)), (8, .one (.ow 928 0)), (74, vI m)] [(2, [.t (.int .i64 f.op), .t (.str f.atom.name), .rn (tmS f.atom.args), .t (.str f.var), .rn (fmS f.parts)])] [(928, ⟨true, 1, left.map fun s => [.int .i64 s], 0, true⟩)]) (zab (by simp -implicitDefEqProofs only [go_sem])) ?_
         refine zbt.ofEx (by kernel_rfl) ?_
         simp -implicitDefEqProofs only [go_sem]
         refine zbt.ofEx (by kernel_rfl) ?_
         simp -implicitDefEqProofs only [go_sem, e3]
         refine ⟨(m, left), ⟨by omega, hsub, hrec⟩, by simp, zab ?_⟩
         simp -implicitDefEqProofs only [go_sem]
        ·rw [if_pos rfl] at hrec hsub2
         have e3 : IntKind.i64.wrap ((m : Int) - 1) = (m : Int) - 1 := zbc (by omega) (by omega)
         simp -implicitDefEqProofs only [go_sem]
         refine zbt.wk (σ' := hd [(1, .one (.rn (ze4 tss))), (2, .one (.bx 2 0)), (8, .one (.ow 1600 0)), (10, .one (.bx 10 0))] [(2, [.t (.int .i64 f.op), .t (.str f.atom.name), .rn (tmS f.atom.args), .t (.str f.var), .rn (fmS f.parts)]), (10, [.t (.int .i64 m)])] [(1600, ⟨true, 1, Rl.map fun s => [.int .i64 s], 0, true⟩)]) (zab (by simp -implicitDefEqProofs only [go_sem])) ?_
         refine zbt.seq ?_
         refine zbt.seq ?_
         refine zbt.ofEx (by kernel_rfl) ?_
         simp -implicitDefEqProofs only [go_sem]
         refine zbt.wk (σ' := hd [(1, .one (.rn (ze4 tss))), (2, .one (.bx 2 0)), (8, .one (.ow 1600 0)), (74, vI m)] [(2, [.t (.int .i64 f.op), .t (.str f.atom.name), .rn (tmS f.atom.args), .t (.str f.var), .rn (fmS f.parts)])] [(1600, ⟨true, 1, Rl.map fun s => [.int .i64 s], 0, true⟩)]) (zab (by simp -implicitDefEqProofs only [go_sem])) ?_
         refine zbt.ofEx (by kernel_rfl) ?_
         simp -implicitDefEqProofs only [go_sem]
         refine zbt.ofEx (by kernel_rfl) ?_
         simp -implicitDefEqProofs only [go_sem, e3]
         refine ⟨(m, Rl), ⟨by omega, hsub2, hrec⟩, by simp, zcr 928 1600 ?_⟩
         simp -implicitDefEqProofs only [go_sem]
end Go.Proofs.YtemnhgmgeijkcaaGreat
namespace Go.Proofs.YtemnhgmgeijkcaaGreat
set_option linter.unusedSimpArgs false
set_option linter.unusedVariables false
set_option linter.unusedSectionVars false
set_option maxRecDepth 4000
open Go.RowKit
theorem hp_ok (f : Fm) (tss : List (List Tm)) : (hpR f tss).1 = true -> (hpR f tss).2 = true := by
 unfold hpR zxt
 split
 ·split
  ·exact fun _ => rfl
  ·exact fun h => h
 ·exact fun h => h
theorem zir {α : Type} (p : α -> Bool) (xs : List α) {k : Nat} (h : k < xs.length) : (xs.take (k + 1)).filter p = (xs.take k).filter p ++ if p xs[k] = true then [xs[k]] else [] := by
 rw [List.take_succ_eq_append_getElem h, List.filter_append]
 congr 1
 rw [List.filter_cons]
 split <;> simp
set_option maxHeartbeats 4000000 in
theorem qe5 (f : Fm) (hw : f.wt <= 1048576) (tss : List (List Tm)) (ht : ziq tss <= 1048576) : FC Tryz.prog 25 [fmD f, .one (ze4 tss)] [.one (zgv (ndR f tss)), bD (qi0 f tss)] := by
 have HP := zt1 f hw tss ht
 have hv : ndR f tss = if qi0 f tss = true then ndF f tss tss.length (zb1 tss.length) else [] := rfl
 have hok : qi0 f tss = ((hpR f tss).2 && (hpR f tss).1) := rfl
 have hTW : ziq tss = tss.length + (tss.map ze6).sum := rfl
 rw [hv, hok]
 have hHP := fun (left : List Int) (i : Nat) (h : left.Sublist (zb1 tss.length)) => zt1 f hw ((left.filter (keep i)).map fun k => tss.getD k.toNat []) (Nat.le_trans (sub_W tss (List.filter_sublist.trans h)) ht)
 generalize hpR f tss = B at HP ⊢
 obtain ⟨b1, b2⟩ := B
 simp only at HP ⊢
 simp only [fmD, zac f] at HP hHP ⊢
 have fin : ∀ R : List Int, (b1 = false \/ b2 = false) -> R = [] -> FC Tryz.prog 25 [.agg [.int .i64 f.op, .str f.atom.name, .sl 2 (f.atom.args.map tmC), .str f.var, .sl 5 (f.parts.map fmC)], .one (ze4 tss)] [.one (zgv R), bD false] := fun R hb hR => by
  subst hR
  show FC _ _ _ [.one (.sl 1 []), _]
  cases b1
  ·refine zb8 Tryz.call25 Tryz.func25 rfl (by kernel_rfl) (zav (by kernel_rfl)) ?_
   simp -implicitDefEqProofs only [go_sem, Tryz.results25]
   refine callF (HP) (by simp -implicitDefEqProofs only [go_sem]) ?_
   simp -implicitDefEqProofs only [go_sem]
   refine za2 (by simp -implicitDefEqProofs only [go_sem]) ?_
   simp -implicitDefEqProofs only [go_sem]
  ·have hb : b2 = false := by rcases hb with h | h <;> first | exact h | cases h
   subst hb
   refine zb8 Tryz.call25 Tryz.func25 rfl (by kernel_rfl) (zav (by kernel_rfl)) ?_
   simp -implicitDefEqProofs only [go_sem, Tryz.results25]
   refine callF (HP) (by simp -implicitDefEqProofs only [go_sem]) ?_
   simp -implicitDefEqProofs only [go_sem]
   refine za2 (by simp -implicitDefEqProofs only [go_sem]) ?_
   simp -implicitDefEqProofs only [go_sem]
 cases hbb : b2 && b1
 ·rw [if_neg (by simp)]
  refine fin _ ?_ rfl
  cases b1
  ·exact Or.inl rfl
  ·cases b2
   ·exact Or.inr rfl
   ·cases hbb
 ·rw [Bool.and_eq_true] at hbb
  obtain ⟨rfl, rfl⟩ := hbb
  rw [if_pos rfl]
  refine zb8 Tryz.call25 Tryz.func25 rfl (by kernel_rfl) (zav (by kernel_rfl)) ?_
  simp -implicitDefEqProofs only [go_sem, Tryz.results25]
  refine callF (HP) (by simp -implicitDefEqProofs only [go_sem]) ?_
  simp -implicitDefEqProofs only [go_sem]
  refine za2 (by simp -implicitDefEqProofs only [go_sem]) ?_
  simp -implicitDefEqProofs only [go_sem]
  refine zad (fun k : Nat => hd [(1, .one (.rn (ze4 tss))), (2, .one (.bx 2 0)), (8, .one (.ow 928 0)), (9, vI k)] [(2, [.t (.int .i64 f.op), .t (.str f.atom.name), .rn (tmS f.atom.args), .t (.str f.var), .rn (fmS f.parts)])] [(928, ⟨true, 1, (zb1 k).map fun s => [.int .i64 s], 0, true⟩)]) (fun k => k <= tss.length) (fun k => tss.length - k) 0 (zab ?_) (Nat.zero_le _) ?_
  ·simp -implicitDefEqProofs only [go_sem]
   rfl
  ·intro k hk
   have hil : (zb1 k).length = k := by unfold zb1; simp
   have ha : k <= 4294967295 := by omega
   by_cases hlt : k < tss.length
   ·simp -implicitDefEqProofs only [go_sem, hlt]
    refine za2 (by simp -implicitDefEqProofs only [go_sem]) ?_
    simp -implicitDefEqProofs only [go_sem]
    refine apD true (by simp -implicitDefEqProofs only [go_sem, ne_eq, List.length_map, hil, ha]) ?_
    simp -implicitDefEqProofs only [go_sem, ne_eq, List.length_map, hil, ha]
    refine ⟨k + 1, hlt, by omega, zab ?_⟩
    simp -implicitDefEqProofs only [go_sem]
    rw [zak (by omega), zpz, List.map_append, List.map_singleton]
    exact ⟨rfl, rfl⟩
   ·have hkn : k = tss.length := by omega
    subst hkn
    have hwn : IntKind.i64.wrap ((tss.length : Int) - 1) = (tss.length : Int) - 1 := zbc (by omega) (by omega)
    simp -implicitDefEqProofs only [go_sem, hlt, hwn]
    have hR : ∃ R, ndF f tss tss.length (zb1 tss.length) = R := ⟨_, rfl⟩
    obtain ⟨R, hR⟩ := hR
    rw [hR]
    refine zad (fun x : Nat × List Int => hd [(1, .one (.rn (ze4 tss))), (2, .one (.bx 2 0)), (8, .one (.ow 928 0)), (10, vI ((x.1 : Int) - 1))] [(2, [.t (.int .i64 f.op), .t (.str f.atom.name), .rn (tmS f.atom.args), .t (.str f.var), .rn (fmS f.parts)])] [(928, ⟨true, 1, x.2.map fun s => [.int .i64 s], 0, true⟩)]) (fun x => x.1 <= tss.length /\ x.2.Sublist (zb1 tss.length) /\ ndF f tss x.1 x.2 = R) (fun x => x.1) (tss.length, zb1 tss.length) (zab ?_) ⟨Nat.le_refl _, List.Sublist.refl _, hR⟩ ?_
    ·simp -implicitDefEqProofs only [go_sem]
    ·rintro ⟨m, left⟩ ⟨hm, hsub, hrec⟩
     simp only at hm hsub hrec
     cases m with
     | zero =>
      have hrec : left = R := hrec
      subst hrec
      simp -implicitDefEqProofs only [go_sem]
     | succ m =>
      have hrec : ndF f tss m (zj0 f tss m left) = R := hrec
      have hsub2 := zml f tss m hsub
      have e1 : (((m + 1 : Nat) : Int) - 1) = (m : Int) := by omega
      have e2 : ((0 : Int) <= (m : Int)) = True := by simp
      have hwm : IntKind.i64.wrap ((m : Int) - 1) = (m : Int) - 1 := zbc (by omega) (by omega)
      have hll := hsub.length_le
      rw [show (zb1 tss.length).length = tss.length by unfold zb1; simp] at hll
      have hHPm := hHP left m hsub
      have hpo := hp_ok f ((left.filter (keep m)).map fun k => tss.getD k.toNat [])
      unfold zj0 at hrec hsub2
      simp only [e1]
      simp -implicitDefEqProofs only [go_sem, e2]
      refine za2 (by simp -implicitDefEqProofs only [go_sem]) ?_
      simp -implicitDefEqProofs only [go_sem]
      refine zep (by simp -implicitDefEqProofs only [go_sem]) ?_
      simp -implicitDefEqProofs only [go_sem]
      refine zad (fun k : Nat => hd [(1, .one (.rn (ze4 tss))), (2, .one (.bx 2 0)), (8, .one (.ow 928 0)), (10, vI m), (11, .one (.ow 1504 0)), (12, .one (.ow 1536 0)), (13, vI k)] [(2, [.t (.int .i64 f.op), .t (.str f.atom.name), .rn (tmS f.atom.args), .t (.str f.var), .rn (fmS f.parts)])] [(928, ⟨true, 1, left.map fun s => [.int .i64 s], 0, true⟩), (1504, ⟨true, 1, ((left.take k).filter (keep m)).map fun s => [.int .i64 s], 0, true⟩), (1536, ⟨false, 1, (((left.take k).filter (keep m)).map fun q => tss.getD q.toNat []).map fun s => [tmS s], 0, true⟩)]) (fun k => k <= left.length) (fun k => left.length - k) 0 (zab ?_) (Nat.zero_le _) ?_
      ·simp -implicitDefEqProofs only [go_sem, List.take_zero, List.filter_nil, List.map_nil]
      ·intro k hk
       have hfl := List.length_filter_le (keep m) (left.take k)
       rw [List.length_take] at hfl
       have hfa : ((left.take k).filter (keep m)).length <= 4294967295 := by omega
       by_cases hlt : k < left.length
       ·have hs := zir (keep m) left hlt
        obtain ⟨q, hq, hqt⟩ : ∃ q : Nat, left[k] = q /\ q < tss.length := by
         have := zvo (hsub.subset (List.getElem_mem hlt))
         exact ⟨left[k].toNat, by omega, by omega⟩
        cases hb : (left[k] == (m : Int))
        ·have hne : (left[k] != (m : Int)) = true := by unfold bne; rw [hb]; rfl
         rw [show keep m left[k] = true by unfold keep; rw [hb]; rfl, if_pos rfl] at hs
         rw [hq] at hne hs
         simp -implicitDefEqProofs only [go_sem, hlt, zai, hq, hne]
         refine za2 (by simp -implicitDefEqProofs only [go_sem]) ?_
         simp -implicitDefEqProofs only [go_sem]
         refine apD true (by simp -implicitDefEqProofs only [go_sem, ne_eq, List.length_map, hfa]) ?_
         simp -implicitDefEqProofs only [go_sem, ne_eq, List.length_map, hfa]
         simp -implicitDefEqProofs only [go_sem, zai, hlt, hq, hqt]
         refine zep (by simp -implicitDefEqProofs only [go_sem]) ?_
         simp -implicitDefEqProofs only [go_sem]
         refine apD false (by simp -implicitDefEqProofs only [go_sem, ne_eq, List.length_map, hfa]) ?_
         simp -implicitDefEqProofs only [go_sem, ne_eq, List.length_map, hfa]
         refine ⟨k + 1, hlt, by omega, zab ?_⟩
         simp -implicitDefEqProofs only [go_sem]
         rw [zak (by omega), hs, List.map_append, List.map_append, List.map_singleton, List.map_singleton]
         simp only [Function.comp_apply, Int.toNat_natCast, qeg hqt, and_self]
        ·have hne : (left[k] != (m : Int)) = false := by unfold bne; rw [hb]; rfl
         rw [show keep m left[k] = false by unfold keep; rw [hb]; rfl, if_neg (by simp), List.append_nil] at hs
         simp -implicitDefEqProofs only [go_sem, hlt, zai, hne]
         refine ⟨k + 1, hlt, by omega, zab ?_⟩
         simp -implicitDefEqProofs only [go_sem]
         rw [zak (by omega), hs]
         exact ⟨rfl, rfl, rfl⟩
       ·have htk : left.take k = left := List.take_of_length_le (by omega)
        rw [htk]
        generalize hpR f ((left.filter (keep m)).map fun k => tss.getD k.toNat []) = B at hHPm hpo hrec hsub2
        obtain ⟨c1, c2⟩ := B
        simp only at hHPm hpo hrec hsub2
        cases c1
        ·rw [if_neg (by simp)] at hrec
         simp -implicitDefEqProofs only [go_sem, hlt]
         refine callF (hHPm) (by simp -implicitDefEqProofs only [go_sem]) ?_
         simp -implicitDefEqProofs only [go_sem]
         refine ⟨(m, left), ⟨by omega, hsub, hrec⟩, by simp, zab ?_⟩
         simp -implicitDefEqProofs only [go_sem, hwm]
        ·have hc2 := hpo rfl
         subst hc2
         rw [if_pos rfl] at hrec hsub2
         simp -implicitDefEqProofs only [go_sem, hlt]
         refine callF (hHPm) (by simp -implicitDefEqProofs only [go_sem]) ?_
         simp -implicitDefEqProofs only [go_sem]
         refine ⟨(m, left.filter (keep m)), ⟨by omega, hsub2, hrec⟩, by simp, zcr 928 1504 ?_⟩
         simp -implicitDefEqProofs only [go_sem, hwm]
end Go.Proofs.YtemnhgmgeijkcaaGreat
namespace Go.Proofs.YtemnhgmgeijkcaaGreat
set_option linter.unusedSimpArgs false
set_option linter.unusedVariables false
set_option linter.unusedSectionVars false
set_option maxRecDepth 4000
open Go.RowKit
def zkr : Int -> Nat -> Int × Nat
 | o0, k => (((k : Nat) : Int), (k + 1))
def zgp : List Int -> Nat -> List Int × Nat
 | [], k => ([], k)
 | a :: xs, k => ((zkr a k).1 :: (zgp xs (zkr a k).2).1, (zgp xs (zkr a k).2).2)
def zon : Int -> Nat
 | _ => 1 + 1
def zqx : List Int -> Nat
 | [] => 0
 | a :: xs => zon a + zqx xs
theorem qf1 : ∀ (a : Int) (k : Nat), k <= (zkr a k).2 /\ (zkr a k).2 <= k + zon a
 | o0, k => by simp only [zkr, zon]; omega
theorem zyz : ∀ (xs : List Int) (k : Nat), k <= (zgp xs k).2 /\ (zgp xs k).2 <= k + zqx xs
 | [], k => ⟨Nat.le_refl _, Nat.le_refl _⟩
 | a :: xs, k => by have h1 := qf1 a k; have h2 := zyz xs (zkr a k).2; simp only [zgp, zqx]; omega
theorem zns : ∀ xs : List Int, xs.length <= zqx xs
  | [] => Nat.le_refl _
  | a :: xs => by have := zns xs; have : 1 <= zon a := by simp only [zon]; omega
                  simp only [List.length_cons, zqx]; omega
theorem zrk (xs : List Int) :
  ∀ k : Nat, 0 < k -> k + zqx xs <= 4611686018427387904 -> IC Tryz.prog 28 [] (.one (zgv xs)) [iD k] (.one (zgv (zgp xs k).1)) [iD (zgp xs k).2] := by
 intro k h0 hk
 refine zt7 Tryz.call28 Tryz.func28 rfl (by kernel_rfl) (by simp only [zdo, rd, List.map_cons, List.map_nil, List.nil_append, List.length_cons, List.length_nil, Tryz.ntmps28]; omega) (by simp only [Tryz.ntmps28]; omega) (fun vs => ?_)
 simp -implicitDefEqProofs only [go_sem, Tryz.results28, qan, zko, zdo, PI]
 refine zad (fun (x : List Int × List Int × Nat) => hd [(0, .one (.ow 0 0)), (1000000, .one (.ow 0 0)), (1, vI x.2.2), (5, vI x.1.length)] [] [(0, ⟨true, 1, x.1.map (fun s => [T.int .i64 s]) ++ ze9 vs x.1.length (x.2.1.map (fun s => [T.int .i64 s])), 0, true⟩)])
  (fun x => (zgp xs k).1 = x.1 ++ (zgp x.2.1 x.2.2).1 /\ (zgp xs k).2 = (zgp x.2.1 x.2.2).2 /\ 0 < x.2.2 /\ x.2.2 + zqx x.2.1 <= 4611686018427387904 /\ x.1.length + x.2.1.length = xs.length /\ ∀ a ∈ x.2.1, a ∈ xs) (fun x => x.2.1.length) ([], xs, k) (zab ?_) ?_ ?_
 ·simp -implicitDefEqProofs only [go_sem]
 ·exact ⟨rfl, rfl, h0, hk, by simp, fun _ h => h⟩
 ·intro ⟨dn, rest, kk⟩ ⟨h1, h2, h3, h4, h6, h5⟩
  simp only at h1 h2 h3 h4 h5 h6
  cases rest with
  | nil =>
   simp only [zgp, List.append_nil] at h1 h2
   simp -implicitDefEqProofs only [go_sem, h1, h2]
  | cons o0 rest =>
   simp only [zgp, zkr, zqx, zon] at h1 h2 h4
   have w0 : IntKind.i64.wrap (((kk : Nat) : Int) + 1) = ((kk + 1 : Nat) : Int) := zak (by omega)
   have hln := zns xs
   rw [List.length_cons] at h6
   have wl : IntKind.i64.wrap ((dn.length : Int) + 1) = ((dn.length + 1 : Nat) : Int) := zak (by omega)
   simp -implicitDefEqProofs only [go_sem, List.map_cons]
   refine zge (by simp -implicitDefEqProofs only [go_sem, implies_true, w0]) ?_
   simp -implicitDefEqProofs only [go_sem, implies_true, w0]
   refine ⟨(dn ++ [((kk : Nat) : Int)], rest, (kk + 1)), ⟨by simpa using h1, h2, by show 0 < (kk + 1); omega, by show (kk + 1) + zqx rest <= _; omega, by simp; omega, fun b hb => h5 b (by simp [hb])⟩, by simp, zab ?_⟩
   simp -implicitDefEqProofs only [go_sem, wl, List.map_cons, List.map_append, List.append_assoc]
theorem zwk (xs : List Int) (k : Nat) (h0 : 0 < k) (hk : k + zqx xs <= 4611686018427387904) : IC Tryz.prog 28 [] (.one (zgv xs)) [iD k] (.one (zgv (zgp xs k).1)) [iD (zgp xs k).2] := zrk xs k h0 hk
theorem zs6 (xs : List Int) :
  ∀ k : Nat, 0 < k -> k + zqx xs <= 4611686018427387904 -> FC Tryz.prog 29 [.one (zgv (zgp xs k).1), iD k] [iD (zgp xs k).2] := by
 intro k h0 hk
 refine zaj Tryz.call29 Tryz.func29 rfl (by kernel_rfl) (zav (by kernel_rfl)) ?_
 simp -implicitDefEqProofs only [go_sem, Tryz.results29]
 refine zad (fun (x : List Int × List Int × Nat) => hd [(0, vT (.sl 1 (x.1.map (fun s => [T.int .i64 s]) ++ (zgp x.2.1 x.2.2).1.map (fun s => [T.int .i64 s])))), (1, vI x.2.2), (5, vI x.1.length)] [] [])
  (fun x => (zgp xs k).1 = x.1 ++ (zgp x.2.1 x.2.2).1 /\ (zgp xs k).2 = (zgp x.2.1 x.2.2).2 /\ 0 < x.2.2 /\ x.2.2 + zqx x.2.1 <= 4611686018427387904 /\ x.1.length + x.2.1.length = xs.length /\ ∀ a ∈ x.2.1, a ∈ xs) (fun x => x.2.1.length) ([], xs, k) (zab ?_) ?_ ?_
 ·simp -implicitDefEqProofs only [go_sem]
 ·exact ⟨rfl, rfl, h0, hk, by simp, fun _ h => h⟩
 ·intro ⟨dn, rest, kk⟩ ⟨h1, h2, h3, h4, h6, h5⟩
  simp only at h1 h2 h3 h4 h5 h6
  cases rest with
  | nil =>
   simp only [zgp, List.append_nil] at h1 h2
   simp -implicitDefEqProofs only [go_sem, h2, zgp]
  | cons o0 rest =>
   simp only [zgp, zkr, zqx, zon] at h1 h2 h4
   have w0 : IntKind.i64.wrap (((kk : Nat) : Int) + 1) = ((kk + 1 : Nat) : Int) := zak (by omega)
   have hln := zns xs
   rw [List.length_cons] at h6
   have wl : IntKind.i64.wrap ((dn.length : Int) + 1) = ((dn.length + 1 : Nat) : Int) := zak (by omega)
   simp -implicitDefEqProofs only [go_sem, zgp, zkr, List.map_cons]
   simp only [bne_self_eq_false]
   simp -implicitDefEqProofs only [go_sem, w0]
   refine ⟨(dn ++ [((kk : Nat) : Int)], rest, (kk + 1)), ⟨by simpa using h1, h2, by show 0 < (kk + 1); omega, by show (kk + 1) + zqx rest <= _; omega, by simp; omega, fun b hb => h5 b (by simp [hb])⟩, by simp, zab ?_⟩
   simp -implicitDefEqProofs only [go_sem, wl, List.map_cons, List.map_append, List.append_assoc]
theorem zwl (xs : List Int) (k : Nat) (h0 : 0 < k) (hk : k + zqx xs <= 4611686018427387904) : FC Tryz.prog 29 [.one (zgv (zgp xs k).1), iD k] [iD (zgp xs k).2] := zs6 xs k h0 hk
end Go.Proofs.YtemnhgmgeijkcaaGreat
namespace Go.Proofs.YtemnhgmgeijkcaaGreat
set_option linter.unusedSimpArgs false
set_option linter.unusedVariables false
set_option linter.unusedSectionVars false
set_option maxRecDepth 4000
open Go.RowKit
theorem qiq (xs ys : List Int) : FC Tryz.prog 27 [.one (zgv xs), .one (zgv ys)] [bD (same xs ys)] := by
 refine zc1 (fun hw => ?_) Tryz.call27
 have hl : xs.length <= 9223372036854775807 := by simpa [zf5, wfT] using hw.1.1
 have hl2 : ys.length <= 9223372036854775807 := by simpa [zf5, wfT] using hw.2.1.1
 refine zaj Tryz.call27 Tryz.func27 rfl (by kernel_rfl) (zav (by kernel_rfl)) ?_
 simp -implicitDefEqProofs only [go_sem, Tryz.results27]
 refine ⟨fun h => ?_, fun h => ?_⟩
 ·rw [zct.2 (by rintro rfl; simp at h)]
 ·have hlen : xs.length = ys.length := by simp at h; omega
  refine zad (fun k : Nat => hd [(0, vT (zgv xs)), (1, vT (zgv ys)), (4, vB false), (5, vI k)] [] []) (fun k => k <= xs.length /\ same xs ys = same (xs.drop k) (ys.drop k)) (fun k => xs.length - k) 0 (zab ?_) ?_ ?_
  ·simp -implicitDefEqProofs only [go_sem]
  ·simp
  ·intro k ⟨hk, hr⟩
   by_cases hlt : k < xs.length
   ·have hk2 : k < ys.length := by omega
    simp -implicitDefEqProofs only [go_sem, List.length_map, hlt]
    refine drawn (by kernel_rfl) ?_
    simp -implicitDefEqProofs only [go_sem, List.length_map, zai, hlt, hk2]
    refine ⟨by kernel_rfl, fun h => ?_, fun h => ?_⟩
    ·rw [hr, List.drop_eq_getElem_cons hlt, List.drop_eq_getElem_cons hk2, zcm, show same xs[k] ys[k] = false from zct.2 (by simpa using h)]; rfl
    ·rw [List.drop_eq_getElem_cons hlt, List.drop_eq_getElem_cons hk2, zcm, show same xs[k] ys[k] = true from zcj.2 (by simpa using h), Bool.true_and] at hr
     rw [zak (by omega)]
     exact ⟨k + 1, ⟨by omega, hr⟩, by omega, zab (by simp -implicitDefEqProofs only [go_sem])⟩
   ·simp -implicitDefEqProofs only [go_sem, List.length_map, hlt]
    rw [hr, List.drop_of_length_le (by omega), List.drop_of_length_le (by omega), zf0]
theorem qb6 : ∀ xs : List Int, zqx xs = 2 * xs.length
 | [] => rfl
 | a :: xs => by rw [zqx, qb6 xs, zon, List.length_cons]; omega
theorem zy8 : ∀ xs : List (List Tm), zea xs <= 4 * ziq xs
 | [] => by simp [zea]
 | a :: xs => by
  have h1 := zgx a
  have h2 := zy8 xs
  unfold ziq at h2 ⊢
  rw [zea, List.length_cons, List.map_cons, List.sum_cons, zgo]; omega
theorem zz7 (f : Fm) (tss : List (List Tm)) : ∀ (n : Nat) (l : List Int), l.Sublist (zb1 tss.length) -> (ndF f tss n l).Sublist (zb1 tss.length)
 | 0, _, h => h
 | n + 1, _, h => zz7 f tss n _ (zml f tss n h)
theorem qli (f : Fm) (tss : List (List Tm)) : (ndR f tss).length <= tss.length := by
 unfold ndR
 split
 ·have := (zz7 f tss tss.length _ (List.Sublist.refl _)).length_le
  rwa [show (zb1 tss.length).length = tss.length by unfold zb1; simp] at this
 ·exact Nat.zero_le _
set_option maxHeartbeats 2000000 in
theorem qlc (f : Fm) (tss : List (List Tm)) : FC Tryz.prog 5 [fmD f, .one (ze4 tss)] [bD true] := by
 have HZ := zrc f 1048576 (by omega) (by omega)
 simp only [fmD, zac f] at HZ ⊢
 refine zb8 Tryz.call5 Tryz.func5 rfl (by kernel_rfl) (zav (by kernel_rfl)) ?_
 simp -implicitDefEqProofs only [go_sem, Tryz.results5]
 refine callF (HZ) (by simp -implicitDefEqProofs only [go_sem]) ?_
 simp -implicitDefEqProofs only [go_sem]
 refine ⟨fun h => trivial, fun h => ?_⟩
 obtain ⟨hw1, hw2⟩ := zfx (show ¬ szR f.wt 1048576 < 0 by simpa using h)
 have HZ2 := zw2 tss (szR f.wt 1048576) (by omega) (by omega)
 refine callF (HZ2) (by simp -implicitDefEqProofs only [go_sem]) ?_
 simp -implicitDefEqProofs only [go_sem]
 refine ⟨fun h => trivial, fun h2 => ?_⟩
 obtain ⟨hw3, hw4⟩ := zfx (show ¬ szR (ziq tss) (szR f.wt 1048576) < 0 by simpa using h2)
 have hw : f.wt <= 1048576 := by omega
 have hws : ziq tss <= 1048576 := by omega
 have hTW : ziq tss = tss.length + (tss.map ze6).sum := rfl
 have hrl := qli f tss
 have HS := qe5 f hw tss hws
 have HI := qg5 f hw tss hws
 have HT := zrm f hw
 have HT2 := zxd tss hws
 have HE := zsf f f
 have HE2 := zw5 tss tss
 generalize qi0 f tss = G at HS HI
 generalize ndR f tss = R at HS HI hrl
 have HF := qiq R R
 simp only [fmD, zac f] at HS HI HT HE
 have n2 : ∀ b : Bool, (b != b) = false := by decide
 refine callF (HT) (by simp -implicitDefEqProofs only [go_sem]) ?_
 simp -implicitDefEqProofs only [go_sem]
 refine callF (HT2) (by simp -implicitDefEqProofs only [go_sem]) ?_
 simp -implicitDefEqProofs only [go_sem]
 refine callF (HS) (by simp -implicitDefEqProofs only [go_sem]) ?_
 simp -implicitDefEqProofs only [go_sem]
 refine callF (HT) (by simp -implicitDefEqProofs only [go_sem]) ?_
 simp -implicitDefEqProofs only [go_sem]
 refine callF (HT2) (by simp -implicitDefEqProofs only [go_sem]) ?_
 simp -implicitDefEqProofs only [go_sem]
 refine callF (HI) (by simp -implicitDefEqProofs only [go_sem]) ?_
 simp -implicitDefEqProofs only [go_sem]
 refine callF (HF) (by simp -implicitDefEqProofs only [go_sem, zbd, beq_self_eq_true, Bool.not_true]) ?_
 simp -implicitDefEqProofs only [go_sem, zbd, beq_self_eq_true, Bool.not_true]
 refine drawn (by kernel_rfl) ?_
 simp -implicitDefEqProofs only [go_sem]
 refine za1 (HT) (by simp -implicitDefEqProofs only [go_sem]) ?_
 simp -implicitDefEqProofs only [go_sem]
 refine za1 (HE) (by simp -implicitDefEqProofs only [go_sem]) ?_
 simp -implicitDefEqProofs only [go_sem]
 refine ⟨by kernel_rfl, fun h => ?_, fun _ => ?_⟩
 ·simp [zbd] at h
 refine callF (HT2) (by simp -implicitDefEqProofs only [go_sem]) ?_
 simp -implicitDefEqProofs only [go_sem]
 refine callF (HE2) (by simp -implicitDefEqProofs only [go_sem, zbd]) ?_
 simp -implicitDefEqProofs only [go_sem, zbd]
 have hc := znk f
 have hcS := zy8 tss
 have hcR := qb6 R
 have HM := zn1 f 1 (by omega) (by omega)
 have hm := zmh f 1
 have HM1 := zo1 tss (zbh f 1).2 (by omega) (by omega)
 have hm1 := zqj tss (zbh f 1).2
 have HM2 := zwk R 1 (by omega) (by omega)
 have HL := zwl R 1 (by omega) (by omega)
 have hmR := (zyz R 1).1
 rw [zis] at HM
 generalize (zbh f 1).2 = k1 at HM HM1 hm hm1
 generalize (zdb tss k1).2 = k3 at HM1 hm1
 generalize (zdb tss k1).1 = f3 at HM1
 generalize (zgp R 1).2 = k2 at HM2 HL hmR
 generalize (zgp R 1).1 = r1 at HM2 HL
 generalize (zbh f 1).1.atom.args = f2 at HM
 generalize (zbh f 1).1.parts = f5 at HM
 simp only [zac f] at HM
 refine zsl [1, 2, 6, 7, 8, 9, 10, 11, 64, 65] (HM) (by simp -implicitDefEqProofs only [go_sem]) (by simp -implicitDefEqProofs only [go_sem]) (by simp -implicitDefEqProofs only [go_sem]) (by simp -implicitDefEqProofs only [go_sem]) (by simp -implicitDefEqProofs only [go_sem]) rfl ?_
 simp -implicitDefEqProofs only [go_sem]
 refine zsl [1, 2, 6, 7, 8, 10, 11, 67, 68] (HM1) (by simp -implicitDefEqProofs only [go_sem]) (by simp -implicitDefEqProofs only [go_sem]) (by simp -implicitDefEqProofs only [go_sem]) (by simp -implicitDefEqProofs only [go_sem]) (by simp -implicitDefEqProofs only [go_sem]) rfl ?_
 simp -implicitDefEqProofs only [go_sem]
 refine callF (HF) (by simp -implicitDefEqProofs only [go_sem, zbd, beq_self_eq_true, Bool.not_true]) ?_
 simp -implicitDefEqProofs only [go_sem, zbd, beq_self_eq_true, Bool.not_true]
 refine zsl [1, 2, 6, 7, 10, 11, 83, 84] (HM2) (by simp -implicitDefEqProofs only [go_sem]) (by simp -implicitDefEqProofs only [go_sem]) (by simp -implicitDefEqProofs only [go_sem]) (by simp -implicitDefEqProofs only [go_sem]) (by simp -implicitDefEqProofs only [go_sem]) rfl ?_
 simp -implicitDefEqProofs only [go_sem]
 refine callF (HL) (by simp -implicitDefEqProofs only [go_sem]) ?_
 simp -implicitDefEqProofs only [go_sem]
 refine ⟨fun h => by simp at h, fun _ => ?_⟩
 refine callF (HT) (by simp -implicitDefEqProofs only [go_sem]) ?_
 simp -implicitDefEqProofs only [go_sem]
 refine callF (HT2) (by simp -implicitDefEqProofs only [go_sem]) ?_
 simp -implicitDefEqProofs only [go_sem]
 refine callF (HI) (by simp -implicitDefEqProofs only [go_sem]) ?_
 simp -implicitDefEqProofs only [go_sem]
 refine callF (HF) (by simp -implicitDefEqProofs only [go_sem, zbd, beq_self_eq_true, Bool.not_true]) ?_
 simp -implicitDefEqProofs only [go_sem, zbd, beq_self_eq_true, Bool.not_true]
 refine callF (HL) (by simp -implicitDefEqProofs only [go_sem]) ?_
 simp -implicitDefEqProofs only [go_sem]
 refine ⟨fun h => by simp at h, fun _ => trivial⟩
end Go.Proofs.YtemnhgmgeijkcaaGreat
namespace Go.Proofs.YtemnhgmgeijkcaaGreat
set_option linter.unusedSimpArgs false
set_option linter.unusedVariables false
set_option linter.unusedSectionVars false
set_option maxRecDepth 4000
open Go.ChangeShapes Go.WideShapes Go.ChangeAt Go.RowKit
theorem qdx : ownKnob Tryz.prog.godebug = none := by kernel_rfl
theorem zha : laidOutB Tryz.prog = true := by kernel_rfl
def zhm (t : TypeId) : Bool := t == 3 || t == 9 || t == 24 || t == 22 || t == 27 || t == 25 || t == 28
theorem zhc : ∀ t, zhm t = true -> qai Tryz.prog zhm t = true := by
 intro t h
 simp only [zhm, Bool.or_eq_true, beq_iff_eq] at h
 rcases h with (((((rfl | rfl) | rfl) | rfl) | rfl) | rfl) | rfl <;> kernel_rfl
set_option maxRecDepth 100000 in
theorem zp1 (os : Os) (started : os.Started) (H : Type) (enc : TypeId × Value -> H) :
  ReturnsInHanded {} Tryz.checked os 5 .any (Rows.fnExactNeededTuplesSpec.pre6 enc Tryz.prog Tryz.f5 Rows.fnExactNeededTuplesRow.domain false)
   (Rows.fnExactNeededTuplesSpec.post enc Tryz.prog Tryz.f5 false true false false) := by
 refine returnsInHanded_of_change (C := Tryz.checked) qdx started (by kernel_rfl) Tryz.func5
  (ChangeSpec.witness6 (enc := enc) (C := Tryz.checked) false ⟨#[], #[.agg #[.int .i64 0, .string .empty, .slice none 0 0, .string .empty, .slice none 0 0], .slice none 0 0], []⟩ 8 (by kernel_rfl) (by kernel_rfl) (by kernel_rfl) (by kernel_rfl)) ?_
 intro W base args ds gs before hval0 hW hcnd _
 have hval : ∀ (j : Nat) t v, Tryz.f5.params[j]? = some t -> args[j]? = some v -> Value.okWide Tryz.prog W .any base t v := hval0
 have hW' := hW
 obtain ⟨p, q, hA0, hV, rfl, hfz, hnd⟩ := hW
 have hA : DataW.TrodAll enc Tryz.prog W 0 (fun _ => true) true Tryz.f5.params.toList args.toList ds p := hA0
 rw [Tryz.params5] at hA hval
 obtain ⟨v0, vs0, d0, ds0, p0, q0, hargs, rfl, rfl, h0, r0⟩ := trodAll_cons hA
 obtain ⟨v1, vs1, d1, ds1, p1, q1, rfl, rfl, rfl, h1, r1⟩ := trodAll_cons r0
 obtain ⟨rfl, rfl, rfl⟩ := trodAll_nil r1
 obtain rfl : args = #[v0, v1] := by cases args; simp_all
 obtain ⟨rfl, rfl⟩ := trodVars_none hV
 have k0 := h0
 have k1 := h1
 have lt0 : ∀ x ∈ p0, x.block < W.heap.size := by obtain ⟨m, hm⟩ := k0; exact DataW.trod_lt m _ _ _ hm
 have lt1 : ∀ x ∈ p1, x.block < W.heap.size := by obtain ⟨m, hm⟩ := k1; exact DataW.trod_lt m _ _ _ hm
 obtain ⟨cs0, rfl, _⟩ := okWide_struct Tryz.underlying27 (hval 0 27 v0 rfl rfl)
 obtain ⟨sa1, sb1, sc1, rfl⟩ := okWide_slice Tryz.underlying28 (hval 1 28 v1 rfl rfl)
 obtain ⟨s0, hs0⟩ : ∃ s : Fm, zw3 W (· < W.heap.size) (fmD s) (.agg cs0) := by
  obtain ⟨m, hm⟩ := h0
  obtain ⟨d, hr, hs⟩ := zjq zhc m _ _ _ (by rfl) hm
  obtain ⟨s, e⟩ := zv8 _ hs
  exact ⟨s, cs0.toList, rfl, e ▸ hr⟩
 obtain ⟨s1, hs1⟩ : ∃ s : (List (List Tm)), zw3 W (· < W.heap.size) (tssD s) (.slice sa1 sb1 sc1) := by
  obtain ⟨m, hm⟩ := h1
  obtain ⟨d, hr, hs⟩ := zjq zhc m _ _ _ (by rfl) hm
  obtain ⟨s, e⟩ := zy2 hs
  rw [e] at hr
  obtain ⟨v', vs', e1, e2, _⟩ := hr
  cases e1
  exact ⟨s, e2⟩
 have hs : za9 W (· < W.heap.size) [fmD s0, tssD s1] [.agg cs0, .slice sa1 sb1 sc1] := ⟨_, _, rfl, hs0, _, _, rfl, hs1, rfl⟩
 clear hA0 hval0
 refine ((qlc s0 s1).use (vs := [.agg cs0, .slice sa1 sb1 sc1]) hs).mono fun e W' ⟨us, fp, he, ho, _, _, bel⟩ => ?_
 obtain ⟨u, us', f1, f2, rfl, _, ⟨rfl, _⟩, hu⟩ := ho
 obtain ⟨rfl, _⟩ := hu
 subst he
 exact ⟨_, rfl, _, _, _, [], _, [], hW', trodAll_mk1 (shut_bool Tryz.underlying4 _),
  (trodAll_cons_mk (Below.trod zha (by kernel_rfl) (of_decide_eq_true (by kernel_rfl)) k0 bel lt0) (trodAll_cons_mk (Below.trod zha (by kernel_rfl) (of_decide_eq_true (by kernel_rfl)) k1 bel lt1) trodAll_mk0)), rfl, bel.frame _, fun h => by cases h⟩
theorem qgm : (Rows.fnExactNeededTuplesRow.wf (OpenSpec.ofChange Rows.fnExactNeededTuplesSpec)) = true := by kernel_rfl
theorem qgh : (laidOutB Tryz.checked.prog) = true := by kernel_rfl
theorem qfm : (mapsRowed Tryz.checked.prog) = true := by kernel_rfl
theorem qgj : (Tryz.f5.params.all (Tryz.checked.prog.readableRec ·)) = true := by kernel_rfl
theorem qh8 : (namedTie Tryz.checked.prog Rows.fnExactNeededTuplesRow.named Rows.fnExactNeededTuplesSpec.vars) = true := by kernel_rfl
theorem qhr : ((Rows.fnExactNeededTuplesRow.stops == [])) = true := by kernel_rfl
theorem qfv : ((Tryz.checked.prog.stops == [])) = true := by kernel_rfl
theorem qg9 : ((Rows.fnExactNeededTuplesRow.knobs == [])) = true := by kernel_rfl
theorem qhq : ((Tryz.checked.prog.stopKnobs == [])) = true := by kernel_rfl
theorem qii : ((Rows.fnExactNeededTuplesRow.inPlace == Tryz.checked.prog.inPlace 5)) = true := by kernel_rfl
theorem qbo : ((Rows.fnExactNeededTuplesRow.unfollowed == Tryz.checked.prog.unfollowed 5)) = true := by kernel_rfl
theorem qdv : ((Rows.fnExactNeededTuplesRow.recurses == Tryz.checked.prog.recurses 5)) = true := by kernel_rfl
theorem qcc : ((Rows.fnExactNeededTuplesRow.named == Tryz.checked.prog.varsNamed 5)) = true := by kernel_rfl
theorem zz4 : ((Rows.fnExactNeededTuplesRow.maps == (Tryz.f5.params.toList ++ Rows.fnExactNeededTuplesSpec.plain.varTypes Tryz.checked.prog).any (Tryz.checked.prog.mapsRec ·))) = true := by kernel_rfl
theorem qa9 : ((Rows.fnExactNeededTuplesRow.ifaces == (Tryz.f5.params.toList ++ Rows.fnExactNeededTuplesSpec.plain.varTypes Tryz.checked.prog).any (Tryz.checked.prog.ifacesRec ·))) = true := by kernel_rfl
theorem qda : ((Rows.fnExactNeededTuplesRow.mapsOut == Tryz.checked.prog.mapsAmong Tryz.f5.resultTypes.toList)) = true := by kernel_rfl
theorem qbm : ((Rows.fnExactNeededTuplesRow.loops == (Tryz.f5.params.toList ++ Rows.fnExactNeededTuplesSpec.plain.varTypes Tryz.checked.prog).any (Tryz.checked.prog.loopsFrom ·))) = true := by kernel_rfl
theorem qcw : ((Rows.fnExactNeededTuplesRow.wideKeys == (Tryz.f5.params.toList ++ Rows.fnExactNeededTuplesSpec.plain.varTypes Tryz.checked.prog ++ Tryz.f5.resultTypes.toList).any (Tryz.checked.prog.wideKeysFrom ·))) = true := by kernel_rfl
theorem qd1 : (Rows.fnExactNeededTuplesSpec.vars.all (Tryz.checked.prog.varReadable ·)) = true := by kernel_rfl
theorem qb3 : (Tryz.f5.resultTypes.all (fun t => Tryz.checked.prog.readableRec t && decide (t < Tryz.checked.prog.types.size))) = true := by kernel_rfl
theorem qaq : ((Rows.fnExactNeededTuplesRow.ifacesOut == Tryz.f5.resultTypes.toList.any (Tryz.checked.prog.ifacesRec ·))) = true := by kernel_rfl
theorem zz9 : ((Rows.fnExactNeededTuplesRow.loopsOut == Tryz.f5.resultTypes.toList.any (Tryz.checked.prog.loopsFrom ·))) = true := by kernel_rfl
theorem qd6 : ((Rows.fnExactNeededTuplesRow.plainKeys == Tryz.checked.prog.plainKeys)) = true := by kernel_rfl
theorem qcv : (Rows.fnExactNeededTuplesRow.shortTexts.isNone) = true := by kernel_rfl
theorem qa1 : (Tryz.checked.prog.stopsHeard) = true := by kernel_rfl
theorem zy6 : (Tryz.checked.prog.mayEnter) = true := by kernel_rfl
theorem qcu : ((Rows.fnExactNeededTuplesRow.lifted == Tryz.checked.prog.liftsFinal)) = true := by kernel_rfl
theorem qae : ((Tryz.checked.prog.make == some Rows.fnExactNeededTuplesRow.make)) = true := by kernel_rfl
theorem qdb : ((Rows.fnExactNeededTuplesRow.kinds == (if Rows.fnExactNeededTuplesRow.domain.isEmpty then [] else Tryz.f5.params.toList.map fun t => match Tryz.checked.prog.underlying t with | some (.int k) => some k | _ => none))) = true := by kernel_rfl
theorem qa8 : ((Rows.fnExactNeededTuplesRow.pinned == Rows.fnExactNeededTuplesRow.pinnedBy)) = true := by kernel_rfl
theorem qb1 : ((Rows.fnExactNeededTuplesRow.veiled == (Tryz.f5.params.toList ++ Rows.fnExactNeededTuplesSpec.plain.varTypes Tryz.checked.prog ++ Tryz.f5.resultTypes.toList).any (Tryz.checked.prog.veiledRec ·))) = true := by kernel_rfl
theorem qd9 : (Rows.fnExactNeededTuplesRow.veiledFits Tryz.checked.prog Tryz.f5.params.toList (Tryz.f5.params.toList ++ Rows.fnExactNeededTuplesSpec.plain.varTypes Tryz.checked.prog ++ Tryz.f5.resultTypes.toList)) = true := by kernel_rfl
theorem zp4 : joinedFacts Tryz.checked.prog 5 Tryz.f5 Rows.fnExactNeededTuplesSpec Rows.fnExactNeededTuplesRow = true := by
 unfold joinedFacts
 simp only [Bool.and_eq_true]
 exact ⟨⟨⟨⟨⟨⟨⟨⟨⟨⟨⟨⟨⟨⟨⟨⟨⟨⟨⟨⟨⟨⟨⟨⟨⟨⟨⟨⟨⟨⟨⟨qgm, qgh⟩, qfm⟩, qgj⟩, qh8⟩, qhr⟩, qfv⟩, qg9⟩, qhq⟩, qii⟩, qbo⟩, qdv⟩, qcc⟩, zz4⟩, qa9⟩, qda⟩, qbm⟩, qcw⟩, qd1⟩, qb3⟩, qaq⟩, zz9⟩, qd6⟩, qcv⟩, qa1⟩, zy6⟩, qcu⟩, qae⟩, qdb⟩, qa8⟩, qb1⟩, qd9⟩
theorem neededTuples_holds : Rows.FnExactNeededTuplesSaid :=
 OpenClaim.holds_of_wide 5 Tryz.f5 rfl rfl rfl rfl rfl rfl rfl ⟨rfl, rfl, rfl, rfl, rfl⟩ rfl rfl rfl rfl rfl (by kernel_rfl) Tryz.func5 zp4
  (of_decide_eq_true (by kernel_rfl)) (by unfold Func.isWrapper; rw [if_neg (of_decide_eq_false (by kernel_rfl))]; exact ⟨rfl, rfl⟩)
  (fun os started H enc _ => zp1 os started H enc)
#print axioms neededTuples_holds
end Go.Proofs.YtemnhgmgeijkcaaGreat
