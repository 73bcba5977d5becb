/-
  The walk over plain data: stores into owned slices, made slices.
  Conditions: none.
-/
import Derived.Test.YtgfjbbbkploonaaSxW
namespace Go.Proofs.Ytgfjbbbkploonaa
set_option linter.unusedSimpArgs false
set_option linter.unusedVariables false
open Go.RowKit
variable {P : Program}

/-- Row i with the cells from o on overwritten. -/
def setRw (rows : List (List T)) (i o : Nat) (ts : List T) : List (List T) := rows.set i (setR (rows.getD i []) o ts)
theorem setRw_len (rows : List (List T)) (i o : Nat) (ts : List T) : (setRw rows i o ts).length = rows.length := by simp [setRw]
theorem setR_full {α : Type} (r ts : List α) (h : ts.length = r.length) : setR r 0 ts = ts := by
  simp [setR, h]
theorem setR_right {α : Type} (r fl ts : List α) (q : Nat) : setR (r ++ fl) (r.length + q) ts = r ++ setR fl q ts := by
  unfold setR
  rw [List.take_length_add_append, Nat.add_assoc, List.drop_length_add_append]
  simp
theorem setRw_flat {sz : Nat} : ∀ {rows : List (List T)} {i o : Nat} {ts : List T}, lens sz rows → i < rows.length → o + ts.length ≤ sz → (setRw rows i o ts).flatten = setR rows.flatten (i * sz + o) ts ∧ lens sz (setRw rows i o ts)
  | [], i, o, ts, _, hi, _ => by simp at hi
  | r :: rows, 0, o, ts, hl, _, ho => by
    have hr := hl r (by simp)
    refine ⟨?_, fun x hx => ?_⟩
    · simp only [setRw, List.set_cons_zero, List.getD_cons_zero, List.flatten_cons, setR, Nat.zero_mul, Nat.zero_add]
      rw [List.take_append_of_le_length (by omega), List.drop_append_of_le_length (by omega)]
      simp
    · simp only [setRw, List.set_cons_zero, List.getD_cons_zero, List.mem_cons] at hx
      rcases hx with rfl | hx
      · rw [setR_len _ _ _ (by omega)]; exact hr
      · exact hl x (by simp [hx])
  | r :: rows, i + 1, o, ts, hl, hi, ho => by
    have hr := hl r (by simp)
    obtain ⟨k1, k2⟩ := setRw_flat (rows := rows) (i := i) (o := o) (ts := ts) (fun x hx => hl x (by simp [hx])) (by simpa using hi) ho
    refine ⟨?_, fun x hx => ?_⟩
    · have e : setRw (r :: rows) (i + 1) o ts = r :: setRw rows i o ts := by simp [setRw]
      have e2 : (i + 1) * sz + o = r.length + (i * sz + o) := by rw [hr, Nat.add_mul, Nat.one_mul]; omega
      rw [e, List.flatten_cons, k1, List.flatten_cons, e2, setR_right]
    · have e : setRw (r :: rows) (i + 1) o ts = r :: setRw rows i o ts := by simp [setRw]
      rw [e] at hx
      rcases List.mem_cons.1 hx with rfl | hx
      · exact hr
      · exact k2 x hx

theorem s_storeD {ds : Option Nat} {ty : TypeId} {ps : String} {af : Array Edge} {σ : St} {t : TypeId} {x y : Operand} {e gn sz i o n : Nat} {rows : List (List T)} {ts : List T} {cons : List (Nat × Ev)}
    (hx : σ.get P 0 x = .one (.eo e gn sz i o)) (hn : sizeT P t = some n) (he : σ.ev e = some ⟨true, sz, rows, gn, true⟩) (hl : (σ.get P t y).cells.length = n) (hle : o + n ≤ sz) (hg : (σ.get P t y).cells.all C.good = true) (hy : (σ.get P t y).isTup = false)
    (hd : dpCs σ (σ.get P t y).cells = some (ts, cons)) (hnd : (cons.map (·.1)).Nodup) (hne : ∀ p ∈ cons, p.1 ≠ e) :
    StepSem P ⟨ds, .store t x y, ty, ps, af, none⟩ σ ((σ.apd e cons ⟨true, sz, setRw rows i o ts, gn, true⟩).put ds (.one .any)) := by
  intro n0 N g a w hR hn0 hdN
  have hv := hR.get P 0 x
  rw [hx] at hv
  obtain ⟨b, nn, cp, v1, v2, v3, v4⟩ := hv
  obtain ⟨vs0, fps, top, hT⟩ := hR.tgt he rfl
  rcases hT.val with ⟨hh, _⟩ | ⟨b', cap, cells, cty, w1, w2, w3, w4, w5, w6, w7⟩
  · simp only at hh; rw [v1] at hh; cases hh
  simp only at w1 w2 w5 w6
  rw [v1] at w1
  injection w1 with e1 e2 e3
  simp only [Option.some.injEq, Addr.mk.injEq, and_true] at e1
  subst e1 e2 e3
  obtain ⟨c1, c2⟩ := hR.vcells t y hg hy
  obtain ⟨o1, o2, o3⟩ := dpCs_own hR c1 hd
  have hnews : (a.eval y).cells.toList.length = n := by rw [c1.len]; exact hl
  have hts : ts.length = n := by rw [o3]; exact hl
  have hlens := hT.lens
  simp only at hlens
  obtain ⟨q1, q2⟩ := setRw_flat (o := o) (ts := ts) hlens v3 (by rw [hts]; exact hle)
  have hflat := lens_flat hlens
  have hq : i * sz + o + n ≤ rows.length * sz := by
    have : (i + 1) * sz ≤ rows.length * sz := Nat.mul_le_mul_right _ v3
    rw [Nat.add_mul, Nat.one_mul] at this
    omega
  generalize hqq : i * sz + o = q at *
  have hsplit : rows.flatten = rows.flatten.take q ++ ((rows.flatten.drop q).take n ++ rows.flatten.drop (q + n)) := by
    rw [← List.drop_drop, List.take_append_drop, List.take_append_drop]
  have hown := hT.own rfl
  simp only at hown
  rw [hsplit] at hown
  obtain ⟨u1, u', f1, f', rfl, rfl, k1, k'⟩ := hown.split
  obtain ⟨u2, u3, f2, f3, rfl, rfl, k2, k3⟩ := k'.split
  have l1 : u1.length = q := by rw [k1.len, List.length_take]; omega
  have l2 : u2.length = n := by rw [k2.len, List.length_take, List.length_drop]; omega
  obtain ⟨rest, hrest⟩ : ∃ rest, cells.toList = u1 ++ (u2 ++ u3) ++ rest := ⟨cells.toList.drop (rows.length * sz), by rw [← w6, List.take_append_drop]⟩
  have hcsz : q + n ≤ cells.size := by
    have := congrArg List.length hrest
    simp only [List.length_append, Array.length_toList] at this
    omega
  have hnew : cells.toList.take q ++ (a.eval y).cells.toList ++ cells.toList.drop (q + (a.eval y).cells.toList.length) = u1 ++ ((a.eval y).cells.toList ++ (u3 ++ rest)) := by
    rw [hnews, hrest, ← l1, ← l2]
    simp [List.drop_append]
  have hrun : (execOp a.eval ⟨ds, .store t x y, ty, ps, af, none⟩).run P w = .ok .skip (w.setRow b (u1 ++ ((a.eval y).cells.toList ++ (u3 ++ rest))).toArray) := by
    have hst := run_storeCells_at P b q cty (a.eval y).cells.toList 0 cells w w4 (by rw [hnews]; omega) c2
    simp only [Nat.add_zero] at hst
    rw [hnew] at hst
    have hcs : (a.eval y).cells.size = n := by simpa using hnews
    unfold execOp
    simp only [Instr.storeAt, v2, Instr.sureAddr, Sem.run_bind, Sem.run_pure, Result.andThen, storeVar, run_sizeOf hn, hcs, ne_eq, not_true, if_false, hst]
  unfold Oper.wp
  rw [hrun]
  have hcO : ∀ p ∈ cons, σ.On p.1 := fun p hp => ⟨p.2, o2 p hp⟩
  have hfpm : ∀ c ∈ fpL g cons, ∃ p ∈ cons, c ∈ g.φ p.1 := fun c hc => by
    unfold fpL at hc
    obtain ⟨p, hp, hbp⟩ := List.mem_flatMap.1 hc
    exact ⟨p, hp, hbp⟩
  have hmix : ∀ c, (some c = top ∨ c ∈ f1 ++ (f2 ++ f3)) → c ∉ fpL g cons := fun c hc hm => by
    obtain ⟨p, hp, hcp⟩ := hfpm c hm
    exact (hT.bx c hc).2.2.2 p.1 (hne p hp) (hcO p hp) hcp
  have hb0 : b ∉ f1 ++ (f2 ++ f3) := hT.topfp b w7.symm
  have hnodup : (b :: (f1 ++ (fpL g cons ++ f3))).Nodup := by
    have h0 := hT.nodup
    obtain ⟨d1, d2, d3⟩ := List.nodup_append.1 h0
    obtain ⟨d4, d5, d6⟩ := List.nodup_append.1 d2
    refine List.nodup_cons.2 ⟨fun hm => ?_, List.nodup_append.2 ⟨d1, List.nodup_append.2 ⟨fpL_nodup hR o2 hnd, d5, fun c hc d hd hcd => ?_⟩, fun c hc d hd hcd => ?_⟩⟩
    · simp only [List.mem_append, not_or] at hm hb0
      rcases hm with hm | hm | hm
      · exact hb0.1 hm
      · exact hmix b (Or.inl w7.symm) hm
      · exact hb0.2.2 hm
    · subst hcd; exact hmix c (Or.inr (by simp [hd])) hc
    · subst hcd
      rcases List.mem_append.1 hd with hd | hd
      · exact hmix c (Or.inr (by simp [hc])) hd
      · exact d3 c hc c (by simp [hd]) rfl
  have hsame : ∀ k, k ≠ b → (w.setRow b (u1 ++ ((a.eval y).cells.toList ++ (u3 ++ rest))).toArray).heap[k]? = w.heap[k]? := fun k hk => setRow_other w _ k _ hk
  have hblk := setRow_heap w b cells (u1 ++ ((a.eval y).cells.toList ++ (u3 ++ rest))).toArray cty (0, 0) w4
  have hsize : (w.setRow b (u1 ++ ((a.eval y).cells.toList ++ (u3 ++ rest))).toArray).heap.size = w.heap.size := setRow_size _ _ _
  have hbk : Bk n0 w (w.setRow b (u1 ++ ((a.eval y).cells.toList ++ (u3 ++ rest))).toArray) := ⟨rfl, rfl, rfl, Nat.le_of_eq hsize.symm, fun k hk => hsame k fun e' => (hT.bx b (Or.inl w7.symm)).2.1.2.2 (e' ▸ hk)⟩
  generalize w.setRow b (u1 ++ ((a.eval y).cells.toList ++ (u3 ++ rest))).toArray = w' at hsame hblk hsize hbk ⊢
  have hR' := hR.apd_fin (w' := w') (y := ⟨true, sz, setRw rows i o ts, gn, true⟩) (v' := g.ψ e gn) (fp' := b :: (f1 ++ (fpL g cons ++ f3))) (fps2 := fpL g cons) hT rfl (fun m hm => ⟨by
      obtain ⟨z, hz, hmz⟩ := hm
      rw [he, Option.some.injEq] at hz
      subst hz
      exact hmz, fun em => by simp only at em; rw [em]⟩) (cons := cons) (fun p hp => ⟨(o2 p hp).1, (o2 p hp).2, hne p hp⟩) hfpm b (Or.inl w7.symm) (fun k _ hk => hsame k hk) (Nat.le_of_eq hsize.symm) hn0 hnodup (fun c hc => by
      simp only [List.mem_cons, List.mem_append] at hc ⊢
      rcases hc with h | h | h | h <;> simp [h]) (fun c hc => by simpa using hc.symm) fun A' hA => by
    refine ⟨some ⟨b, 0, none⟩, cp, by rw [setRw_len]; exact v1, by rw [setRw_len]; exact w2, w3, Or.inr ⟨b, _, cty, _, rfl, rfl, hblk, ?_, ?_⟩⟩
    · have := congrArg List.length hrest
      simp only [List.length_append, Array.length_toList] at this
      simp only [List.size_toArray, List.length_append, hnews]
      omega
    · simp only [if_true]
      have ha : OwnAll w' (setRw rows i o ts).flatten (u1 ++ ((a.eval y).cells.toList ++ u3)) (f1 ++ (fpL g cons ++ f3)) := by
        rw [q1]
        unfold setR
        rw [hts, List.append_assoc]
        refine (k1.append (o1.append k3)).keep fun c hc => hsame c fun hcb => ?_
        subst hcb
        exact (List.nodup_cons.1 hnodup).1 hc
      refine OwnRows.of_vals q2 ha fun j u hu => ?_
      rw [Nat.zero_add]
      have : (u1 ++ ((a.eval y).cells.toList ++ (u3 ++ rest))) = (u1 ++ ((a.eval y).cells.toList ++ u3)) ++ rest := by simp
      rw [this]
      simp only [List.getElem?_toArray]
      rw [List.getElem?_append_left (List.getElem?_eq_some_iff.1 hu).1]
      exact hu
  exact ⟨_, hR'.put ds (x := .one .any) trivial hdN, hbk, rfl, rfl⟩

/-- What a store into an owned slice that owns all it holds leaves: the slice, how it stands, what went into it. -/
def stoD (P : Program) (σ : St) (t : TypeId) (x y : Operand) : Option (Nat × Ev × List (Nat × Ev)) := match σ.get P 0 x with
  | .one (.eo e g sz i o) => (σ.ev e).bind fun z => (sizeT P t).bind fun n =>
    if z.deep = true ∧ z.sz = sz ∧ z.gen = g ∧ z.on = true ∧ (σ.get P t y).cells.length = n ∧ o + n ≤ sz ∧ (σ.get P t y).cells.all C.good = true ∧ (σ.get P t y).isTup = false then
      (dpCs σ (σ.get P t y).cells).map fun q => (e, ⟨true, sz, setRw z.rows i o q.1, g, true⟩, q.2) else none
  | _ => none
def St.apdO (σ : St) : Option (Nat × Ev × List (Nat × Ev)) → St
  | some (e, y, cons) => σ.apd e cons y
  | none => σ
section
variable {ks : List Fr} {Q : Exit → St → Prop} {σ : St} {ops : Array Oper} {os : List Oper} {L : List (List Ky × List Ky)} {ty : TypeId} {ps : String} {af : Array Edge} {ds : Option Nat} {x y : Operand} {t : TypeId}
theorem stoD_sem (h : onSome (stoD P σ t x y) fun r => (r.2.2.map (·.1)).Nodup ∧ ∀ p ∈ r.2.2, p.1 ≠ r.1) : StepSem P ⟨ds, .store t x y, ty, ps, af, none⟩ σ ((σ.apdO (stoD P σ t x y)).put ds (.one .any)) := by
  obtain ⟨⟨e, z', cons⟩, h1, h2, h3⟩ := onSome_ex h
  rw [h1]
  unfold stoD at h1
  split at h1
  · rename_i e' g sz i o hx
    obtain ⟨z, hz, h1⟩ := Option.bind_eq_some_iff.1 h1
    obtain ⟨n, hn, h1⟩ := Option.bind_eq_some_iff.1 h1
    split at h1
    · rename_i hh
      obtain ⟨zd, zsz, zr, zg, zo⟩ := z
      obtain ⟨k1, k2, k3, k4, k5, k6, k7, k8⟩ := hh
      obtain ⟨⟨ts, cs⟩, hq, h1⟩ := Option.map_eq_some_iff.1 h1
      simp only at k1 k2 k3 k4
      subst k1 k2 k3 k4
      simp only [Prod.mk.injEq] at h1
      obtain ⟨rfl, rfl, rfl⟩ := h1
      exact s_storeD hx hn hz k5 k6 k7 k8 hq h2 h3
    · cases h1
  · cases h1
/-- A store into an owned slice. -/
theorem storeD (h : onSome (stoD P σ t x y) fun r => (r.2.2.map (·.1)).Nodup ∧ ∀ p ∈ r.2.2, p.1 ≠ r.1)
    (k : exo P ops os ks Q ((σ.apdO (stoD P σ t x y)).put ds (.one .any))) : exoS P ops ⟨ds, .store t x y, ty, ps, af, none⟩ os ks Q σ := ⟨_, stoD_sem h, k⟩
end
attribute [go_sem] stoD St.apdO dpC dpCs dpRs
end Go.Proofs.Ytgfjbbbkploonaa
