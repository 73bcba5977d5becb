/-
  The walk over plain data: the call of a function that writes into what it was given.
  Conditions: none.
-/
import Derived.Test.YtgfjbbbkploonaaSxAB
namespace Go.Proofs.Ytgfjbbbkploonaa
set_option linter.unusedSimpArgs false
set_option linter.unusedVariables false
open Go.RowKit
variable {P : Program}
theorem inp_has {σ : St} {U : List (Nat × List (List T))} {e n : Nat} (h : σ.has e n) : (σ.inp U).has e n := by
  obtain ⟨x, hx, hn⟩ := h
  have : ∀ U : List (Nat × List (List T)), ∃ y, inpE U σ.ev e = some y ∧ y.gen = x.gen := by
    intro U
    induction U with
    | nil => exact ⟨x, hx, rfl⟩
    | cons p U ih =>
      obtain ⟨y, hy, hg⟩ := ih
      unfold inpE
      by_cases he : e = p.1
      · rw [he, upd_same, ← he, hx]; exact ⟨_, rfl, rfl⟩
      · rw [upd_ne _ _ he]; exact ⟨y, hy, hg⟩
  obtain ⟨y, hy, hg⟩ := this U
  exact ⟨y, hy, by omega⟩
theorem sem_callI {o : Oper} {σ : St} {x : Operand} {as : Array Operand} {ts : Array TypeId} {f : FuncId} {cvs : List V} {pre : List D} {d : D} {post : List D} {d' : D} {res : List D} {p1 : List V} {gv : V} {p2 : List V} (ho : o.op = .call ⟨.value x, as, ts⟩)
    (h : IC P f pre d post d' res) (hc : calleeOf (σ.get P 0 x) = some (f, cvs)) (hx : σ.gets P as ts ++ cvs = p1 ++ gv :: p2) (h1 : nmVs p1 pre) (h2 : nmVs p2 post) (hg : inG σ gv d d') (hr : res.all D.fl = true)
    (hview : Deep σ ∨ Shal σ (inUV gv d')) : StepSem P o σ ((σ.inp (inUV gv d')).put o.dst (tupV (res.map D.toV))) := by
  intro n0 N g a w hR hn hdN
  obtain ⟨vs, e1, e2⟩ := call_run hR ho hc h.1
  unfold Oper.wp
  rw [e1]
  rw [hx] at e2
  obtain ⟨us1, vs2, rfl, v1, v2⟩ := e2.split
  obtain ⟨v, us2, rfl, v3, v4⟩ := v2
  -- what is given is owned
  have hgiven : ∃ (U : List (Nat × List (List T))) (fp tp : List Nat), inUV gv d' = U ∧ U.Pairwise (fun p q => p.1 ≠ q.1) ∧ (∀ p ∈ U, ∃ sz rows gn, σ.ev p.1 = some ⟨true, sz, rows, gn, true⟩) ∧ GD w d v fp tp ∧ fp.Nodup ∧ (∀ b ∈ fp, ∃ p ∈ U, b ∈ g.φ p.1) ∧ (∀ p ∈ U, ∀ b ∈ g.φ p.1, b ∈ fp) ∧
      ∀ {w' : World} {fp' tp' : List Nat}, GD w' d' v fp' tp' → fp'.Nodup → ∃ φ' : Nat → List Nat, (∀ e, (∀ p ∈ U, p.1 ≠ e) → φ' e = g.φ e) ∧ (∀ p ∈ U, ∃ sz rows gn, σ.ev p.1 = some ⟨true, sz, rows, gn, true⟩ ∧ OwnV w' (.sl sz p.2) (g.ψ p.1 gn) (φ' p.1) ∧ (φ' p.1).Nodup ∧ ∀ b ∈ φ' p.1, b ∈ fp') ∧
        ∀ p ∈ U, ∀ q ∈ U, p.1 ≠ q.1 → ∀ b ∈ φ' p.1, b ∉ φ' q.1 := by
    unfold inG at hg
    split at hg
    · rename_i c t t'
      obtain ⟨k1, k2, ⟨fp, tp, k3, k4, k5, k6⟩, k7⟩ := inK_sound hR hg (vs := [v]) ⟨v, [], rfl, v3, rfl⟩
      obtain ⟨v0, vs0, f1, f2, t2, e, rfl, rfl, q1, q2⟩ := k3
      cases e
      obtain ⟨_, rfl, rfl⟩ := q2
      refine ⟨_, f1 ++ [], topT t f1 ++ [], rfl, k1, fun p hp => (k2 p hp).2, by simpa using ⟨q1, rfl⟩, k4, k5, k6, fun hg' hn' => k7 (fp' := _) (tp' := _) ⟨v, [], _, [], [], rfl, by simp, rfl, hg'.1, rfl, rfl, rfl⟩ hn'⟩
    · rename_i cs ts ts'
      obtain ⟨u, rfl, v3⟩ := v3
      obtain ⟨k1, k2, ⟨fp, tp, k3, k4, k5, k6⟩, k7⟩ := inK_sound hR hg v3
      refine ⟨_, fp, tp, rfl, k1, fun p hp => (k2 p hp).2, ⟨u, rfl, k3⟩, k4, k5, k6, fun hg' hn' => ?_⟩
      obtain ⟨u', e, hg'⟩ := hg'
      cases e
      exact k7 hg' hn'
    · exact hg.elim
  obtain ⟨U, fp, tp, hUe, u1, u2, u3, u4, u5, u6, u7⟩ := hgiven
  rw [hUe] at hview ⊢
  refine (h.2 w us1 v us2 fp tp (nmVs_rep _ h1 v1) u3 (nmVs_rep _ h2 v4) u4).mono ?_
  rintro e w' ⟨us, fp', tp', rfl, q1, q2, q3, q4⟩
  obtain ⟨v0, us0, f1, f2, t1, t2, e0, rfl, rfl, q5, q6⟩ := q1
  cases e0
  obtain ⟨n1, n2, n3⟩ := List.nodup_append.1 q2
  obtain ⟨φ', j1, j2, j3⟩ := u7 q5 n1
  have hsub : ∀ b ∈ f1, b ∈ fp ∨ w.heap.size ≤ b := fun b hb => q3 b (List.mem_append_left _ hb)
  have hOU : ∀ p ∈ U, σ.On p.1 := fun p hp => by obtain ⟨sz, rows, gn, e⟩ := u2 p hp; exact ⟨_, e, rfl⟩
  have hBk : Bk n0 w w' := ⟨q4.os, q4.tape, q4.output, q4.size, fun k hk => q4.block k ⟨hn k hk, fun hm => by
    obtain ⟨p, hp, hm⟩ := u5 k hm
    exact hR.etop p.1 (hOU p hp) k hm hk⟩⟩
  have hR' : Rel n0 N (σ.inp U) { g with φ := φ' } a w' := by
    have hb' : ∀ p ∈ U, ∀ b ∈ φ' p.1, b ∈ fp ∨ w.heap.size ≤ b := fun p hp b hb => by
      obtain ⟨_, _, _, _, _, _, q⟩ := j2 p hp
      exact hsub b (q b hb)
    rcases hview with ⟨d1, d2, d3⟩ | hS
    · refine hR.inp hn u1 u6 u5 q4 hsub j1 j2 j3 (fun i v h => mOk_vr (g := g) (g' := { g with φ := φ' }) rfl rfl (fun e n => inp_has) (d1 i) h) (fun b cs vs hb h => mOk_crs (g := g) (g' := { g with φ := φ' }) rfl rfl (fun e n => inp_has) (d2 b cs hb) h) (fun e x he hx hon v fpx hE hs => ?_) (fun e x hx hon => ?_)
      · obtain ⟨ao, cap, r1, r2, r3, r4⟩ := hE
        refine ⟨ao, cap, r1, r2, r3, ?_⟩
        rcases r4 with r4 | ⟨b, cells, ty, fps, r4, r5, r6, r7, r8⟩
        · exact Or.inl r4
        · subst r5
          rw [if_pos (d3 e x hx).2] at r8
          exact Or.inr ⟨b, cells, ty, fps, r4, rfl, by rw [hs b (by simp)]; exact r6, r7, by rw [if_pos (d3 e x hx).2]; exact OwnRows.keep cells 0 x.sz x.rows fps r8 fun b' hb' => hs b' (by simp [hb'])⟩
      · rw [(d3 e x hx).1] at hon; cases hon
    · have hhead : ∀ p ∈ U, ∀ b ∈ g.φ p.1, (g.φ p.1).head? = some b := fun p hp b hb => by
        obtain ⟨sz, rows, gn, e⟩ := u2 p hp
        have hf := hS p hp
        rw [e] at hf
        obtain ⟨ao, cap, r1, r2, r3, r4⟩ := hR.evs p.1 _ e rfl
        rcases r4 with ⟨_, _, _, r4⟩ | ⟨b0, cells, ty, fps, r4, r5, r6, r7, r8⟩
        · rw [r4] at hb; cases hb
        · rw [if_pos rfl] at r8
          have := OwnRows.flat hf r8
          rw [r5, this] at hb ⊢
          rw [List.mem_singleton.1 hb]; rfl
      have hnot : ∀ b, Fix σ g w b → b ∉ fp := fun b hf hm => by
        obtain ⟨p, hp, hm⟩ := u5 b hm
        obtain ⟨sz, rows, gn, e⟩ := u2 p hp
        exact hf.2.1 p.1 _ e rfl (hhead p hp b hm)
      have m : Mv σ (σ.inp U) g { g with φ := φ' } w w' := by
        refine ⟨fun b hf => q4.block b ⟨hf.2.2.1, hnot b hf⟩, fun b hf => ⟨hf.1, fun e x hx hon hh => ?_, Nat.lt_of_lt_of_le hf.2.2.1 q4.size, hf.2.2.2⟩, fun b hb => ⟨rfl, hb⟩, fun e n he => ⟨inp_has he, rfl⟩⟩
        have hh : (φ' e).head? = some b := hh
        by_cases hU : ∃ p ∈ U, p.1 = e
        · obtain ⟨p, hp, rfl⟩ := hU
          rcases hb' p hp b (List.mem_of_mem_head? hh) with h3 | h3
          · exact hnot b hf h3
          · have := hf.2.2.1; omega
        · have hne : ∀ p ∈ U, p.1 ≠ e := fun p hp he => hU ⟨p, hp, he⟩
          rw [j1 e hne] at hh
          refine hf.2.1 e x ?_ hon hh
          rw [← hx]
          exact (inpE_out fun hm => by
            obtain ⟨p, hp, he⟩ := List.mem_map.1 hm
            exact hne p hp he).symm
      exact hR.inp hn u1 u6 u5 q4 hsub j1 j2 j3 (fun i v h => m.vr h) (fun b cs vs _ h => m.crs h) (fun e x _ _ _ v fpx hE hs => m.evr hE hs) (fun e x _ _ v h => m.rep h)
  refine ⟨{ g with φ := φ' }, ?_, hBk, rfl, rfl⟩
  exact hR'.put o.dst (tupV_vr (RepDs.vrl (fls_rep hr q6)) (fun y hy => by
    obtain ⟨d, _, rfl⟩ := List.mem_map.1 hy
    cases d <;> rfl)) hdN

def shalL (σ : St) : List (Nat × List (List T)) → Prop
  | [] => True
  | p :: U => onSome (σ.ev p.1) (fun x => flR x.rows = true) ∧ shalL σ U
theorem shalL_shal {σ : St} : ∀ {U : List (Nat × List (List T))}, shalL σ U → Shal σ U
  | [], _, p, hp => absurd hp (by simp)
  | q :: U, h, p, hp => by
    rcases List.mem_cons.1 hp with rfl | hp
    · exact h.1
    · exact shalL_shal h.2 p hp
theorem deep_hd1 : ∀ {l : List (Nat × V)}, (l.all fun p => p.2.mOk) = true → ∀ i, (upds l i).mOk = true
  | [], _, _ => rfl
  | (j, v) :: l, h, i => by
    rw [List.all_cons, Bool.and_eq_true] at h
    unfold upds
    split
    · exact h.1
    · exact deep_hd1 h.2 i
theorem deep_hd2 : ∀ {bl : List (Nat × List C)}, (bl.all fun p => p.2.all C.mOk) = true → ∀ {b cs}, tbl bl b = some cs → cs.all C.mOk = true
  | [], _, _, _, hb => nomatch hb
  | (j, v) :: l, h, b, cs, hb => by
    rw [List.all_cons, Bool.and_eq_true] at h
    unfold tbl at hb
    split at hb
    · cases hb; exact h.1
    · exact deep_hd2 h.2 hb
theorem deep_hd3 : ∀ {el : List (Nat × Ev)}, (el.all fun p => p.2.on && p.2.deep) = true → ∀ {e x}, tbl el e = some x → x.on = true ∧ x.deep = true
  | [], _, _, _, hb => nomatch hb
  | (j, v) :: l, h, b, cs, hb => by
    rw [List.all_cons, Bool.and_eq_true] at h
    unfold tbl at hb
    split at hb
    · cases hb; simpa using h.1
    · exact deep_hd3 h.2 hb
theorem deep_hd {l : List (Nat × V)} {bl : List (Nat × List C)} {el : List (Nat × Ev)} (h1 : (l.all fun p => p.2.mOk) = true) (h2 : (bl.all fun p => p.2.all C.mOk) = true) (h3 : (el.all fun p => p.2.on && p.2.deep) = true) : Deep (hd l bl el) :=
  ⟨fun i => deep_hd1 h1 i, fun _ _ hb => deep_hd2 h2 hb, fun _ _ he => deep_hd3 h3 he⟩
/-- The arguments around the given one. -/
def spI (xs : List V) (n : Nat) (K : List V → V → List V → Prop) : Prop := match xs.drop n with
  | gv :: p2 => K (xs.take n) gv p2
  | [] => False
theorem spI_ex {xs : List V} {n : Nat} {K : List V → V → List V → Prop} (h : spI xs n K) : ∃ p1 gv p2, xs = p1 ++ gv :: p2 ∧ p1.length ≤ n ∧ K p1 gv p2 ∧ gv = (xs.drop n).headD (.one .any) := by
  unfold spI at h
  split at h
  · rename_i gv p2 hd
    exact ⟨xs.take n, gv, p2, by rw [← hd, List.take_append_drop], by simp; omega, h, by rw [hd]; rfl⟩
  · exact h.elim
def St.cI (P : Program) (σ : St) (x : Operand) (as : Array Operand) (ts : Array TypeId) (n : Nat) (dst : Option Nat) (d' : D) (res : List D) : St :=
  (σ.inp (inUV (((σ.gets P as ts ++ ((calleeOf (σ.get P 0 x)).map (·.2)).getD []).drop n).headD (.one .any)) d')).put dst (tupV (res.map D.toV))
section
variable {ks : List Fr} {Q : Exit → St → Prop} {σ : St} {ops : Array Oper} {os : List Oper} {ty : TypeId} {ps : String} {af : Array Edge} {dst : Option Nat} {x : Operand} {as : Array Operand} {ts : Array TypeId} {f : FuncId} {pre : List D} {d : D} {post : List D} {d' : D} {res : List D}
theorem callI_sem (hview : ∀ gv, (gv = (((σ.gets P as ts ++ ((calleeOf (σ.get P 0 x)).map (·.2)).getD []).drop pre.length).headD (.one .any))) → Deep σ ∨ Shal σ (inUV gv d')) (h : IC P f pre d post d' res)
    (hp : onSome (calleeOf (σ.get P 0 x)) fun p => p.1 = f ∧ spI (σ.gets P as ts ++ p.2) pre.length fun p1 gv p2 => nmVs p1 pre ∧ nmVs p2 post ∧ inG σ gv d d') (hr : res.all D.fl = true) :
    StepSem P ⟨dst, .call ⟨.value x, as, ts⟩, ty, ps, af, none⟩ σ (σ.cI P x as ts pre.length dst d' res) := by
  obtain ⟨⟨f', cvs⟩, h1, rfl, h2⟩ := onSome_ex hp
  obtain ⟨p1, gv, p2, e, _, ⟨k1, k2, k3⟩, e2⟩ := spI_ex h2
  unfold St.cI
  have e3 : ((σ.gets P as ts ++ ((calleeOf (σ.get P 0 x)).map (·.2)).getD []).drop pre.length).headD (.one .any) = gv := by rw [h1]; exact e2.symm
  rw [e3]
  exact sem_callI (o := ⟨dst, .call ⟨.value x, as, ts⟩, ty, ps, af, none⟩) rfl h h1 e k1 k2 k3 hr (hview gv e3.symm)
/-- A call that turns a slice of flat cells in place. -/
theorem callIs (h : IC P f pre d post d' res)
    (hp : onSome (calleeOf (σ.get P 0 x)) fun p => p.1 = f ∧ spI (σ.gets P as ts ++ p.2) pre.length fun p1 gv p2 => nmVs p1 pre ∧ nmVs p2 post ∧ inG σ gv d d')
    (hs : shalL σ (inUV (((σ.gets P as ts ++ ((calleeOf (σ.get P 0 x)).map (·.2)).getD []).drop pre.length).headD (.one .any)) d')) (hr : res.all D.fl = true)
    (k : exo P ops os ks Q (σ.cI P x as ts pre.length dst d' res)) : exo P ops (⟨dst, .call ⟨.value x, as, ts⟩, ty, ps, af, none⟩ :: os) ks Q σ :=
  exo_sem rfl rfl (callI_sem (fun gv e => Or.inr (e ▸ shalL_shal hs)) h hp hr) k
/-- A call that turns what it was given, however deep: nothing else is looked at from here on. -/
theorem callId {l : List (Nat × V)} {bl : List (Nat × List C)} {el : List (Nat × Ev)} (h : IC P f pre d post d' res) (hw : wkL σ (hd l bl el) l ∧ wkB σ (hd l bl el) bl ∧ wkE σ el)
    (hd1 : (l.all fun p => p.2.mOk) = true) (hd2 : (bl.all fun p => p.2.all C.mOk) = true) (hd3 : (el.all fun p => p.2.on && p.2.deep) = true)
    (hp : onSome (calleeOf ((hd l bl el).get P 0 x)) fun p => p.1 = f ∧ spI ((hd l bl el).gets P as ts ++ p.2) pre.length fun p1 gv p2 => nmVs p1 pre ∧ nmVs p2 post ∧ inG (hd l bl el) gv d d') (hr : res.all D.fl = true)
    (k : exo P ops os ks Q ((hd l bl el).cI P x as ts pre.length dst d' res)) : exo P ops (⟨dst, .call ⟨.value x, as, ts⟩, ty, ps, af, none⟩ :: os) ks Q σ :=
  exo_sem rfl rfl (StepSem.pre (weak_hd hw) (callI_sem (fun gv e => Or.inl (deep_hd hd1 hd2 hd3)) h hp hr)) k
end
attribute [go_sem] shalL spI St.cI inUV inU St.inp inpE inG inK nmVs nmV T.nm D.fl V.mOk C.mOk List.drop_succ_cons List.take_zero List.take_succ_cons List.headD_cons Option.getD_some
end Go.Proofs.Ytgfjbbbkploonaa
