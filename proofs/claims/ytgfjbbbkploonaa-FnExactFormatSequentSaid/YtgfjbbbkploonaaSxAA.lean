/-
  The walk over plain data: functions that write into what they were given.
  Conditions: none.
-/
import Derived.Test.YtgfjbbbkploonaaSxZ
namespace Go.Proofs.Ytgfjbbbkploonaa
set_option linter.unusedSimpArgs false
set_option linter.unusedVariables false
open Go.RowKit
variable {P : Program}
/-- One argument is given, and turned in place. -/
def IC (P : Program) (f : FuncId) (pre : List D) (d : D) (post : List D) (d' : D) (res : List D) : Prop := Callable P f ∧ ∀ (w : World) (us1 : List Value) (v : Value) (us2 : List Value) (fp tp : List Nat),
  RepDs w (fun b => b < w.heap.size ∧ b ∉ fp) pre us1 → GD w d v fp tp → RepDs w (fun b => b < w.heap.size ∧ b ∉ fp) post us2 → fp.Nodup →
  Calls P f ⟨us1 ++ v :: us2⟩ w fun e w' => ∃ us fp' tp', e = .returned (resVal us) ∧ GDs w' (d' :: res) (v :: us) fp' tp' ∧ fp'.Nodup ∧ (∀ b ∈ fp', b ∈ fp ∨ w.heap.size ≤ b) ∧ Bk (fun k => k < w.heap.size ∧ k ∉ fp) w w'
def argsI (pre : List D) (d : D) (post : List D) : List (Bool × D) := rd pre ++ (true, d) :: rd post
def initI (pre : List D) (d : D) (post : List D) : St := { initG (argsI pre d post) with sl := upd (initS 0 (argsI pre d post)) 1000000 (initS 0 (argsI pre d post) pre.length) }
def PI (P : Program) (rs : List ResultVar) (d' : D) (res : List D) (e : Exit) (σ : St) : Prop := match e with
  | .normal => onSome (resList P σ rs) fun vs => ownV σ [] (σ.sl 1000000 :: vs) (d' :: res)
  | .ret => onSome (resList P σ rs) fun vs => ownV σ [] (σ.sl 1000000 :: vs) (d' :: res)
  | _ => False
theorem GArgs.rd_append {w : World} {A : Nat → Prop} {ds : List (Bool × D)} {vs : List Value} {fp tp : List Nat} (h : GArgs w A ds vs fp tp) : ∀ {pre : List D} {us : List Value}, RepDs w A pre us → GArgs w A (rd pre ++ ds) (us ++ vs) fp tp
  | [], us, hp => by rw [show us = [] from hp]; exact h
  | d :: pre, us, hp => by
    obtain ⟨v, vs', rfl, h1, h2⟩ := hp
    exact ⟨v, vs' ++ vs, rfl, h1, GArgs.rd_append h h2⟩
theorem gargs_rd {w : World} {A : Nat → Prop} : ∀ {ds : List D} {vs : List Value}, RepDs w A ds vs → GArgs w A (rd ds) vs [] []
  | [], vs, h => ⟨h, rfl, rfl⟩
  | d :: ds, vs, h => by obtain ⟨v, vs', rfl, h1, h2⟩ := h; exact ⟨v, vs', rfl, h1, gargs_rd h2⟩
theorem Rel.ghost {n0 : Nat → Prop} {N : Nat} {σ : St} {g : Gh} {a : Act} {w : World} (h : Rel n0 N σ g a w) {i : Nat} (hi : N ≤ i) {x : V} (hv : VR σ g w x (g.R0.ξ i)) : Rel n0 N { σ with sl := upd σ.sl i x } g a w := by
  refine h.slots_of rfl rfl h.defers h.size fun j => ?_
  show VR σ g w (upd σ.sl i x j) _
  by_cases hj : j = i
  · subst hj
    rw [upd_same, Array.getD_eq_getD_getElem?, Array.getElem?_eq_none (by rw [h.size]; exact hi)]
    exact hv
  · rw [upd_ne _ _ hj]; exact h.slots j
/-- A contract out of a walk. -/
theorem IC_of {f : FuncId} {fn : Func} {c : Code} {pre : List D} {d : D} {post : List D} {d' : D} {res : List D} (hc : Callable P f) (hf : P.funcs[f]? = some fn) (hb : fn.body = some c) (hd : dstOk fn.ntmps c = true) (hN : (argsI pre d post).length ≤ fn.ntmps) (hN2 : fn.ntmps ≤ 1000000) (hs : smallG (argsI pre d post)) (hnb : ∀ b, d ≠ .one (.bool b))
    (h : ex P c [] (PI P fn.results.toList d' res) (initI pre d post)) : IC P f pre d post d' res := by
  refine ⟨hc, fun w us1 v us2 fp tp h1 h2 h3 hn => ?_⟩
  refine calls_of_wp hf hb ?_
  have hga : GArgs w (fun b => b < w.heap.size ∧ True ∧ b ∉ fp) (argsI pre d post) (us1 ++ v :: us2) fp tp := by
    have k : ∀ {ds : List D} {vs : List Value}, RepDs w (fun b => b < w.heap.size ∧ b ∉ fp) ds vs → RepDs w (fun b => b < w.heap.size ∧ True ∧ b ∉ fp) ds vs := fun h => RepDs.keep (fun _ _ => rfl) (fun b hb => ⟨hb.1, trivial, hb.2⟩) h
    refine GArgs.rd_append ?_ (k h1)
    exact ⟨v, us2, fp, [], tp, [], rfl, by simp, by simp, h2, gargs_rd (k h3)⟩
  have hvb : ∀ b, v ≠ .bool b := fun b hv => by
    subst hv
    cases d with
    | one t =>
      obtain ⟨h2, _⟩ := h2
      cases t <;> unfold OwnV at h2
      · cases h2.1
      · exact hnb _ rfl
      · cases h2.1
      · obtain ⟨ao, cap, e, _⟩ := h2; cases e
      · exact h2.elim
      · exact h2.elim
      · exact h2.elim
    | agg ts => obtain ⟨x, e, _⟩ := h2; cases e
  have hlen1 : us1.length = pre.length := RepDs.len h1
  obtain ⟨g, hg, hR⟩ := Rel.start (A := fun _ => True) (A0 := fun _ => True) (R0 := ⟨fun b => b ∈ fp ∨ w.heap.size ≤ b, fun i => if i = 1000000 then v else undef, fun i hi => if_neg (by omega), fun i b => by
    by_cases h : i = 1000000
    · rw [if_pos h]; exact hvb b
    · rw [if_neg h]; exact fun e => by cases e⟩) (N := fn.ntmps) hga hn hs hN (fun _ _ => trivial) (fun b hb => ⟨trivial, Or.inl hb⟩) (fun b hb => ⟨trivial, by
    by_cases hlt : b < w.heap.size
    · exact Or.inl (Classical.byContradiction fun h => hb ⟨hlt, h⟩)
    · exact Or.inr (by omega)⟩)
  have hR0 : g.R0.ξ 1000000 = v := by rw [(Prod.mk.inj hg).2]; show (if 1000000 = 1000000 then v else undef) = v; rw [if_pos rfl]
  have hv0 : VR (initG (argsI pre d post)) g w (initS 0 (argsI pre d post) pre.length) (g.R0.ξ 1000000) := by
    have hs0 := hR.slots pre.length
    have hlt : pre.length < (us1 ++ v :: us2).length := by simp; omega
    have e : (((⟨us1 ++ v :: us2⟩ : Array Value) ++ Array.replicate (fn.ntmps - (us1 ++ v :: us2).length) undef)).getD pre.length (g.R0.ξ pre.length) = v := by
      rw [Array.getD_eq_getD_getElem?, Array.getElem?_append_left (by simpa using hlt)]
      simp [hlt, hlen1]
    rw [hR0]
    rw [e] at hs0
    exact hs0
  have hR1 := hR.ghost hN2 hv0
  refine wp_mono (exec_sound (w0 := w) c (initI pre d post) _ hd h g _ w hR1 (fun k hk => hk.1) (Bk.refl _ _) hg) fun e a' w' hq => ?_
  obtain ⟨σ', g', q1, q2, q3, q4, q5⟩ := hq
  have key : onSome (resList P σ' fn.results.toList) (fun vs => ownV σ' [] (σ'.sl 1000000 :: vs) (d' :: res)) → ∃ u, (results fn a'.tmps).run P w' = .ok u w' ∧ ∃ us fp' tp', Ending.returned u = .returned (resVal us) ∧ GDs w' (d' :: res) (v :: us) fp' tp' ∧ fp'.Nodup ∧ (∀ b ∈ fp', b ∈ fp ∨ w.heap.size ≤ b) ∧ Bk (fun k => k < w.heap.size ∧ k ∉ fp) w w' := fun hk => by
    unfold onSome at hk
    split at hk
    · rename_i vs hvs
      obtain ⟨us, r1, r2⟩ := results_run q2 fn hvs
      have hgv : VR σ' g' w' (σ'.sl 1000000) v := by
        have := q2.slots 1000000
        rw [Array.getD_eq_getD_getElem?, Array.getElem?_eq_none (by rw [q2.size]; exact hN2), (Prod.mk.inj q5).2] at this
        simpa using this
      obtain ⟨used, fp', tp', o1, o2⟩ := ownV_sound q2 hk (us := v :: us) ⟨v, us, rfl, hgv, r2⟩
      refine ⟨_, r1, us, fp', tp', rfl, o1, o2.1, fun b hb => ?_, q4⟩
      obtain ⟨e, _, _, l, m⟩ := o2.2.1 b hb
      have := (q2.ebase e l b m).2
      rw [(Prod.mk.inj q5).2] at this
      exact this
    · exact hk.elim
  cases e with
  | normal => exact ⟨q2.defers, key q1⟩
  | ret => exact ⟨q2.defers, key q1⟩
  | exit _ => exact q1.elim
  | goto _ => exact q1.elim
  | panic _ => exact q1.elim
  | outgrown => exact q1.elim

/-- The owned slices that a call turns in place, with their new rows. -/
def inU : List C → List T → List (Nat × List (List T))
  | .ow e _ :: cs, .sl _ rows' :: ts' => (e, rows') :: inU cs ts'
  | _ :: cs, _ :: ts' => inU cs ts'
  | _, _ => []
def inpE : List (Nat × List (List T)) → (Nat → Option Ev) → Nat → Option Ev
  | [], f => f
  | (e, rows') :: U, f => upd (inpE U f) e ((f e).map fun x => { x with rows := rows' })
def St.inp (σ : St) (U : List (Nat × List (List T))) : St := { σ with ev := inpE U σ.ev }
/-- What is given, and what it becomes. -/
def inK (σ : St) : List Nat → List C → List T → List T → Prop
  | _, [], [], [] => True
  | used, .t x :: cs, t :: ts, t' :: ts' => x = t ∧ t' = t ∧ t.flat = true ∧ inK σ used cs ts ts'
  | used, .nl _ :: cs, .sl _ rows :: ts, .sl _ rows' :: ts' => rows = [] ∧ rows' = [] ∧ inK σ used cs ts ts'
  | used, .ow e g :: cs, .sl sz rows :: ts, .sl sz' rows' :: ts' => e ∉ used ∧ sz' = sz ∧ σ.ev e = some ⟨true, sz, rows, g, true⟩ ∧ inK σ (e :: used) cs ts ts'
  | _, _, _, _ => False
theorem inpE_out {U : List (Nat × List (List T))} {f : Nat → Option Ev} {e : Nat} (h : e ∉ U.map (·.1)) : inpE U f e = f e := by
  induction U with
  | nil => rfl
  | cons p U ih =>
    simp only [List.map_cons, List.mem_cons, not_or] at h
    unfold inpE
    rw [upd_ne _ _ h.1, ih h.2]
theorem inpE_in {U : List (Nat × List (List T))} {f : Nat → Option Ev} (hn : (U.map (·.1)).Nodup) {e : Nat} {rows' : List (List T)} (h : (e, rows') ∈ U) : inpE U f e = (f e).map fun x => { x with rows := rows' } := by
  induction U with
  | nil => simp at h
  | cons p U ih =>
    obtain ⟨e0, r0⟩ := p
    simp only [List.map_cons, List.nodup_cons] at hn
    unfold inpE
    rcases List.mem_cons.1 h with h | h
    · cases h; rw [upd_same]
    · have hne : e ≠ e0 := fun he => hn.1 (he ▸ List.mem_map.2 ⟨_, h, rfl⟩)
      rw [upd_ne _ _ hne, ih hn.2 h]
/-- The given cells are owned; behind the call they are owned as what they became. -/
theorem inK_sound {n0 : Nat → Prop} {N : Nat} {σ : St} {g : Gh} {a : Act} {w : World} (hR : Rel n0 N σ g a w) : ∀ {cs : List C} {ts ts' : List T} {used : List Nat} {vs : List Value}, inK σ used cs ts ts' → CRs σ g w cs vs →
    (inU cs ts').Pairwise (fun p q => p.1 ≠ q.1) ∧ (∀ p ∈ inU cs ts', p.1 ∉ used ∧ ∃ sz rows gn, σ.ev p.1 = some ⟨true, sz, rows, gn, true⟩) ∧
    (∃ fp tp, GAll w ts vs fp tp ∧ fp.Nodup ∧ (∀ b ∈ fp, ∃ p ∈ inU cs ts', b ∈ g.φ p.1) ∧ ∀ p ∈ inU cs ts', ∀ b ∈ g.φ p.1, b ∈ fp) ∧
    ∀ {w' : World} {fp' tp' : List Nat}, GAll w' ts' vs fp' tp' → fp'.Nodup → ∃ φ' : Nat → List Nat, (∀ e, (∀ p ∈ inU cs ts', p.1 ≠ e) → φ' e = g.φ e) ∧ (∀ p ∈ inU cs ts', ∃ sz rows gn, σ.ev p.1 = some ⟨true, sz, rows, gn, true⟩ ∧ OwnV w' (.sl sz p.2) (g.ψ p.1 gn) (φ' p.1) ∧ (φ' p.1).Nodup ∧ ∀ b ∈ φ' p.1, b ∈ fp') ∧
      ∀ p ∈ inU cs ts', ∀ q ∈ inU cs ts', p.1 ≠ q.1 → ∀ b ∈ φ' p.1, b ∉ φ' q.1
  | [], [], [], used, vs, h, hv => by
    rw [show vs = [] from hv]
    refine ⟨List.Pairwise.nil, by simp [inU], ⟨[], [], ⟨rfl, rfl, rfl⟩, List.nodup_nil, by simp, by simp [inU]⟩, fun _ _ => ⟨g.φ, fun _ _ => rfl, by simp [inU], by simp [inU]⟩⟩
  | .t x :: cs, t :: ts, t' :: ts', used, vs, h, hv => by
    obtain ⟨hx, ht, hf, h⟩ := h
    subst hx
    subst ht
    obtain ⟨v, vs', rfl, hv1, hv2⟩ := hv
    obtain ⟨k1, k2, ⟨fp, tp, k3, k4, k5, k6⟩, k7⟩ := inK_sound hR h hv2
    have hU : ∀ y, inU (.t y :: cs) (y :: ts') = inU cs ts' := fun y => by cases y <;> rfl
    rw [hU]
    have hown : ∀ y : T, y.flat = true → CR σ g w (.t y) v → OwnV w y v [] ∧ topT y [] = [] := fun y hf hv1 => by
      simp only [CR] at hv1
      cases y <;> simp only [T.flat, Bool.false_eq_true] at hf <;> unfold RepV at hv1 <;> unfold OwnV
      · exact ⟨⟨hv1.1, hv1.2.1, hv1.2.2, rfl⟩, rfl⟩
      · exact ⟨⟨hv1, rfl⟩, rfl⟩
      · exact ⟨⟨hv1.1, hv1.2, rfl⟩, rfl⟩
    refine ⟨k1, k2, ⟨fp, tp, ⟨v, vs', [], fp, tp, rfl, by simp, by rw [(hown _ hf hv1).2]; simp, (hown _ hf hv1).1, k3⟩, k4, k5, k6⟩, fun hg hn => ?_⟩
    obtain ⟨v0, vs0, f1, f2, t2, e, rfl, _, _, hg2⟩ := hg
    cases e
    obtain ⟨φ', j1, j2, j3⟩ := k7 hg2 (List.nodup_append.1 hn).2.1
    exact ⟨φ', j1, fun p hp => by obtain ⟨sz, rows, gn, q1, q2, q3, q4⟩ := j2 p hp; exact ⟨sz, rows, gn, q1, q2, q3, fun b hb => List.mem_append_right _ (q4 b hb)⟩, j3⟩
  | .nl z :: cs, .sl sz rows :: ts, .sl sz' rows' :: ts', used, vs, h, hv => by
    obtain ⟨rfl, rfl, h⟩ := h
    obtain ⟨v, vs', rfl, hv1, hv2⟩ := hv
    obtain ⟨k1, k2, ⟨fp, tp, k3, k4, k5, k6⟩, k7⟩ := inK_sound hR h hv2
    have hU : inU (.nl z :: cs) (.sl sz' [] :: ts') = inU cs ts' := rfl
    rw [hU]
    have hv1 : v = .slice none 0 0 := hv1
    refine ⟨k1, k2, ⟨fp, tp, ⟨v, vs', [], fp, tp, rfl, by simp, by simp [topT], by unfold OwnV; exact ⟨none, 0, hv1, by simp, by simp, Or.inl ⟨rfl, rfl, rfl, rfl⟩⟩, k3⟩, k4, k5, k6⟩, fun hg hn => ?_⟩
    obtain ⟨v0, vs0, f1, f2, t2, e, rfl, _, _, hg2⟩ := hg
    cases e
    obtain ⟨φ', j1, j2, j3⟩ := k7 hg2 (List.nodup_append.1 hn).2.1
    exact ⟨φ', j1, fun p hp => by obtain ⟨sz, rows, gn, q1, q2, q3, q4⟩ := j2 p hp; exact ⟨sz, rows, gn, q1, q2, q3, fun b hb => List.mem_append_right _ (q4 b hb)⟩, j3⟩
  | .ow e gn :: cs, .sl sz rows :: ts, .sl sz' rows' :: ts', used, vs, h, hv => by
    obtain ⟨hu, rfl, he, h⟩ := h
    obtain ⟨v, vs', rfl, hv1, hv2⟩ := hv
    obtain ⟨k1, k2, ⟨fp, tp, k3, k4, k5, k6⟩, k7⟩ := inK_sound hR h hv2
    have hU : inU (.ow e gn :: cs) (.sl sz' rows' :: ts') = (e, rows') :: inU cs ts' := rfl
    rw [hU]
    have hO : σ.On e := ⟨_, he, rfl⟩
    have hne : ∀ p ∈ inU cs ts', e ≠ p.1 := fun p hp hh => (k2 p hp).1 (by simp [hh])
    have hown := own_event hR he
    refine ⟨List.pairwise_cons.2 ⟨fun p hp => hne p hp, k1⟩, fun p hp => ?_, ⟨g.φ e ++ fp, topT (.sl sz' rows) (g.φ e) ++ tp, ⟨v, vs', g.φ e, fp, tp, rfl, rfl, rfl, by rw [hv1.1]; exact hown, k3⟩, List.nodup_append.2 ⟨hR.nodup e hO, k4, fun b hb c hc hbc => ?_⟩, fun b hb => ?_, fun p hp b hb => ?_⟩, fun {w'} {fp'} {tp'} hg hn => ?_⟩
    · rcases List.mem_cons.1 hp with rfl | hp
      · exact ⟨hu, _, _, _, he⟩
      · exact ⟨fun hh => (k2 p hp).1 (by simp [hh]), (k2 p hp).2⟩
    · subst hbc
      obtain ⟨p, hp, hm⟩ := k5 b hc
      obtain ⟨sz2, rows2, gn2, hev⟩ := (k2 p hp).2
      exact hR.apart e p.1 hO ⟨_, hev, rfl⟩ (hne p hp) b hb hm
    · rcases List.mem_append.1 hb with hb | hb
      · exact ⟨(e, rows'), by simp, hb⟩
      · obtain ⟨p, hp, hm⟩ := k5 b hb
        exact ⟨p, by simp [hp], hm⟩
    · rcases List.mem_cons.1 hp with rfl | hp
      · exact List.mem_append_left _ hb
      · exact List.mem_append_right _ (k6 p hp b hb)
    · obtain ⟨v0, vs0, f1, f2, t2, e0, rfl, _, hg1, hg2⟩ := hg
      cases e0
      obtain ⟨n1, n2, n3⟩ := List.nodup_append.1 hn
      obtain ⟨φ', j1, j2, j3⟩ := k7 hg2 n2
      refine ⟨upd φ' e f1, fun e' h' => ?_, fun p hp => ?_, fun p hp q hq hpq b hb hb' => ?_⟩
      · rw [upd_ne _ _ (Ne.symm (h' (e, rows') (by simp)))]
        exact j1 e' fun p hp => h' p (by simp [hp])
      · rcases List.mem_cons.1 hp with rfl | hp
        · refine ⟨sz', rows, gn, he, ?_, by rw [upd_same]; exact n1, fun b hb => by rw [upd_same] at hb; exact List.mem_append_left _ hb⟩
          rw [upd_same, ← hv1.1]
          exact hg1
        · obtain ⟨sz2, rows2, gn2, q1, q2, q3, q4⟩ := j2 p hp
          have := Ne.symm (hne p hp)
          exact ⟨sz2, rows2, gn2, q1, by rw [upd_ne _ _ this]; exact q2, by rw [upd_ne _ _ this]; exact q3, fun b hb => by rw [upd_ne _ _ this] at hb; exact List.mem_append_right _ (q4 b hb)⟩
      · rcases List.mem_cons.1 hp with rfl | hp <;> rcases List.mem_cons.1 hq with rfl | hq
        · exact hpq rfl
        · have hne2 := Ne.symm (hne q hq)
          rw [upd_same] at hb
          rw [upd_ne _ _ hne2] at hb'
          obtain ⟨_, _, _, _, _, _, q4⟩ := j2 q hq
          exact n3 b hb b (q4 b hb') rfl
        · have hne2 := Ne.symm (hne p hp)
          rw [upd_ne _ _ hne2] at hb
          rw [upd_same] at hb'
          obtain ⟨_, _, _, _, _, _, q4⟩ := j2 p hp
          exact n3 b hb' b (q4 b hb) rfl
        · rw [upd_ne _ _ (Ne.symm (hne p hp))] at hb
          rw [upd_ne _ _ (Ne.symm (hne q hq))] at hb'
          exact j3 p hp q hq hpq b hb hb'
end Go.Proofs.Ytgfjbbbkploonaa
