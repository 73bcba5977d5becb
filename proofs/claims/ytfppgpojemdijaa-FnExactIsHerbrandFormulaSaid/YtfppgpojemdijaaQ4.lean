import Derived.Test.YtfppgpojemdijaaQ3
import Derived.MapKept
/-
  The walk over plain data: functions that write into what they were given.
  Conditions: none.
-/
namespace Go.Proofs.Ytfppgpojemdijaa
set_option linter.unusedSimpArgs false
set_option linter.unusedVariables false
set_option linter.unusedSectionVars false
set_option maxRecDepth 4000
open Go.RowKit
variable {P : Program}
def D.sls : D → Prop
  | .one (.sl _ _) => True
  | .agg _ => True
  | _ => False
/-- One argument is given, and turned in place. -/
def IC (P : Program) (f : FuncId) (pre : List D) (d : D) (post : List D) (d' : D) (res : List D) : Prop := Callable P f ∧ ∀ (w : World) (us1 : List Value) (v : Value) (us2 : List Value) (fp tp : List Nat),
  RepDs w (fun b => b < w.heap.size ∧ b ∉ fp) pre us1 → GD w d v fp tp → RepDs w (fun b => b < w.heap.size ∧ b ∉ fp) post us2 → fp.Nodup →
  Calls P f ⟨us1 ++ v :: us2⟩ w fun e w' => ∃ us fp' tp', e = .returned (resVal us) ∧ GDs w' (d' :: res) (v :: us) fp' tp' ∧ fp'.Nodup ∧ (∀ b ∈ fp', b ∈ fp ∨ w.heap.size ≤ b) ∧ Bk (fun k => k < w.heap.size ∧ k ∉ fp) w w'
def argsI (pre : List D) (d : D) (post : List D) : List (Bool × D) := rd pre ++ (true, d) :: rd post
def initI (pre : List D) (d : D) (post : List D) : St := { initG (argsI pre d post) with sl := upd (initS 0 (argsI pre d post)) 1000000 (initS 0 (argsI pre d post) pre.length) }
def PI (P : Program) (rs : List ResultVar) (d' : D) (res : List D) (e : Exit) (σ : St) : Prop := match e with
  | .normal => onSome (resList P σ rs) fun vs => ownV σ [] (σ.sl 1000000 :: vs) (d' :: res)
  | .ret => onSome (resList P σ rs) fun vs => ownV σ [] (σ.sl 1000000 :: vs) (d' :: res)
  | _ => False
theorem GArgs.rd_append {w : World} {A : Nat → Prop} {ds : List (Bool × D)} {vs : List Value} {fp tp : List Nat} (h : GArgs w A ds vs fp tp) : ∀ {pre : List D} {us : List Value}, RepDs w A pre us → GArgs w A (rd pre ++ ds) (us ++ vs) fp tp
  | [], us, hp => by rw [show us = [] from hp]; exact h
  | d :: pre, us, hp => by
    obtain ⟨v, vs', rfl, h1, h2⟩ := hp
    exact ⟨v, vs' ++ vs, rfl, h1, GArgs.rd_append h h2⟩
theorem gargs_rd {w : World} {A : Nat → Prop} : ∀ {ds : List D} {vs : List Value}, RepDs w A ds vs → GArgs w A (rd ds) vs [] []
  | [], vs, h => ⟨h, rfl, rfl⟩
  | d :: ds, vs, h => by obtain ⟨v, vs', rfl, h1, h2⟩ := h; exact ⟨v, vs', rfl, h1, gargs_rd h2⟩
theorem Rel.ghost {n0 : Nat → Prop} {N : Nat} {σ : St} {g : Gh} {a : Act} {w : World} (h : Rel n0 N σ g a w) {i : Nat} (hi : N ≤ i) {x : V} (hv : VR σ g w x (g.R0.ξ i)) : Rel n0 N { σ with sl := upd σ.sl i x } g a w := by
  refine h.slots_of rfl rfl h.defers h.size fun j => ?_
  show VR σ g w (upd σ.sl i x j) _
  by_cases hj : j = i
  · subst hj
    rw [upd_same, Array.getD_eq_getD_getElem?, Array.getElem?_eq_none (by rw [h.size]; exact hi)]
    exact hv
  · rw [upd_ne _ _ hj]; exact h.slots j
/-- A contract out of a walk; what the walk begins with may be looked at anew. -/
theorem IC_ofW {f : FuncId} {fn : Func} {c : Code} {pre : List D} {d : D} {post : List D} {d' : D} {res : List D} (hc : Callable P f) (hf : P.funcs[f]? = some fn) (hb : fn.body = some c) (hd : dstOk fn.ntmps c = true) (hN : (argsI pre d post).length ≤ fn.ntmps) (hN2 : fn.ntmps ≤ 1000000) (hs : smallG (argsI pre d post)) (hnb : d.sls)
    (h : ∀ n0 N g a w, Rel n0 N (initI pre d post) g a w → LtK n0 w → ∃ σ0, ex P c [] (PI P fn.results.toList d' res) σ0 ∧ Rel n0 N σ0 g a w) : IC P f pre d post d' res := by
  refine ⟨hc, fun w us1 v us2 fp tp h1 h2 h3 hn => ?_⟩
  refine calls_of_wp hf hb ?_
  have hga : GArgs w (fun b => b < w.heap.size ∧ True ∧ b ∉ fp) (argsI pre d post) (us1 ++ v :: us2) fp tp := by
    have k : ∀ {ds : List D} {vs : List Value}, RepDs w (fun b => b < w.heap.size ∧ b ∉ fp) ds vs → RepDs w (fun b => b < w.heap.size ∧ True ∧ b ∉ fp) ds vs := fun h => RepDs.keep (fun _ _ => rfl) (fun b hb => ⟨hb.1, trivial, hb.2⟩) h
    refine GArgs.rd_append ?_ (k h1)
    exact ⟨v, us2, fp, [], tp, [], rfl, by simp, by simp, h2, gargs_rd (k h3)⟩
  have hvb : ∀ b, v ≠ .bool b := fun b hv => by
    subst hv
    cases d with
    | one t =>
      obtain ⟨h2, _⟩ := h2
      cases t
      case sl => unfold OwnV at h2; obtain ⟨ao, cap, e, _⟩ := h2; cases e
      all_goals exact hnb.elim
    | agg ts => obtain ⟨x, e, _⟩ := h2; cases e
  have hlen1 : us1.length = pre.length := RepDs.len h1
  obtain ⟨g, hg, hR⟩ := Rel.start (A := fun _ => True) (A0 := fun _ => True) (R0 := ⟨fun b => b ∈ fp ∨ w.heap.size ≤ b, fun i => if i = 1000000 then v else undef, fun i hi => if_neg (by omega), fun i b => by
    by_cases h : i = 1000000
    · rw [if_pos h]; exact hvb b
    · rw [if_neg h]; exact fun e => by cases e⟩) (N := fn.ntmps) hga hn hs hN (fun _ _ => trivial) (fun b hb => ⟨trivial, Or.inl hb⟩) (fun b hb => ⟨trivial, by
    by_cases hlt : b < w.heap.size
    · exact Or.inl (Classical.byContradiction fun h => hb ⟨hlt, h⟩)
    · exact Or.inr (by omega)⟩)
  have hR0 : g.R0.ξ 1000000 = v := by rw [(Prod.mk.inj hg).2]; show (if 1000000 = 1000000 then v else undef) = v; rw [if_pos rfl]
  have hv0 : VR (initG (argsI pre d post)) g w (initS 0 (argsI pre d post) pre.length) (g.R0.ξ 1000000) := by
    have hs0 := hR.slots pre.length
    have hlt : pre.length < (us1 ++ v :: us2).length := by simp; omega
    have e : (((⟨us1 ++ v :: us2⟩ : Array Value) ++ Array.replicate (fn.ntmps - (us1 ++ v :: us2).length) undef)).getD pre.length (g.R0.ξ pre.length) = v := by
      rw [Array.getD_eq_getD_getElem?, Array.getElem?_append_left (by simpa using hlt)]
      simp [hlt, hlen1]
    rw [hR0]
    rw [e] at hs0
    exact hs0
  have hR1 := hR.ghost hN2 hv0
  obtain ⟨σ0, hex, hR2⟩ := h _ _ g _ w hR1 (fun k hk => hk.1)
  refine wp_mono (exec_sound (w0 := w) c σ0 _ hd hex g _ w hR2 (fun k hk => hk.1) (Bk.refl _ _) hg) fun e a' w' hq => ?_
  obtain ⟨σ', g', q1, q2, q3, q4, q5⟩ := hq
  have key : onSome (resList P σ' fn.results.toList) (fun vs => ownV σ' [] (σ'.sl 1000000 :: vs) (d' :: res)) → ∃ u, (results fn a'.tmps).run P w' = .ok u w' ∧ ∃ us fp' tp', Ending.returned u = .returned (resVal us) ∧ GDs w' (d' :: res) (v :: us) fp' tp' ∧ fp'.Nodup ∧ (∀ b ∈ fp', b ∈ fp ∨ w.heap.size ≤ b) ∧ Bk (fun k => k < w.heap.size ∧ k ∉ fp) w w' := fun hk => by
    unfold onSome at hk
    split at hk
    · rename_i vs hvs
      obtain ⟨us, r1, r2⟩ := results_run q2 fn hvs
      have hgv : VR σ' g' w' (σ'.sl 1000000) v := by
        have := q2.slots 1000000
        rw [Array.getD_eq_getD_getElem?, Array.getElem?_eq_none (by rw [q2.size]; exact hN2), (Prod.mk.inj q5).2] at this
        simpa using this
      obtain ⟨used, fp', tp', o1, o2⟩ := ownV_sound q2 hk (us := v :: us) ⟨v, us, rfl, hgv, r2⟩
      refine ⟨_, r1, us, fp', tp', rfl, o1, o2.1, fun b hb => ?_, q4⟩
      obtain ⟨e, _, _, l, m⟩ := o2.2.1 b hb
      have := (q2.ebase e l b m).2
      rw [(Prod.mk.inj q5).2] at this
      exact this
    · exact hk.elim
  cases e with
  | normal => exact ⟨q2.defers, key q1⟩
  | ret => exact ⟨q2.defers, key q1⟩
  | exit _ => exact q1.elim
  | goto _ => exact q1.elim
  | panic _ => exact q1.elim
  | outgrown => exact q1.elim

/-- A contract out of a walk. -/
theorem IC_of {f : FuncId} {fn : Func} {c : Code} {pre : List D} {d : D} {post : List D} {d' : D} {res : List D} (hc : Callable P f) (hf : P.funcs[f]? = some fn) (hb : fn.body = some c) (hd : dstOk fn.ntmps c = true) (hN : (argsI pre d post).length ≤ fn.ntmps) (hN2 : fn.ntmps ≤ 1000000) (hs : smallG (argsI pre d post)) (hnb : d.sls)
    (h : ex P c [] (PI P fn.results.toList d' res) (initI pre d post)) : IC P f pre d post d' res :=
  IC_ofW hc hf hb hd hN hN2 hs hnb fun n0 N g a w hR hn => ⟨_, h, hR⟩
/-- The owned slices that a call turns in place, with their new rows. -/
def inU : List C → List T → List (Nat × List (List T))
  | .ow e _ :: cs, .sl _ rows' :: ts' => (e, rows') :: inU cs ts'
  | _ :: cs, _ :: ts' => inU cs ts'
  | _, _ => []
def inpE : List (Nat × List (List T)) → (Nat → Option Ev) → Nat → Option Ev
  | [], f => f
  | (e, rows') :: U, f => upd (inpE U f) e ((f e).map fun x => { x with rows := rows' })
def St.inp (σ : St) (U : List (Nat × List (List T))) : St := { σ with ev := inpE U σ.ev }
/-- What is given, and what it becomes. -/
def inK (σ : St) : List Nat → List C → List T → List T → Prop
  | _, [], [], [] => True
  | used, .t x :: cs, t :: ts, t' :: ts' => x = t ∧ t' = t ∧ t.flat = true ∧ inK σ used cs ts ts'
  | used, .nl _ :: cs, .sl _ rows :: ts, .sl _ rows' :: ts' => rows = [] ∧ rows' = [] ∧ inK σ used cs ts ts'
  | used, .ow e g :: cs, .sl sz rows :: ts, .sl sz' rows' :: ts' => e ∉ used ∧ sz' = sz ∧ σ.ev e = some ⟨true, sz, rows, g, true⟩ ∧ inK σ (e :: used) cs ts ts'
  | _, _, _, _ => False
theorem inpE_out {U : List (Nat × List (List T))} {f : Nat → Option Ev} {e : Nat} (h : e ∉ U.map (·.1)) : inpE U f e = f e := by
  induction U with
  | nil => rfl
  | cons p U ih =>
    simp only [List.map_cons, List.mem_cons, not_or] at h
    unfold inpE
    rw [upd_ne _ _ h.1, ih h.2]
theorem inpE_in {U : List (Nat × List (List T))} {f : Nat → Option Ev} (hn : (U.map (·.1)).Nodup) {e : Nat} {rows' : List (List T)} (h : (e, rows') ∈ U) : inpE U f e = (f e).map fun x => { x with rows := rows' } := by
  induction U with
  | nil => simp at h
  | cons p U ih =>
    obtain ⟨e0, r0⟩ := p
    simp only [List.map_cons, List.nodup_cons] at hn
    unfold inpE
    rcases List.mem_cons.1 h with h | h
    · cases h; rw [upd_same]
    · have hne : e ≠ e0 := fun he => hn.1 (he ▸ List.mem_map.2 ⟨_, h, rfl⟩)
      rw [upd_ne _ _ hne, ih hn.2 h]
/-- The given cells are owned; behind the call they are owned as what they became. -/
theorem inK_sound {n0 : Nat → Prop} {N : Nat} {σ : St} {g : Gh} {a : Act} {w : World} (hR : Rel n0 N σ g a w) : ∀ {cs : List C} {ts ts' : List T} {used : List Nat} {vs : List Value}, inK σ used cs ts ts' → CRs σ g w cs vs →
    (inU cs ts').Pairwise (fun p q => p.1 ≠ q.1) ∧ (∀ p ∈ inU cs ts', p.1 ∉ used ∧ ∃ sz rows gn, σ.ev p.1 = some ⟨true, sz, rows, gn, true⟩) ∧
    (∃ fp tp, GAll w ts vs fp tp ∧ fp.Nodup ∧ (∀ b ∈ fp, ∃ p ∈ inU cs ts', b ∈ g.φ p.1) ∧ ∀ p ∈ inU cs ts', ∀ b ∈ g.φ p.1, b ∈ fp) ∧
    ∀ {w' : World} {fp' tp' : List Nat}, GAll w' ts' vs fp' tp' → fp'.Nodup → ∃ φ' : Nat → List Nat, (∀ e, (∀ p ∈ inU cs ts', p.1 ≠ e) → φ' e = g.φ e) ∧ (∀ p ∈ inU cs ts', ∃ sz rows gn, σ.ev p.1 = some ⟨true, sz, rows, gn, true⟩ ∧ OwnV w' (.sl sz p.2) (g.ψ p.1 gn) (φ' p.1) ∧ (φ' p.1).Nodup ∧ ∀ b ∈ φ' p.1, b ∈ fp') ∧
      ∀ p ∈ inU cs ts', ∀ q ∈ inU cs ts', p.1 ≠ q.1 → ∀ b ∈ φ' p.1, b ∉ φ' q.1
  | [], [], [], used, vs, h, hv => by
    rw [show vs = [] from hv]
    refine ⟨List.Pairwise.nil, by simp [inU], ⟨[], [], ⟨rfl, rfl, rfl⟩, List.nodup_nil, by simp, by simp [inU]⟩, fun _ _ => ⟨g.φ, fun _ _ => rfl, by simp [inU], by simp [inU]⟩⟩
  | .t x :: cs, t :: ts, t' :: ts', used, vs, h, hv => by
    obtain ⟨hx, ht, hf, h⟩ := h
    subst hx
    subst ht
    obtain ⟨v, vs', rfl, hv1, hv2⟩ := hv
    obtain ⟨k1, k2, ⟨fp, tp, k3, k4, k5, k6⟩, k7⟩ := inK_sound hR h hv2
    have hU : ∀ y, inU (.t y :: cs) (y :: ts') = inU cs ts' := fun y => by cases y <;> rfl
    rw [hU]
    have hown : ∀ y : T, y.flat = true → CR σ g w (.t y) v → OwnV w y v [] ∧ topT y [] = [] := fun y hf hv1 => by
      simp only [CR] at hv1
      cases y <;> simp only [T.flat, Bool.false_eq_true] at hf <;> unfold RepV at hv1 <;> unfold OwnV
      · exact ⟨⟨hv1.1, hv1.2.1, hv1.2.2, rfl⟩, rfl⟩
      · exact ⟨⟨hv1, rfl⟩, rfl⟩
      · exact ⟨⟨hv1.1, hv1.2, rfl⟩, rfl⟩
      · exact ⟨⟨hv1, rfl⟩, rfl⟩
    refine ⟨k1, k2, ⟨fp, tp, ⟨v, vs', [], fp, tp, rfl, by simp, by rw [(hown _ hf hv1).2]; simp, (hown _ hf hv1).1, k3⟩, k4, k5, k6⟩, fun hg hn => ?_⟩
    obtain ⟨v0, vs0, f1, f2, t2, e, rfl, _, _, hg2⟩ := hg
    cases e
    obtain ⟨φ', j1, j2, j3⟩ := k7 hg2 (List.nodup_append.1 hn).2.1
    exact ⟨φ', j1, fun p hp => by obtain ⟨sz, rows, gn, q1, q2, q3, q4⟩ := j2 p hp; exact ⟨sz, rows, gn, q1, q2, q3, fun b hb => List.mem_append_right _ (q4 b hb)⟩, j3⟩
  | .nl z :: cs, .sl sz rows :: ts, .sl sz' rows' :: ts', used, vs, h, hv => by
    obtain ⟨rfl, rfl, h⟩ := h
    obtain ⟨v, vs', rfl, hv1, hv2⟩ := hv
    obtain ⟨k1, k2, ⟨fp, tp, k3, k4, k5, k6⟩, k7⟩ := inK_sound hR h hv2
    have hU : inU (.nl z :: cs) (.sl sz' [] :: ts') = inU cs ts' := rfl
    rw [hU]
    have hv1 : v = .slice none 0 0 := hv1
    refine ⟨k1, k2, ⟨fp, tp, ⟨v, vs', [], fp, tp, rfl, by simp, by simp [topT], by unfold OwnV; exact ⟨none, 0, hv1, by simp, by simp, Or.inl ⟨rfl, rfl, rfl, rfl⟩⟩, k3⟩, k4, k5, k6⟩, fun hg hn => ?_⟩
    obtain ⟨v0, vs0, f1, f2, t2, e, rfl, _, _, hg2⟩ := hg
    cases e
    obtain ⟨φ', j1, j2, j3⟩ := k7 hg2 (List.nodup_append.1 hn).2.1
    exact ⟨φ', j1, fun p hp => by obtain ⟨sz, rows, gn, q1, q2, q3, q4⟩ := j2 p hp; exact ⟨sz, rows, gn, q1, q2, q3, fun b hb => List.mem_append_right _ (q4 b hb)⟩, j3⟩
  | .ow e gn :: cs, .sl sz rows :: ts, .sl sz' rows' :: ts', used, vs, h, hv => by
    obtain ⟨hu, rfl, he, h⟩ := h
    obtain ⟨v, vs', rfl, hv1, hv2⟩ := hv
    obtain ⟨k1, k2, ⟨fp, tp, k3, k4, k5, k6⟩, k7⟩ := inK_sound hR h hv2
    have hU : inU (.ow e gn :: cs) (.sl sz' rows' :: ts') = (e, rows') :: inU cs ts' := rfl
    rw [hU]
    have hO : σ.On e := ⟨_, he, rfl⟩
    have hne : ∀ p ∈ inU cs ts', e ≠ p.1 := fun p hp hh => (k2 p hp).1 (by simp [hh])
    have hown := own_event hR he
    refine ⟨List.pairwise_cons.2 ⟨fun p hp => hne p hp, k1⟩, fun p hp => ?_, ⟨g.φ e ++ fp, topT (.sl sz' rows) (g.φ e) ++ tp, ⟨v, vs', g.φ e, fp, tp, rfl, rfl, rfl, by rw [hv1.1]; exact hown, k3⟩, List.nodup_append.2 ⟨hR.nodup e hO, k4, fun b hb c hc hbc => ?_⟩, fun b hb => ?_, fun p hp b hb => ?_⟩, fun {w'} {fp'} {tp'} hg hn => ?_⟩
    · rcases List.mem_cons.1 hp with rfl | hp
      · exact ⟨hu, _, _, _, he⟩
      · exact ⟨fun hh => (k2 p hp).1 (by simp [hh]), (k2 p hp).2⟩
    · subst hbc
      obtain ⟨p, hp, hm⟩ := k5 b hc
      obtain ⟨sz2, rows2, gn2, hev⟩ := (k2 p hp).2
      exact hR.apart e p.1 hO ⟨_, hev, rfl⟩ (hne p hp) b hb hm
    · rcases List.mem_append.1 hb with hb | hb
      · exact ⟨(e, rows'), by simp, hb⟩
      · obtain ⟨p, hp, hm⟩ := k5 b hb
        exact ⟨p, by simp [hp], hm⟩
    · rcases List.mem_cons.1 hp with rfl | hp
      · exact List.mem_append_left _ hb
      · exact List.mem_append_right _ (k6 p hp b hb)
    · obtain ⟨v0, vs0, f1, f2, t2, e0, rfl, _, hg1, hg2⟩ := hg
      cases e0
      obtain ⟨n1, n2, n3⟩ := List.nodup_append.1 hn
      obtain ⟨φ', j1, j2, j3⟩ := k7 hg2 n2
      refine ⟨upd φ' e f1, fun e' h' => ?_, fun p hp => ?_, fun p hp q hq hpq b hb hb' => ?_⟩
      · rw [upd_ne _ _ (Ne.symm (h' (e, rows') (by simp)))]
        exact j1 e' fun p hp => h' p (by simp [hp])
      · rcases List.mem_cons.1 hp with rfl | hp
        · refine ⟨sz', rows, gn, he, ?_, by rw [upd_same]; exact n1, fun b hb => by rw [upd_same] at hb; exact List.mem_append_left _ hb⟩
          rw [upd_same, ← hv1.1]
          exact hg1
        · obtain ⟨sz2, rows2, gn2, q1, q2, q3, q4⟩ := j2 p hp
          have := Ne.symm (hne p hp)
          exact ⟨sz2, rows2, gn2, q1, by rw [upd_ne _ _ this]; exact q2, by rw [upd_ne _ _ this]; exact q3, fun b hb => by rw [upd_ne _ _ this] at hb; exact List.mem_append_right _ (q4 b hb)⟩
      · rcases List.mem_cons.1 hp with rfl | hp <;> rcases List.mem_cons.1 hq with rfl | hq
        · exact hpq rfl
        · have hne2 := Ne.symm (hne q hq)
          rw [upd_same] at hb
          rw [upd_ne _ _ hne2] at hb'
          obtain ⟨_, _, _, _, _, _, q4⟩ := j2 q hq
          exact n3 b hb b (q4 b hb') rfl
        · have hne2 := Ne.symm (hne p hp)
          rw [upd_ne _ _ hne2] at hb
          rw [upd_same] at hb'
          obtain ⟨_, _, _, _, _, _, q4⟩ := j2 p hp
          exact n3 b hb' b (q4 b hb) rfl
        · rw [upd_ne _ _ (Ne.symm (hne p hp))] at hb
          rw [upd_ne _ _ (Ne.symm (hne q hq))] at hb'
          exact j3 p hp q hq hpq b hb hb'
end Go.Proofs.Ytfppgpojemdijaa
/-
  The walk over plain data: calls of functions that write into what they were given.
  Conditions: none.
-/
namespace Go.Proofs.Ytfppgpojemdijaa
set_option linter.unusedSimpArgs false
set_option linter.unusedVariables false
set_option linter.unusedSectionVars false
set_option maxRecDepth 4000
open Go.RowKit
variable {P : Program}
theorem Rel.inp {n0 : Nat → Prop} {N : Nat} {σ : St} {g : Gh} {a : Act} {w w' : World} (hR : Rel n0 N σ g a w) (hn : LtK n0 w) {U : List (Nat × List (List T))} (hU : U.Pairwise (fun p q => p.1 ≠ q.1)) {fp fp' : List Nat}
    (hfp : ∀ p ∈ U, ∀ b ∈ g.φ p.1, b ∈ fp) (hfpU : ∀ b ∈ fp, ∃ p ∈ U, b ∈ g.φ p.1) (hbk : Bk (fun k => k < w.heap.size ∧ k ∉ fp) w w') (hfp' : ∀ b ∈ fp', b ∈ fp ∨ w.heap.size ≤ b)
    {φ' : Nat → List Nat} (j1 : ∀ e, (∀ p ∈ U, p.1 ≠ e) → φ' e = g.φ e)
    (j2 : ∀ p ∈ U, ∃ sz rows gn, σ.ev p.1 = some ⟨true, sz, rows, gn, true⟩ ∧ OwnV w' (.sl sz p.2) (g.ψ p.1 gn) (φ' p.1) ∧ (φ' p.1).Nodup ∧ ∀ b ∈ φ' p.1, b ∈ fp')
    (j3 : ∀ p ∈ U, ∀ q ∈ U, p.1 ≠ q.1 → ∀ b ∈ φ' p.1, b ∉ φ' q.1)
    (hv1 : ∀ i v, VR σ g w (σ.sl i) v → VR (σ.inp U) { g with φ := φ' } w' (σ.sl i) v)
    (hv2 : ∀ b cs vs, σ.bx b = some cs → CRs σ g w cs vs → CRs (σ.inp U) { g with φ := φ' } w' cs vs)
    (hv3 : ∀ e x, (∀ p ∈ U, p.1 ≠ e) → σ.ev e = some x → x.on = true → ∀ v fpx, EvR w (Fix σ g w) x v fpx → (∀ b ∈ fpx, w'.heap[b]? = w.heap[b]?) → EvR w' (Fix (σ.inp U) { g with φ := φ' } w') x v fpx)
    (hv4 : ∀ e x, σ.ev e = some x → x.on = false → ∀ v, RepV w (Fix σ g w) (.sl x.sz x.rows) v → RepV w' (Fix (σ.inp U) { g with φ := φ' } w') (.sl x.sz x.rows) v) :
    Rel n0 N (σ.inp U) { g with φ := φ' } a w' := by
  have hNd : (U.map (·.1)).Nodup := List.pairwise_map.2 hU
  have hin : ∀ p ∈ U, ∃ sz rows gn, σ.ev p.1 = some ⟨true, sz, rows, gn, true⟩ ∧ (σ.inp U).ev p.1 = some ⟨true, sz, p.2, gn, true⟩ ∧ OwnV w' (.sl sz p.2) (g.ψ p.1 gn) (φ' p.1) := fun p hp => by
    obtain ⟨sz, rows, gn, q1, q2, _⟩ := j2 p hp
    refine ⟨sz, rows, gn, q1, ?_, q2⟩
    show inpE U σ.ev p.1 = _
    rw [inpE_in hNd (show (p.1, p.2) ∈ U from hp), q1]; rfl
  have hout : ∀ e, (∀ p ∈ U, p.1 ≠ e) → (σ.inp U).ev e = σ.ev e := fun e h => inpE_out fun hm => by
    obtain ⟨p, hp, he⟩ := List.mem_map.1 hm
    exact h p hp he
  have hcase : ∀ e, (∃ p ∈ U, p.1 = e) ∨ ∀ p ∈ U, p.1 ≠ e := fun e => by
    by_cases h : ∃ p ∈ U, p.1 = e
    · exact Or.inl h
    · exact Or.inr fun p hp he => h ⟨p, hp, he⟩
  have hOU : ∀ p ∈ U, σ.On p.1 := fun p hp => by obtain ⟨sz, rows, gn, q1, _⟩ := hin p hp; exact ⟨_, q1, rfl⟩
  have hon : ∀ e, (∀ p ∈ U, p.1 ≠ e) → (σ.inp U).On e → σ.On e := fun e h ho => by
    obtain ⟨x, hx, ho⟩ := ho
    exact ⟨x, (hout e h).symm.trans hx, ho⟩
  have hold : ∀ b ∈ fp, b < w.heap.size := fun b hb => by
    obtain ⟨p, hp, hm⟩ := hfpU b hb
    obtain ⟨x, hx, ho⟩ := hOU p hp
    exact (hR.evs _ x hx ho).lt b hm
  have hbx : ∀ k, σ.bx k ≠ none → g.β k ∉ fp := fun k hk hm => by
    obtain ⟨p, hp, hm⟩ := hfpU _ hm
    exact hR.ebx p.1 k (hOU p hp) hk hm
  have happ : ∀ e, (∀ p ∈ U, p.1 ≠ e) → σ.On e → ∀ b ∈ g.φ e, b ∉ fp := fun e h ho b hb hm => by
    obtain ⟨p, hp, hm⟩ := hfpU b hm
    exact hR.apart e p.1 ho (hOU p hp) (Ne.symm (h p hp)) b hb hm
  have hlt : ∀ e, σ.On e → ∀ b ∈ g.φ e, b < w.heap.size := fun e ho b hb => by
    obtain ⟨x, hx, ho⟩ := ho
    exact (hR.evs e x hx ho).lt b hb
  have hb' : ∀ p ∈ U, ∀ b ∈ φ' p.1, b ∈ fp ∨ w.heap.size ≤ b := fun p hp b hb => by
    obtain ⟨_, _, _, _, _, _, q⟩ := j2 p hp
    exact hfp' b (q b hb)
  refine ⟨hR.defers, hR.size, hR.anew, fun i => hv1 i _ (hR.slots i), fun b cs hb => ?_, hR.base, hR.inj, fun e x he ho => ?_, fun e x he ho => ?_, hR.slc, fun e he b hb => ?_, fun e he b hb => ?_, fun e he => ?_, fun e e' h1 h2 hne b hb1 hb2 => ?_, fun e k he hk hm => ?_⟩
  · obtain ⟨vs, ty, k1, k2⟩ := hR.boxes b cs hb
    have hne : σ.bx b ≠ none := by rw [show σ.bx b = some cs from hb]; simp
    exact ⟨vs, ty, by rw [hbk.block _ ⟨hR.lt hne, hbx b hne⟩]; exact k1, hv2 b cs _ hb k2⟩
  · rcases hcase e with ⟨p, hp, rfl⟩ | h
    · obtain ⟨sz, rows, gn, q1, q2, q3⟩ := hin p hp
      rw [q2, Option.some.injEq] at he
      subst he
      unfold OwnV at q3
      obtain ⟨ao, cap, r1, r2, r3, r4⟩ := q3
      refine ⟨ao, cap, r1, r2, r3, ?_⟩
      rcases r4 with r4 | ⟨b, cells, ty, fps, r4, r5, r6, r7, r8⟩
      · exact Or.inl r4
      · exact Or.inr ⟨b, cells, ty, fps, r4, r5, r6, r7, by rw [if_pos rfl]; exact r8⟩
    · rw [hout e h] at he
      have hO : σ.On e := ⟨x, he, ho⟩
      show EvR w' _ x (g.ψ e x.gen) (φ' e)
      rw [j1 e h]
      exact hv3 e x h he ho _ _ (hR.evs e x he ho) fun b hb => hbk.block b ⟨hlt e hO b hb, happ e h hO b hb⟩
  · rcases hcase e with ⟨p, hp, rfl⟩ | h
    · obtain ⟨sz, rows, gn, q1, q2, q3⟩ := hin p hp
      rw [q2, Option.some.injEq] at he
      subst he
      cases ho
    · rw [hout e h] at he
      exact ⟨hv4 e x he ho _ (hR.offs e x he ho).1, (hR.offs e x he ho).2⟩
  · rcases hcase e with ⟨p, hp, rfl⟩ | h
    · rcases hb' p hp b hb with h1 | h1
      · obtain ⟨q, hq, hm⟩ := hfpU b h1
        exact hR.ebase q.1 (hOU q hq) b hm
      · exact hR.anew b (hn.new h1)
    · have hb : b ∈ g.φ e := j1 e h ▸ hb
      exact hR.ebase e (hon e h he) b hb
  · rcases hcase e with ⟨p, hp, rfl⟩ | h
    · rcases hb' p hp b hb with h1 | h1
      · obtain ⟨q, hq, hm⟩ := hfpU b h1
        exact hR.etop q.1 (hOU q hq) b hm
      · exact hn.new h1
    · have hb : b ∈ g.φ e := j1 e h ▸ hb
      exact hR.etop e (hon e h he) b hb
  · rcases hcase e with ⟨p, hp, rfl⟩ | h
    · obtain ⟨_, _, _, _, _, q, _⟩ := j2 p hp
      exact q
    · show (φ' e).Nodup
      rw [j1 e h]; exact hR.nodup e (hon e h he)
  · have hb1 : b ∈ φ' e := hb1
    have hb2 : b ∈ φ' e' := hb2
    rcases hcase e with ⟨p, hp, rfl⟩ | k1 <;> rcases hcase e' with ⟨q, hq, rfl⟩ | k2
    · exact j3 p hp q hq hne b hb1 hb2
    · rw [j1 e' k2] at hb2
      rcases hb' p hp b hb1 with h3 | h3
      · exact happ e' k2 (hon e' k2 h2) b hb2 h3
      · have := hlt e' (hon e' k2 h2) b hb2; omega
    · rw [j1 e k1] at hb1
      rcases hb' q hq b hb2 with h3 | h3
      · exact happ e k1 (hon e k1 h1) b hb1 h3
      · have := hlt e (hon e k1 h1) b hb1; omega
    · rw [j1 e k1] at hb1
      rw [j1 e' k2] at hb2
      exact hR.apart e e' (hon e k1 h1) (hon e' k2 h2) hne b hb1 hb2
  · have hm : g.β k ∈ φ' e := hm
    rcases hcase e with ⟨p, hp, rfl⟩ | h
    · rcases hb' p hp _ hm with h1 | h1
      · exact hbx k hk h1
      · have := hR.lt hk; omega
    · rw [j1 e h] at hm
      exact hR.ebx e k (hon e h he) hk hm

/-- Arguments that lean on no memory. -/
def T.nm : T → Bool
  | .fn _ [] => true
  | t => t.flat
def nmV : V → D → Prop
  | .one (.t x), .one y => x = y ∧ T.nm y = true
  | .one (.fn f []), .one (.fn g []) => f = g
  | _, _ => False
def nmVs : List V → List D → Prop
  | [], [] => True
  | v :: vs, d :: ds => nmV v d ∧ nmVs vs ds
  | _, _ => False
theorem flat_rep {w w' : World} {A A' : Nat → Prop} {x : T} {v : Value} (hf : x.flat = true) (h : RepV w A x v) : RepV w' A' x v := by
  cases x <;> simp only [T.flat, Bool.false_eq_true] at hf <;> unfold RepV at h ⊢ <;> exact h
theorem nmV_rep {σ : St} {g : Gh} {w : World} {x : V} {d : D} {v : Value} (h : nmV x d) (hv : VR σ g w x v) (A : Nat → Prop) : RepD w A d v := by
  unfold nmV at h
  split at h
  · obtain ⟨rfl, h⟩ := h
    unfold T.nm at h
    split at h
    · simp only [VR, CR] at hv
      unfold RepV at hv
      obtain ⟨vs, e, h2⟩ := hv
      unfold RepAll at h2
      subst h2
      show RepV _ _ _ _
      unfold RepV
      exact ⟨[], e, by unfold RepAll; rfl⟩
    · exact flat_rep h hv
  · subst h
    obtain ⟨e, _⟩ := hv
    show RepV _ _ _ _
    unfold RepV
    exact ⟨[], e, by unfold RepAll; rfl⟩
  · exact h.elim
theorem nmVs_rep {σ : St} {g : Gh} {w : World} (A : Nat → Prop) : ∀ {xs : List V} {ds : List D} {vs : List Value}, nmVs xs ds → VRl σ g w xs vs → RepDs w A ds vs
  | [], [], vs, _, h => h
  | x :: xs, d :: ds, vs, h, hv => by
    obtain ⟨v, vs', rfl, h1, h2⟩ := hv
    exact ⟨v, vs', rfl, nmV_rep h.1 h1 A, nmVs_rep A h.2 h2⟩
  | [], _ :: _, _, h, _ => h.elim
  | _ :: _, [], _, h, _ => h.elim
theorem VRl.split {σ : St} {g : Gh} {w : World} : ∀ {x1 x2 : List V} {vs : List Value}, VRl σ g w (x1 ++ x2) vs → ∃ u1 u2, vs = u1 ++ u2 ∧ VRl σ g w x1 u1 ∧ VRl σ g w x2 u2
  | [], _, vs, h => ⟨[], vs, rfl, rfl, h⟩
  | x :: xs, _, vs, h => by
    obtain ⟨v, vs', rfl, h1, h2⟩ := h
    obtain ⟨u1, u2, rfl, k1, k2⟩ := VRl.split h2
    exact ⟨v :: u1, u2, rfl, ⟨v, u1, rfl, h1, k1⟩, k2⟩
def inG (σ : St) : V → D → D → Prop
  | .one c, .one t, .one t' => inK σ [] [c] [t] [t']
  | .agg cs, .agg ts, .agg ts' => inK σ [] cs ts ts'
  | _, _, _ => False
def inUV : V → D → List (Nat × List (List T))
  | .one c, .one t' => inU [c] [t']
  | .agg cs, .agg ts' => inU cs ts'
  | _, _ => []
def D.fl : D → Bool
  | .one t => t.flat
  | .agg ts => ts.all T.flat
theorem flats_rep {w : World} {A : Nat → Prop} : ∀ {ts : List T} {vs : List Value} {fp tp : List Nat}, ts.all T.flat = true → GAll w ts vs fp tp → RepAll w A ts vs
  | [], vs, _, _, _, h => by unfold RepAll; exact h.1
  | t :: ts, vs, _, _, hf, h => by
    rw [List.all_cons, Bool.and_eq_true] at hf
    obtain ⟨v, vs', f1, f2, t2, rfl, _, _, h1, h2⟩ := h
    unfold RepAll
    exact ⟨v, vs', rfl, flat_rep hf.1 (OwnV.rep (A := fun _ => True) t v f1 h1 fun _ _ => trivial), flats_rep hf.2 h2⟩
theorem fls_rep {w : World} {A : Nat → Prop} : ∀ {ds : List D} {vs : List Value} {fp tp : List Nat}, ds.all D.fl = true → GDs w ds vs fp tp → RepDs w A ds vs
  | [], vs, _, _, _, h => h.1
  | .one t :: ds, vs, _, _, hf, h => by
    rw [List.all_cons, Bool.and_eq_true] at hf
    obtain ⟨v, vs', f1, f2, t1, t2, rfl, _, _, h1, h2⟩ := h
    exact ⟨v, vs', rfl, flat_rep hf.1 (OwnV.rep (A := fun _ => True) t v f1 h1.1 fun _ _ => trivial), fls_rep hf.2 h2⟩
  | .agg ts :: ds, vs, _, _, hf, h => by
    rw [List.all_cons, Bool.and_eq_true] at hf
    obtain ⟨v, vs', f1, f2, t1, t2, rfl, _, _, ⟨a, e, h1⟩, h2⟩ := h
    exact ⟨v, vs', rfl, ⟨a, e, flats_rep hf.1 h1⟩, fls_rep hf.2 h2⟩
/-- What is looked at stays as it is: either no memory is looked at but the call's own whole slices .. -/
def C.mOk : C → Bool
  | .t x => x.flat
  | .el _ _ => false
  | .er _ _ => true
  | _ => true
def V.mOk : V → Bool
  | .one c => c.mOk
  | .agg cs => cs.all C.mOk
  | .tup xs => xs.all fun x => x.2.all C.mOk
def Deep (σ : St) : Prop := (∀ i, (σ.sl i).mOk = true) ∧ (∀ b cs, σ.bx b = some cs → cs.all C.mOk = true) ∧ ∀ e x, σ.ev e = some x → x.on = true ∧ x.deep = true
/-- .. or the slices that are turned hold flat cells alone. -/
def Shal (σ : St) (U : List (Nat × List (List T))) : Prop := ∀ p ∈ U, onSome (σ.ev p.1) fun x => flR x.rows = true
theorem OwnAt.flat {w : World} {cells : Array Value} : ∀ {r : List T} {o : Nat} {fps : List Nat}, r.all T.flat = true → OwnAt w cells o r fps → fps = []
  | [], _, _, _, h => by unfold OwnAt at h; exact h
  | t :: r, o, fps, hf, h => by
    rw [List.all_cons, Bool.and_eq_true] at hf
    unfold OwnAt at h
    obtain ⟨v, f1, f2, _, rfl, h1, h2⟩ := h
    rw [OwnAt.flat hf.2 h2, List.append_nil]
    have hf1 := hf.1
    cases t <;> simp only [T.flat, Bool.false_eq_true] at hf1 <;> unfold OwnV at h1
    · exact h1.2.2.2
    · exact h1.2
    · exact h1.2.2
    · exact h1.2
theorem OwnRows.flat {w : World} {cells : Array Value} {sz : Nat} : ∀ {rows : List (List T)} {o : Nat} {fps : List Nat}, flR rows = true → OwnRows w cells o sz rows fps → fps = []
  | [], _, _, _, h => by unfold OwnRows at h; exact h
  | r :: rows, o, fps, hf, h => by
    unfold flR at hf
    rw [Bool.and_eq_true] at hf
    unfold OwnRows at h
    obtain ⟨_, f1, f2, rfl, h1, h2⟩ := h
    rw [OwnAt.flat hf.1 h1, OwnRows.flat hf.2 h2, List.append_nil]
section
variable {σ : St} {g g' : Gh} {w w' : World} {U : List (Nat × List (List T))}
theorem mOk_cr (hβ : g'.β = g.β) (hψ : g'.ψ = g.ψ) (hh : ∀ e n, σ.has e n → (σ.inp U).has e n) (hrn : ∀ b, Free σ g w b → w'.heap[b]? = w.heap[b]? ∧ Free (σ.inp U) g' w' b) {c : C} {v : Value} (hc : c.mOk = true) (h : CR σ g w c v) : CR (σ.inp U) g' w' c v := by
  cases c with
  | t x => exact flat_rep hc h
  | nl s => exact h
  | ow e n => exact ⟨by rw [hψ]; exact h.1, hh e n h.2⟩
  | bx b o => exact ⟨by rw [hβ]; exact h.1, h.2⟩
  | el cs o => cases hc
  | eo e s sz i o => obtain ⟨b, n, c, k1, k2, k3, k4⟩ := h; exact ⟨b, n, c, by rw [hψ]; exact k1, k2, k3, hh e s k4⟩
  | fn f caps => exact ⟨by rw [hβ]; exact h.1, h.2⟩
  | cv u => exact h
  | any => trivial
  | rn x => exact RepV.keep (fun b hb => (hrn b hb).1) (fun b hb => (hrn b hb).2) x v h
  | er cs o => obtain ⟨b, q, h1, h2, h3⟩ := h; exact ⟨b, q, h1, (hrn b h2).2, RepAt.keep (fun b hb => (hrn b hb).1) (fun b hb => (hrn b hb).2) b (hrn b h2).1 q cs h3⟩
theorem mOk_crs (hβ : g'.β = g.β) (hψ : g'.ψ = g.ψ) (hh : ∀ e n, σ.has e n → (σ.inp U).has e n) (hrn : ∀ b, Free σ g w b → w'.heap[b]? = w.heap[b]? ∧ Free (σ.inp U) g' w' b) : ∀ {cs : List C} {vs : List Value}, cs.all C.mOk = true → CRs σ g w cs vs → CRs (σ.inp U) g' w' cs vs
  | [], _, _, h => h
  | c :: cs, vs, hc, h => by
    rw [List.all_cons, Bool.and_eq_true] at hc
    obtain ⟨v, vs', rfl, h1, h2⟩ := h
    exact ⟨v, vs', rfl, mOk_cr hβ hψ hh hrn hc.1 h1, mOk_crs hβ hψ hh hrn hc.2 h2⟩
theorem mOk_crt (hβ : g'.β = g.β) (hψ : g'.ψ = g.ψ) (hh : ∀ e n, σ.has e n → (σ.inp U).has e n) (hrn : ∀ b, Free σ g w b → w'.heap[b]? = w.heap[b]? ∧ Free (σ.inp U) g' w' b) : ∀ {xs : List (Bool × List C)} {vs : List Value}, (xs.all fun x => x.2.all C.mOk) = true → CRt σ g w xs vs → CRt (σ.inp U) g' w' xs vs
  | [], _, _, h => h
  | x :: xs, vs, hc, h => by
    rw [List.all_cons, Bool.and_eq_true] at hc
    obtain ⟨v, vs', rfl, h1, h2⟩ := h
    refine ⟨v, vs', rfl, ?_, mOk_crt hβ hψ hh hrn hc.2 h2⟩
    unfold CRx at h1 ⊢
    split at h1
    · rw [if_pos ‹_›]; obtain ⟨a, k1, k2⟩ := h1; exact ⟨a, k1, mOk_crs hβ hψ hh hrn hc.1 k2⟩
    · rw [if_neg ‹_›]
      obtain ⟨c, k1, k2⟩ := h1
      refine ⟨c, k1, mOk_cr hβ hψ hh hrn ?_ k2⟩
      have := hc.1
      rw [k1] at this
      simpa using this
theorem mOk_vr (hβ : g'.β = g.β) (hψ : g'.ψ = g.ψ) (hh : ∀ e n, σ.has e n → (σ.inp U).has e n) (hrn : ∀ b, Free σ g w b → w'.heap[b]? = w.heap[b]? ∧ Free (σ.inp U) g' w' b) {x : V} {v : Value} (hc : x.mOk = true) (h : VR σ g w x v) : VR (σ.inp U) g' w' x v := by
  cases x with
  | one c => exact mOk_cr hβ hψ hh hrn hc h
  | agg cs => obtain ⟨a, k1, k2⟩ := h; exact ⟨a, k1, mOk_crs hβ hψ hh hrn hc k2⟩
  | tup xs => obtain ⟨a, k1, k2⟩ := h; exact ⟨a, k1, mOk_crt hβ hψ hh hrn hc k2⟩
end
end Go.Proofs.Ytfppgpojemdijaa
/-
  The walk over plain data: the call of a function that writes into what it was given.
  Conditions: none.
-/
namespace Go.Proofs.Ytfppgpojemdijaa
set_option linter.unusedSimpArgs false
set_option linter.unusedVariables false
set_option linter.unusedSectionVars false
set_option maxRecDepth 4000
open Go.RowKit
variable {P : Program}
theorem inp_has {σ : St} {U : List (Nat × List (List T))} {e n : Nat} (h : σ.has e n) : (σ.inp U).has e n := by
  obtain ⟨x, hx, hn⟩ := h
  have : ∀ U : List (Nat × List (List T)), ∃ y, inpE U σ.ev e = some y ∧ y.gen = x.gen := by
    intro U
    induction U with
    | nil => exact ⟨x, hx, rfl⟩
    | cons p U ih =>
      obtain ⟨y, hy, hg⟩ := ih
      unfold inpE
      by_cases he : e = p.1
      · rw [he, upd_same, ← he, hx]; exact ⟨_, rfl, rfl⟩
      · rw [upd_ne _ _ he]; exact ⟨y, hy, hg⟩
  obtain ⟨y, hy, hg⟩ := this U
  exact ⟨y, hy, by omega⟩
/-- What was there before stays as it is. -/
theorem inp_rn {n0 : Nat → Prop} {N : Nat} {σ : St} {g : Gh} {a : Act} {w w' : World} (hR : Rel n0 N σ g a w) {U : List (Nat × List (List T))} {fp : List Nat} (hfpU : ∀ b ∈ fp, ∃ p ∈ U, b ∈ g.φ p.1) (hOU : ∀ p ∈ U, σ.On p.1) (hbk : Bk (fun k => k < w.heap.size ∧ k ∉ fp) w w')
    {φ' : Nat → List Nat} (hb' : ∀ p ∈ U, ∀ b ∈ φ' p.1, b ∈ fp ∨ w.heap.size ≤ b) (j1 : ∀ e, (∀ p ∈ U, p.1 ≠ e) → φ' e = g.φ e) :
    ∀ b, Free σ g w b → w'.heap[b]? = w.heap[b]? ∧ Free (σ.inp U) { g with φ := φ' } w' b := by
  rintro b ⟨hf, hr⟩
  have hnot : b ∉ fp := fun hm => by
    obtain ⟨p, hp, hm⟩ := hfpU b hm
    exact hr p.1 (hOU p hp) hm
  refine ⟨hbk.block b ⟨hf.2.2.1, hnot⟩, ⟨hf.1, fun e x hx hon hh => ?_, Nat.lt_of_lt_of_le hf.2.2.1 hbk.size, hf.2.2.2⟩, fun e ho hm => ?_⟩
  case refine_2 =>
    have hm : b ∈ φ' e := hm
    by_cases hU : ∃ p ∈ U, p.1 = e
    · obtain ⟨p, hp, rfl⟩ := hU
      rcases hb' p hp b hm with h3 | h3
      · exact hnot h3
      · have := hf.2.2.1; omega
    · have hne : ∀ p ∈ U, p.1 ≠ e := fun p hp he => hU ⟨p, hp, he⟩
      rw [j1 e hne] at hm
      obtain ⟨x, hx, hon⟩ := ho
      refine hr e ⟨x, ?_, hon⟩ hm
      rw [← hx]
      exact (inpE_out fun hm => by
        obtain ⟨p, hp, he⟩ := List.mem_map.1 hm
        exact hne p hp he).symm
  have hh : (φ' e).head? = some b := hh
  by_cases hU : ∃ p ∈ U, p.1 = e
  · obtain ⟨p, hp, rfl⟩ := hU
    rcases hb' p hp b (List.mem_of_mem_head? hh) with h3 | h3
    · exact hnot h3
    · have := hf.2.2.1; omega
  · have hne : ∀ p ∈ U, p.1 ≠ e := fun p hp he => hU ⟨p, hp, he⟩
    rw [j1 e hne] at hh
    refine hf.2.1 e x ?_ hon hh
    rw [← hx]
    exact (inpE_out fun hm => by
      obtain ⟨p, hp, he⟩ := List.mem_map.1 hm
      exact hne p hp he).symm
theorem sem_callI {o : Oper} {σ : St} {x : Operand} {asx : Array Operand} {ts : Array TypeId} {f : FuncId} {cvs : List V} {pre : List D} {d : D} {post : List D} {d' : D} {res : List D} {p1 : List V} {gv : V} {p2 : List V} (ho : o.op = .call ⟨.value x, asx, ts⟩)
    (h : IC P f pre d post d' res) (hc : calleeOf (σ.get P 0 x) = some (f, cvs)) (hx : σ.gets P asx ts ++ cvs = p1 ++ gv :: p2) (h1 : nmVs p1 pre) (h2 : nmVs p2 post) (hg : inG σ gv d d') (hr : res.all D.fl = true)
    (hview : Deep σ ∨ Shal σ (inUV gv d')) : StepSem P o σ ((σ.inp (inUV gv d')).put o.dst (tupV (res.map D.toV))) := by
  intro n0 N g a w hR hn hdN
  obtain ⟨vs, e1, e2⟩ := call_run hR ho hc h.1
  unfold Oper.wp
  rw [e1]
  rw [hx] at e2
  obtain ⟨us1, vs2, rfl, v1, v2⟩ := e2.split
  obtain ⟨v, us2, rfl, v3, v4⟩ := v2
  -- what is given is owned
  have hgiven : ∃ (U : List (Nat × List (List T))) (fp tp : List Nat), inUV gv d' = U ∧ U.Pairwise (fun p q => p.1 ≠ q.1) ∧ (∀ p ∈ U, ∃ sz rows gn, σ.ev p.1 = some ⟨true, sz, rows, gn, true⟩) ∧ GD w d v fp tp ∧ fp.Nodup ∧ (∀ b ∈ fp, ∃ p ∈ U, b ∈ g.φ p.1) ∧ (∀ p ∈ U, ∀ b ∈ g.φ p.1, b ∈ fp) ∧
      ∀ {w' : World} {fp' tp' : List Nat}, GD w' d' v fp' tp' → fp'.Nodup → ∃ φ' : Nat → List Nat, (∀ e, (∀ p ∈ U, p.1 ≠ e) → φ' e = g.φ e) ∧ (∀ p ∈ U, ∃ sz rows gn, σ.ev p.1 = some ⟨true, sz, rows, gn, true⟩ ∧ OwnV w' (.sl sz p.2) (g.ψ p.1 gn) (φ' p.1) ∧ (φ' p.1).Nodup ∧ ∀ b ∈ φ' p.1, b ∈ fp') ∧
        ∀ p ∈ U, ∀ q ∈ U, p.1 ≠ q.1 → ∀ b ∈ φ' p.1, b ∉ φ' q.1 := by
    unfold inG at hg
    split at hg
    · rename_i c t t'
      obtain ⟨k1, k2, ⟨fp, tp, k3, k4, k5, k6⟩, k7⟩ := inK_sound hR hg (vs := [v]) ⟨v, [], rfl, v3, rfl⟩
      obtain ⟨v0, vs0, f1, f2, t2, e, rfl, rfl, q1, q2⟩ := k3
      cases e
      obtain ⟨_, rfl, rfl⟩ := q2
      refine ⟨_, f1 ++ [], topT t f1 ++ [], rfl, k1, fun p hp => (k2 p hp).2, by simpa using ⟨q1, rfl⟩, k4, k5, k6, fun hg' hn' => k7 (fp' := _) (tp' := _) ⟨v, [], _, [], [], rfl, by simp, rfl, hg'.1, rfl, rfl, rfl⟩ hn'⟩
    · rename_i cs ts ts'
      obtain ⟨u, rfl, v3⟩ := v3
      obtain ⟨k1, k2, ⟨fp, tp, k3, k4, k5, k6⟩, k7⟩ := inK_sound hR hg v3
      refine ⟨_, fp, tp, rfl, k1, fun p hp => (k2 p hp).2, ⟨u, rfl, k3⟩, k4, k5, k6, fun hg' hn' => ?_⟩
      obtain ⟨u', e, hg'⟩ := hg'
      cases e
      exact k7 hg' hn'
    · exact hg.elim
  obtain ⟨U, fp, tp, hUe, u1, u2, u3, u4, u5, u6, u7⟩ := hgiven
  rw [hUe] at hview ⊢
  refine (h.2 w us1 v us2 fp tp (nmVs_rep _ h1 v1) u3 (nmVs_rep _ h2 v4) u4).mono ?_
  rintro e w' ⟨us, fp', tp', rfl, q1, q2, q3, q4⟩
  obtain ⟨v0, us0, f1, f2, t1, t2, e0, rfl, rfl, q5, q6⟩ := q1
  cases e0
  obtain ⟨n1, n2, n3⟩ := List.nodup_append.1 q2
  obtain ⟨φ', j1, j2, j3⟩ := u7 q5 n1
  have hsub : ∀ b ∈ f1, b ∈ fp ∨ w.heap.size ≤ b := fun b hb => q3 b (List.mem_append_left _ hb)
  have hOU : ∀ p ∈ U, σ.On p.1 := fun p hp => by obtain ⟨sz, rows, gn, e⟩ := u2 p hp; exact ⟨_, e, rfl⟩
  have hBk : Bk n0 w w' := ⟨q4.os, q4.tape, q4.output, q4.size, fun k hk => q4.block k ⟨hn k hk, fun hm => by
    obtain ⟨p, hp, hm⟩ := u5 k hm
    exact hR.etop p.1 (hOU p hp) k hm hk⟩⟩
  have hR' : Rel n0 N (σ.inp U) { g with φ := φ' } a w' := by
    have hb' : ∀ p ∈ U, ∀ b ∈ φ' p.1, b ∈ fp ∨ w.heap.size ≤ b := fun p hp b hb => by
      obtain ⟨_, _, _, _, _, _, q⟩ := j2 p hp
      exact hsub b (q b hb)
    rcases hview with ⟨d1, d2, d3⟩ | hS
    · refine hR.inp hn u1 u6 u5 q4 hsub j1 j2 j3 (fun i v h => mOk_vr (g := g) (g' := { g with φ := φ' }) rfl rfl (fun e n => inp_has) (inp_rn hR u5 hOU q4 hb' j1) (d1 i) h) (fun b cs vs hb h => mOk_crs (g := g) (g' := { g with φ := φ' }) rfl rfl (fun e n => inp_has) (inp_rn hR u5 hOU q4 hb' j1) (d2 b cs hb) h) (fun e x he hx hon v fpx hE hs => ?_) (fun e x hx hon => ?_)
      · obtain ⟨ao, cap, r1, r2, r3, r4⟩ := hE
        refine ⟨ao, cap, r1, r2, r3, ?_⟩
        rcases r4 with r4 | ⟨b, cells, ty, fps, r4, r5, r6, r7, r8⟩
        · exact Or.inl r4
        · subst r5
          rw [if_pos (d3 e x hx).2] at r8
          exact Or.inr ⟨b, cells, ty, fps, r4, rfl, by rw [hs b (by simp)]; exact r6, r7, by rw [if_pos (d3 e x hx).2]; exact OwnRows.keep cells 0 x.sz x.rows fps r8 fun b' hb' => hs b' (by simp [hb'])⟩
      · rw [(d3 e x hx).1] at hon; cases hon
    · have hhead : ∀ p ∈ U, ∀ b ∈ g.φ p.1, (g.φ p.1).head? = some b := fun p hp b hb => by
        obtain ⟨sz, rows, gn, e⟩ := u2 p hp
        have hf := hS p hp
        rw [e] at hf
        obtain ⟨ao, cap, r1, r2, r3, r4⟩ := hR.evs p.1 _ e rfl
        rcases r4 with ⟨_, _, _, r4⟩ | ⟨b0, cells, ty, fps, r4, r5, r6, r7, r8⟩
        · rw [r4] at hb; cases hb
        · rw [if_pos rfl] at r8
          have := OwnRows.flat hf r8
          rw [r5, this] at hb ⊢
          rw [List.mem_singleton.1 hb]; rfl
      have hnot : ∀ b, Fix σ g w b → b ∉ fp := fun b hf hm => by
        obtain ⟨p, hp, hm⟩ := u5 b hm
        obtain ⟨sz, rows, gn, e⟩ := u2 p hp
        exact hf.2.1 p.1 _ e rfl (hhead p hp b hm)
      have m : Mv σ (σ.inp U) g { g with φ := φ' } w w' := by
        refine ⟨fun b hf => q4.block b ⟨hf.2.2.1, hnot b hf⟩, fun b hf => ⟨hf.1, fun e x hx hon hh => ?_, Nat.lt_of_lt_of_le hf.2.2.1 q4.size, hf.2.2.2⟩, fun b hb => ⟨rfl, hb⟩, fun e n he => ⟨inp_has he, rfl⟩, fun b hb => (inp_rn hR u5 hOU q4 hb' j1 b hb).2.2⟩
        have hh : (φ' e).head? = some b := hh
        by_cases hU : ∃ p ∈ U, p.1 = e
        · obtain ⟨p, hp, rfl⟩ := hU
          rcases hb' p hp b (List.mem_of_mem_head? hh) with h3 | h3
          · exact hnot b hf h3
          · have := hf.2.2.1; omega
        · have hne : ∀ p ∈ U, p.1 ≠ e := fun p hp he => hU ⟨p, hp, he⟩
          rw [j1 e hne] at hh
          refine hf.2.1 e x ?_ hon hh
          rw [← hx]
          exact (inpE_out fun hm => by
            obtain ⟨p, hp, he⟩ := List.mem_map.1 hm
            exact hne p hp he).symm
      exact hR.inp hn u1 u6 u5 q4 hsub j1 j2 j3 (fun i v h => m.vr h) (fun b cs vs _ h => m.crs h) (fun e x _ _ _ v fpx hE hs => m.evr hE hs) (fun e x _ _ v h => m.rep h)
  refine ⟨{ g with φ := φ' }, ?_, hBk, rfl, rfl⟩
  exact hR'.put o.dst (tupV_vr (RepDs.vrl (fls_rep hr q6)) (fun y hy => by
    obtain ⟨d, _, rfl⟩ := List.mem_map.1 hy
    cases d <;> rfl)) hdN

def shalL (σ : St) : List (Nat × List (List T)) → Prop
  | [] => True
  | p :: U => onSome (σ.ev p.1) (fun x => flR x.rows = true) ∧ shalL σ U
theorem shalL_shal {σ : St} : ∀ {U : List (Nat × List (List T))}, shalL σ U → Shal σ U
  | [], _, p, hp => absurd hp (by simp)
  | q :: U, h, p, hp => by
    rcases List.mem_cons.1 hp with rfl | hp
    · exact h.1
    · exact shalL_shal h.2 p hp
theorem deep_hd1 : ∀ {l : List (Nat × V)}, (l.all fun p => p.2.mOk) = true → ∀ i, (upds l i).mOk = true
  | [], _, _ => rfl
  | (j, v) :: l, h, i => by
    rw [List.all_cons, Bool.and_eq_true] at h
    unfold upds
    split
    · exact h.1
    · exact deep_hd1 h.2 i
theorem deep_hd2 : ∀ {bl : List (Nat × List C)}, (bl.all fun p => p.2.all C.mOk) = true → ∀ {b cs}, tbl bl b = some cs → cs.all C.mOk = true
  | [], _, _, _, hb => nomatch hb
  | (j, v) :: l, h, b, cs, hb => by
    rw [List.all_cons, Bool.and_eq_true] at h
    unfold tbl at hb
    split at hb
    · cases hb; exact h.1
    · exact deep_hd2 h.2 hb
theorem deep_hd3 : ∀ {el : List (Nat × Ev)}, (el.all fun p => p.2.on && p.2.deep) = true → ∀ {e x}, tbl el e = some x → x.on = true ∧ x.deep = true
  | [], _, _, _, hb => nomatch hb
  | (j, v) :: l, h, b, cs, hb => by
    rw [List.all_cons, Bool.and_eq_true] at h
    unfold tbl at hb
    split at hb
    · cases hb; simpa using h.1
    · exact deep_hd3 h.2 hb
theorem deep_hd {l : List (Nat × V)} {bl : List (Nat × List C)} {el : List (Nat × Ev)} (h1 : (l.all fun p => p.2.mOk) = true) (h2 : (bl.all fun p => p.2.all C.mOk) = true) (h3 : (el.all fun p => p.2.on && p.2.deep) = true) : Deep (hd l bl el) :=
  ⟨fun i => deep_hd1 h1 i, fun _ _ hb => deep_hd2 h2 hb, fun _ _ he => deep_hd3 h3 he⟩
/-- The arguments around the given one. -/
def spI (xs : List V) (n : Nat) (K : List V → V → List V → Prop) : Prop := match xs.drop n with
  | gv :: p2 => K (xs.take n) gv p2
  | [] => False
theorem spI_ex {xs : List V} {n : Nat} {K : List V → V → List V → Prop} (h : spI xs n K) : ∃ p1 gv p2, xs = p1 ++ gv :: p2 ∧ p1.length ≤ n ∧ K p1 gv p2 ∧ gv = (xs.drop n).headD (.one .any) := by
  unfold spI at h
  split at h
  · rename_i gv p2 hd
    exact ⟨xs.take n, gv, p2, by rw [← hd, List.take_append_drop], by simp; omega, h, by rw [hd]; rfl⟩
  · exact h.elim
def St.cI (P : Program) (σ : St) (x : Operand) (asx : Array Operand) (ts : Array TypeId) (n : Nat) (dst : Option Nat) (d' : D) (res : List D) : St :=
  (σ.inp (inUV (((σ.gets P asx ts ++ ((calleeOf (σ.get P 0 x)).map (·.2)).getD []).drop n).headD (.one .any)) d')).put dst (tupV (res.map D.toV))
section
variable {ks : List Fr} {Q : Exit → St → Prop} {σ : St} {ops : Array Oper} {os : List Oper} {ty : TypeId} {ps : String} {af : Array Edge} {dst : Option Nat} {x : Operand} {asx : Array Operand} {ts : Array TypeId} {f : FuncId} {pre : List D} {d : D} {post : List D} {d' : D} {res : List D}
theorem callI_sem (hview : ∀ gv, (gv = (((σ.gets P asx ts ++ ((calleeOf (σ.get P 0 x)).map (·.2)).getD []).drop pre.length).headD (.one .any))) → Deep σ ∨ Shal σ (inUV gv d')) (h : IC P f pre d post d' res)
    (hp : onSome (calleeOf (σ.get P 0 x)) fun p => p.1 = f ∧ spI (σ.gets P asx ts ++ p.2) pre.length fun p1 gv p2 => nmVs p1 pre ∧ nmVs p2 post ∧ inG σ gv d d') (hr : res.all D.fl = true) :
    StepSem P ⟨dst, .call ⟨.value x, asx, ts⟩, ty, ps, af, none⟩ σ (σ.cI P x asx ts pre.length dst d' res) := by
  obtain ⟨⟨f', cvs⟩, h1, rfl, h2⟩ := onSome_ex hp
  obtain ⟨p1, gv, p2, e, _, ⟨k1, k2, k3⟩, e2⟩ := spI_ex h2
  unfold St.cI
  have e3 : ((σ.gets P asx ts ++ ((calleeOf (σ.get P 0 x)).map (·.2)).getD []).drop pre.length).headD (.one .any) = gv := by rw [h1]; exact e2.symm
  rw [e3]
  exact sem_callI (o := ⟨dst, .call ⟨.value x, asx, ts⟩, ty, ps, af, none⟩) rfl h h1 e k1 k2 k3 hr (hview gv e3.symm)
/-- A call that turns a slice of flat cells in place. -/
theorem callIs (h : IC P f pre d post d' res)
    (hp : onSome (calleeOf (σ.get P 0 x)) fun p => p.1 = f ∧ spI (σ.gets P asx ts ++ p.2) pre.length fun p1 gv p2 => nmVs p1 pre ∧ nmVs p2 post ∧ inG σ gv d d')
    (hs : shalL σ (inUV (((σ.gets P asx ts ++ ((calleeOf (σ.get P 0 x)).map (·.2)).getD []).drop pre.length).headD (.one .any)) d')) (hr : res.all D.fl = true)
    (k : exo P ops os ks Q (σ.cI P x asx ts pre.length dst d' res)) : exo P ops (⟨dst, .call ⟨.value x, asx, ts⟩, ty, ps, af, none⟩ :: os) ks Q σ :=
  exo_sem rfl rfl (callI_sem (fun gv e => Or.inr (e ▸ shalL_shal hs)) h hp hr) k
/-- A call that turns what it was given, however deep: nothing else is looked at from here on. -/
theorem callId {l : List (Nat × V)} {bl : List (Nat × List C)} {el : List (Nat × Ev)} (h : IC P f pre d post d' res) (hw : wkL σ (hd l bl el) l ∧ wkB σ (hd l bl el) bl ∧ wkE σ el)
    (hd1 : (l.all fun p => p.2.mOk) = true) (hd2 : (bl.all fun p => p.2.all C.mOk) = true) (hd3 : (el.all fun p => p.2.on && p.2.deep) = true)
    (hp : onSome (calleeOf ((hd l bl el).get P 0 x)) fun p => p.1 = f ∧ spI ((hd l bl el).gets P asx ts ++ p.2) pre.length fun p1 gv p2 => nmVs p1 pre ∧ nmVs p2 post ∧ inG (hd l bl el) gv d d') (hr : res.all D.fl = true)
    (k : exo P ops os ks Q ((hd l bl el).cI P x asx ts pre.length dst d' res)) : exo P ops (⟨dst, .call ⟨.value x, asx, ts⟩, ty, ps, af, none⟩ :: os) ks Q σ :=
  exo_sem rfl rfl (StepSem.pre (weak_hd hw) (callI_sem (fun gv e => Or.inl (deep_hd hd1 hd2 hd3)) h hp hr)) k
end
attribute [go_sem] shalL spI St.cI inUV inU St.inp inpE inG inK nmVs nmV T.nm D.fl V.mOk C.mOk List.drop_succ_cons List.take_zero List.take_succ_cons List.headD_cons Option.getD_some
end Go.Proofs.Ytfppgpojemdijaa
/-
  The walk over plain data: maps that are only read.
  Conditions: none.
-/
namespace Go.Proofs.Ytfppgpojemdijaa
set_option linter.unusedSimpArgs false
set_option linter.unusedVariables false
set_option linter.unusedSectionVars false
set_option maxRecDepth 4000
open Go.RowKit
variable {P : Program}
/-- Whether two keys are one. -/
def keyEq : T → T → Option Bool
  | .int k a, .int k' b => if k = k' then some (decide (a = b)) else none
  | .str a, .str b => some (decide (a = b))
  | .bool a, .bool b => some (a == b)
  | _, _ => none
/-- The first entry of a key: its value's cells. -/
def findRow (k : T) : List (List T) → Option (Option (List T))
  | [] => some none
  | [] :: _ => none
  | (x :: vs) :: rows => match keyEq k x with
    | some true => some (some vs)
    | some false => findRow k rows
    | none => none
def keyD : TypeDesc → T → Bool
  | .int k, .int k' _ => decide (k' = k)
  | .string, .str _ => true
  | .bool, .bool _ => true
  | _, _ => false
theorem isKey_of {w : World} {A : Nat → Prop} {d : TypeDesc} {k : T} {v : Value} (h : keyD d k = true) (hv : RepV w A k v) : Go.MapKept.IsKey d v := by
  cases d <;> cases k <;> simp [keyD] at h <;> unfold RepV at hv
  · subst hv; trivial
  · rw [hv.1]; exact h
  · rw [hv.1]; trivial
theorem keyEq_run {w : World} {A : Nat → Prop} {d : TypeDesc} {k x : T} {kv xv : Value} {b : Bool} (hd : keyD d k = true) (h : keyEq k x = some b) (hk : RepV w A k kv) (hx : RepV w A x xv) : Instr.sameNow d kv xv = some b := by
  cases d <;> cases k <;> simp [keyD] at hd <;> cases x <;> simp [keyEq] at h <;> unfold RepV at hk hx
  · subst hk hx h; rfl
  · rw [hk.1, hx.1]
    obtain ⟨h1, h2⟩ := h
    subst h1 h2
    simp [Instr.sameNow]
    exact Bool.eq_iff_iff.2 (by simp)
  · rw [hk.1, hx.1]
    subst h
    simp only [Instr.sameNow, Option.some.injEq]
    rw [Bool.eq_iff_iff, Go.MapKept.bytes_beq]
    simp
theorem findRow_run {w : World} {A : Nat → Prop} {d : TypeDesc} {k : T} {kv : Value} (hd : keyD d k = true) (hk : RepV w A k kv) (ag : Bool) : ∀ (rows : List (List T)) (es : List MapEntry) (i : Nat) (r : Option (List T)), RepEnts w A ag rows es → findRow k rows = some r →
    match r with
    | none => Instr.findNow d kv es i = some none
    | some vs => ∃ j u us, Instr.findNow d kv es i = some (some (j, u)) ∧ (if ag = true then u = .agg ⟨us⟩ else us = [u]) ∧ RepAll w A vs us
  | [], es, i, r, h, hf => by
    unfold RepEnts at h
    subst h
    cases hf
    rfl
  | [] :: _, _, _, _, _, hf => by cases hf
  | (x :: vs) :: rows, es, i, r, h, hf => by
    unfold RepEnts at h
    obtain ⟨e, es', us, rfl, h1, h2, h3⟩ := h
    unfold RepAll at h2
    obtain ⟨xv, us', e1, h2, h4⟩ := h2
    cases e1
    unfold findRow at hf
    split at hf
    · rename_i hq
      cases hf
      exact ⟨i, e.val, us, by simp [Instr.findNow, keyEq_run hd hq hk h2], h1, h4⟩
    · rename_i hq
      have := findRow_run hd hk ag rows es' (i + 1) r h3 hf
      simp only [Instr.findNow, keyEq_run hd hq hk h2]
      exact this
    · cases hf
def rowV (ag : Bool) (vs : List T) : Option V := if ag = true then some (.agg (vs.map .t)) else match vs with | [t] => some (.one (.t t)) | _ => none
def mapT (P : Program) (t : TypeId) : Option (TypeDesc × TypeId) := match P.underlying t with
  | some (.map kt et) => (P.underlying kt).map fun d => (d, et)
  | _ => none
theorem mapT_eq {t : TypeId} {d : TypeDesc} {et : TypeId} (h : mapT P t = some (d, et)) : ∃ kt, P.underlying t = some (.map kt et) ∧ P.underlying kt = some d := by
  unfold mapT at h
  split at h
  · rename_i kt et' hu
    obtain ⟨d', h1, h2⟩ := Option.map_eq_some_iff.1 h
    cases h2
    exact ⟨kt, hu, h1⟩
  · cases h
theorem ts_crs {σ : St} {g : Gh} {w : World} : ∀ {ts : List T} {vs : List Value}, RepAll w (Fix σ g w) ts vs → CRs σ g w (ts.map .t) vs
  | [], vs, h => by unfold RepAll at h; exact h
  | t :: ts, vs, h => by
    unfold RepAll at h
    obtain ⟨v, vs', rfl, h1, h2⟩ := h
    exact ⟨v, vs', rfl, h1, ts_crs h2⟩
theorem sem_lookup {o : Oper} {σ : St} {mt : TypeId} {x ix : Operand} {d : TypeDesc} {et : TypeId} {ag : Bool} {rows : List (List T)} {k : T} {vs : List T} {v : V} (ho : o.op = .lookup mt x ix false)
    (ht : mapT P mt = some (d, et)) (hk : keyD d k = true) (hx : σ.get P 0 x = .one (.t (.mp ag rows))) (hi : σ.get P 0 ix = .one (.t k)) (hf : findRow k rows = some (some vs)) (hv : rowV ag vs = some v) :
    StepSem P o σ (σ.put o.dst v) :=
  StepSem.value fun n0 N g a w hR => by
    obtain ⟨kt, t1, t2⟩ := mapT_eq ht
    have h1 := hR.get P 0 x
    have h2 := hR.get P 0 ix
    rw [hx] at h1
    rw [hi] at h2
    have h1 : RepV w (Fix σ g w) (.mp ag rows) (a.eval x) := h1
    have h2 : RepV w (Fix σ g w) k (a.eval ix) := h2
    unfold RepV at h1
    obtain ⟨b, es, clk, e1, hA, hb, he⟩ := h1
    obtain ⟨j, u, us, f1, f2, f3⟩ := findRow_run hk h2 ag rows es.toList 0 (some vs) he hf
    refine ⟨u, ?_, ?_⟩
    · unfold execOp
      simp only [ho]
      simp [Instr.lookup, run_underlying t1, e1, Go.MapKept.run_getObj_map hb, Go.MapKept.run_checkKey t2 (isKey_of hk h2), Go.MapKept.run_findKey t2 f1, Result.andThen]
    · unfold rowV at hv
      by_cases hag : ag = true
      · rw [if_pos hag] at hv f2
        cases hv
        exact ⟨us, f2, ts_crs f3⟩
      · rw [if_neg hag] at hv f2
        subst f2
        rcases vs with _ | ⟨t, _ | ⟨t', vs⟩⟩
        · cases hv
        · cases hv
          unfold RepAll at f3
          obtain ⟨v', vs', e, h3, _⟩ := f3
          cases e
          exact h3
        · cases hv
theorem loc_lookup {o : Oper} {σ : St} {mt : TypeId} {x ix : Operand} {d : TypeDesc} {et : TypeId} {ag : Bool} {rows : List (List T)} {k : T} {vs : List T} {v : V} (ho : o.op = .lookup mt x ix false)
    (ht : mapT P mt = some (d, et)) (hk : keyD d k = true) (hx : σ.get P 0 x = .one (.t (.mp ag rows))) (hi : σ.get P 0 ix = .one (.t k)) (hf : findRow k rows = some (some vs)) (hv : rowV ag vs = some v) :
    LocS P o (keysOf [x, ix]) (dK o.dst ++ eK []) σ (σ.put o.dst v) := by
  rw [show σ.put o.dst v = (σ.upE []).put o.dst v from rfl]
  refine LocS.of (keysOf_ok _) fun σ1 h1 => ?_
  have e1 : σ1.get P 0 x = σ.get P 0 x := get_loc (l := [x, ix]) h1 (by simp) 0
  have e2 : σ1.get P 0 ix = σ.get P 0 ix := get_loc (l := [x, ix]) h1 (by simp) 0
  exact sem_lookup ho ht hk (by rw [e1]; exact hx) (by rw [e2]; exact hi) hf hv
/-- What is looked up. -/
def lkV (P : Program) (σ : St) (mt : TypeId) (x ix : Operand) : Option V := match σ.get P 0 x, σ.get P 0 ix, mapT P mt with
  | .one (.t (.mp ag rows)), .one (.t k), some (d, _) => if keyD d k = true then (findRow k rows).bind fun r => r.bind (rowV ag) else none
  | _, _, _ => none
theorem lkV_eq {σ : St} {mt : TypeId} {x ix : Operand} {v : V} (h : lkV P σ mt x ix = some v) : ∃ d et ag rows k vs, mapT P mt = some (d, et) ∧ keyD d k = true ∧ σ.get P 0 x = .one (.t (.mp ag rows)) ∧ σ.get P 0 ix = .one (.t k) ∧ findRow k rows = some (some vs) ∧ rowV ag vs = some v := by
  unfold lkV at h
  split at h
  · rename_i ag rows k d et h1 h2 h3
    split at h
    · rename_i hk
      obtain ⟨r, h4, h5⟩ := Option.bind_eq_some_iff.1 h
      obtain ⟨vs, rfl, h6⟩ := Option.bind_eq_some_iff.1 h5
      exact ⟨d, et, ag, rows, k, vs, h3, hk, h1, h2, h4, h6⟩
    · cases h
  · cases h
section
variable {ks : List Fr} {Q : Exit → St → Prop} {σ : St} {ops : Array Oper} {os : List Oper} {L : List (List Ky × List Ky)} {ty : TypeId} {ps : String} {af : Array Edge} {dst : Option Nat} {mt : TypeId} {x ix : Operand} {v : V}
theorem lookR (h : lkV P σ mt x ix = some v) (k : exo P ops os ks Q (σ.put dst v)) : exo P ops (⟨dst, .lookup mt x ix false, ty, ps, af, none⟩ :: os) ks Q σ := by
  obtain ⟨d, et, ag, rows, kk, vs, h1, h2, h3, h4, h5, h6⟩ := lkV_eq h
  exact exo_sem rfl rfl (sem_lookup rfl h1 h2 h3 h4 h5 h6) k
theorem dLookR (h : lkV P σ mt x ix = some v) (k : exd P ops os (L ++ [(keysOf [x, ix], dK dst ++ [])]) ks Q (σ.put dst v)) : exd P ops (⟨dst, .lookup mt x ix false, ty, ps, af, none⟩ :: os) L ks Q σ := by
  obtain ⟨d, et, ag, rows, kk, vs, h1, h2, h3, h4, h5, h6⟩ := lkV_eq h
  exact exd_of rfl rfl (loc_lookup rfl h1 h2 h3 h4 h5 h6) k
end
attribute [go_sem] lkV findRow keyEq keyD rowV mapT
end Go.Proofs.Ytfppgpojemdijaa
/-
  The walk over plain data: calls that turn a slice which stands in an element of an owned slice.
  Conditions: none.
-/
namespace Go.Proofs.Ytfppgpojemdijaa
set_option linter.unusedSimpArgs false
set_option linter.unusedVariables false
set_option linter.unusedSectionVars false
set_option maxRecDepth 4000
open Go.RowKit
variable {P : Program}
def pinC (v : Value) : T → T
  | .sl sz rows => .pin v (.sl sz rows)
  | t => t
def pinR (us : Nat → Value) : Nat → List T → List T
  | _, [] => []
  | j, c :: cs => pinC (us j) c :: pinR us (j + 1) cs
/-- The elements, their slices' values known. -/
def pinRs (vs : Nat → Nat → Value) : Nat → List (List T) → List (List T)
  | _, [] => []
  | i, r :: rs => pinR (vs i) 0 r :: pinRs vs (i + 1) rs
theorem pinR_len (us : Nat → Value) : ∀ (cs : List T) (j : Nat), (pinR us j cs).length = cs.length
  | [], _ => rfl
  | c :: cs, j => by simp [pinR, pinR_len us cs]
theorem pinRs_len (vs : Nat → Nat → Value) : ∀ (rs : List (List T)) (i : Nat), (pinRs vs i rs).length = rs.length
  | [], _ => rfl
  | c :: cs, j => by simp [pinRs, pinRs_len vs cs]
theorem OwnV.pin {w : World} {t : T} {v : Value} {fp : List Nat} (h : OwnV w t v fp) : OwnV w (pinC v t) v fp := by
  unfold pinC
  split
  · unfold OwnV; exact ⟨rfl, h⟩
  · exact h
theorem OwnAt.pin {w : World} {cells : Array Value} {us : Nat → Value} : ∀ {cs : List T} {o j : Nat} {fps : List Nat}, OwnAt w cells o cs fps → (∀ i, us (j + i) = cells.getD (o + i) undef) → OwnAt w cells o (pinR us j cs) fps
  | [], _, _, _, h, _ => h
  | c :: cs, o, j, fps, h, hu => by
    unfold OwnAt at h
    obtain ⟨v, f1, f2, h1, rfl, h2, h3⟩ := h
    unfold pinR OwnAt
    have e : us j = v := by have := hu 0; rw [Nat.add_zero, Nat.add_zero] at this; rw [this, Array.getD_eq_getD_getElem?, h1]; rfl
    refine ⟨v, f1, f2, h1, rfl, by rw [e]; exact h2.pin, OwnAt.pin h3 fun i => ?_⟩
    have := hu (i + 1)
    rwa [show j + (i + 1) = j + 1 + i by omega, show o + (i + 1) = o + 1 + i by omega] at this
theorem OwnRows.pin {w : World} {cells : Array Value} {sz : Nat} : ∀ {rows : List (List T)} {i : Nat} {fps : List Nat}, OwnRows w cells (i * sz) sz rows fps → OwnRows w cells (i * sz) sz (pinRs (fun i j => cells.getD (i * sz + j) undef) i rows) fps
  | [], _, _, h => h
  | r :: rs, i, fps, h => by
    unfold OwnRows at h
    obtain ⟨h1, f1, f2, rfl, h2, h3⟩ := h
    unfold pinRs OwnRows
    refine ⟨by rw [pinR_len]; exact h1, f1, f2, rfl, h2.pin fun j => by simp, ?_⟩
    rw [show i * sz + sz = (i + 1) * sz by rw [Nat.add_mul]; omega] at h3 ⊢
    exact OwnRows.pin h3
theorem OwnV.pins {w : World} {sz : Nat} {rows : List (List T)} {v : Value} {fp : List Nat} (h : OwnV w (.sl sz rows) v fp) : ∃ vs, OwnV w (.sl sz (pinRs vs 0 rows)) v fp := by
  unfold OwnV at h
  obtain ⟨ao, cap, h1, h2, h3, h4⟩ := h
  rcases h4 with ⟨k1, k2, rfl, k4⟩ | ⟨b, cells, ty, fps, k1, k2, k3, k4, k5⟩
  · refine ⟨fun _ _ => undef, ?_⟩
    unfold OwnV
    exact ⟨ao, cap, h1, h2, h3, Or.inl ⟨k1, k2, rfl, k4⟩⟩
  · refine ⟨fun i j => cells.getD (i * sz + j) undef, ?_⟩
    unfold OwnV
    have := OwnRows.pin (i := 0) (by rw [Nat.zero_mul]; exact k5)
    rw [Nat.zero_mul] at this
    exact ⟨ao, cap, by rw [pinRs_len]; exact h1, by rw [pinRs_len]; exact h2, h3, Or.inr ⟨b, cells, ty, fps, k1, k2, k3, k4, this⟩⟩
def unpinC : T → T
  | .pin _ t => t
  | t => t
def unpinRs (rs : List (List T)) : List (List T) := rs.map fun r => r.map unpinC
theorem OwnV.unpin {w : World} : ∀ {t : T} {v : Value} {fp : List Nat}, OwnV w t v fp → OwnV w (unpinC t) v fp
  | .pin _ _, _, _, h => by unfold OwnV at h; exact h.2
  | .int _ _, _, _, h => h
  | .bool _, _, _, h => h
  | .str _, _, _, h => h
  | .sl _ _, _, _, h => h
  | .ptr _, _, _, h => h
  | .fn _ _, _, _, h => h
  | .mp _ _, _, _, h => h
  | .vs _ _ _, _, _, h => h
theorem OwnAt.unpin {w : World} {cells : Array Value} : ∀ {cs : List T} {o : Nat} {fps : List Nat}, OwnAt w cells o cs fps → OwnAt w cells o (cs.map unpinC) fps
  | [], _, _, h => h
  | c :: cs, o, fps, h => by
    unfold OwnAt at h
    obtain ⟨v, f1, f2, h1, rfl, h2, h3⟩ := h
    rw [List.map_cons]
    unfold OwnAt
    exact ⟨v, f1, f2, h1, rfl, h2.unpin, h3.unpin⟩
theorem OwnRows.unpin {w : World} {cells : Array Value} {sz : Nat} : ∀ {rows : List (List T)} {o : Nat} {fps : List Nat}, OwnRows w cells o sz rows fps → OwnRows w cells o sz (unpinRs rows) fps
  | [], _, _, h => h
  | r :: rs, o, fps, h => by
    unfold OwnRows at h
    obtain ⟨h1, f1, f2, rfl, h2, h3⟩ := h
    show OwnRows w cells o sz (r.map unpinC :: unpinRs rs) (f1 ++ f2)
    unfold OwnRows
    exact ⟨by simpa using h1, f1, f2, rfl, h2.unpin, h3.unpin⟩
theorem OwnV.unpins {w : World} {sz : Nat} {rows : List (List T)} {v : Value} {fp : List Nat} (h : OwnV w (.sl sz rows) v fp) : OwnV w (.sl sz (unpinRs rows)) v fp := by
  unfold OwnV at h ⊢
  have hl : (unpinRs rows).length = rows.length := by simp [unpinRs]
  obtain ⟨ao, cap, h1, h2, h3, h4⟩ := h
  refine ⟨ao, cap, by rw [hl]; exact h1, by rw [hl]; exact h2, h3, ?_⟩
  rcases h4 with ⟨k1, k2, rfl, k4⟩ | ⟨b, cells, ty, fps, k1, k2, k3, k4, k5⟩
  · exact Or.inl ⟨k1, k2, rfl, k4⟩
  · exact Or.inr ⟨b, cells, ty, fps, k1, k2, k3, k4, k5.unpin⟩
/-- Rows of an owned slice, looked at anew. -/
theorem Rel.reown {n0 : Nat → Prop} {N : Nat} {σ : St} {g : Gh} {a : Act} {w : World} (hR : Rel n0 N σ g a w) (hn : LtK n0 w) {e sz gn : Nat} {rows rows' : List (List T)} (he : σ.ev e = some ⟨true, sz, rows, gn, true⟩) (h : OwnV w (.sl sz rows') (g.ψ e gn) (g.φ e)) :
    Rel n0 N (σ.inp [(e, rows')]) g a w := by
  have hOn : σ.On e := ⟨_, he, rfl⟩
  have hev : ∀ e', (∀ p ∈ [(e, rows')], p.1 ≠ e') → (σ.inp [(e, rows')]).ev e' = σ.ev e' := fun e' h' => inpE_out (by simpa using Ne.symm (h' (e, rows') (List.mem_singleton.2 rfl)))
  have m : Mv σ (σ.inp [(e, rows')]) g g w w := by
    refine ⟨fun b hf => rfl, fun b hf => ⟨hf.1, fun e' x hx hon => ?_, hf.2.2⟩, fun b hb => ⟨rfl, hb⟩, fun e n he => ⟨inp_has he, rfl⟩, fun b hb => (inp_rn hR (U := [(e, rows')]) (fp := g.φ e) (φ' := g.φ) (fun b hb => ⟨(e, rows'), List.mem_singleton.2 rfl, hb⟩) (fun p hp => by rw [List.mem_singleton.1 hp]; exact hOn) (Bk.refl _ _) (fun p hp b hb => Or.inl (by rw [List.mem_singleton.1 hp] at hb; exact hb)) (fun _ _ => rfl) b hb).2.2⟩
    by_cases h' : e' = e
    · subst h'; exact hf.2.1 e' _ he rfl
    · exact hf.2.1 e' x ((hev e' (by simpa using Ne.symm h')).symm.trans hx) hon
  exact hR.inp hn (fp := g.φ e) (fp' := g.φ e) (φ' := g.φ) (by simp) (by simp) (fun b hb => ⟨(e, rows'), List.mem_singleton.2 rfl, hb⟩) (Bk.refl _ _) (fun b hb => Or.inl hb) (fun _ _ => rfl)
    (fun p hp => by simp at hp; subst hp; exact ⟨sz, rows, gn, he, h, hR.nodup e hOn, fun b hb => hb⟩) (fun p hp q hq hne => by simp at hp hq; subst hp; subst hq; exact absurd rfl hne)
    (fun i v h => m.vr h) (fun b cs vs _ h => m.crs h) (fun e x _ _ _ v fpx hE hs => m.evr hE hs) (fun e x _ _ v h => m.rep h)
/-- The head of a walk that turns elements' slices: their values are known from the start. -/
def initP (vs : Nat → Nat → Value) (sz : Nat) (rows : List (List T)) (post : List D) : St := (initI [] (.one (.sl sz rows)) post).inp [(0, pinRs vs 0 rows)]
theorem IC_ofP {f : FuncId} {fn : Func} {c : Code} {sz : Nat} {rows rows' : List (List T)} {post : List D} {res : List D} (hc : Callable P f) (hf : P.funcs[f]? = some fn) (hb : fn.body = some c) (hd : dstOk fn.ntmps c = true) (hN : (argsI [] (.one (.sl sz rows)) post).length ≤ fn.ntmps) (hN2 : fn.ntmps ≤ 1000000)
    (h : ∀ vs, ex P c [] (PI P fn.results.toList (.one (.sl sz rows')) res) (initP vs sz rows post)) : IC P f [] (.one (.sl sz rows)) post (.one (.sl sz rows')) res := by
  have hs : ∀ ds : List D, smallG (argsI [] (.one (.sl sz rows)) ds) := fun ds => ⟨rfl, smallG_rd ds⟩
  refine IC_ofW hc hf hb hd hN hN2 (hs _) trivial fun n0 N g a w hR hn => ?_
  have he : (initI [] (.one (.sl sz rows)) post).ev 0 = some ⟨true, sz, rows, 0, true⟩ := rfl
  have hO := own_event hR he
  obtain ⟨vs, hv⟩ := hO.pins
  exact ⟨_, h vs, hR.reown hn he hv⟩
/-- One cell of owned rows. -/
theorem OwnAt.cell {w : World} {cells : Array Value} : ∀ {cs : List T} {o j : Nat} {c : T} {fps : List Nat}, OwnAt w cells o cs fps → cs[j]? = some c →
    ∃ f1 f f2 v, fps = f1 ++ (f ++ f2) ∧ cells[o + j]? = some v ∧ OwnV w c v f ∧ ∀ (w' : World) (c' : T) (f' : List Nat), (∀ b, b ∈ f1 ∨ b ∈ f2 → w'.heap[b]? = w.heap[b]?) → OwnV w' c' v f' → OwnAt w' cells o (cs.set j c') (f1 ++ (f' ++ f2))
  | [], _, _, _, _, _, h => by simp at h
  | d :: cs, o, 0, c, fps, h, hc => by
    unfold OwnAt at h
    obtain ⟨v, f1, f2, h1, rfl, h2, h3⟩ := h
    simp only [List.getElem?_cons_zero, Option.some.injEq] at hc
    subst hc
    refine ⟨[], f1, f2, v, rfl, h1, h2, fun w' c' f' hk ho => ?_⟩
    show OwnAt w' cells o (c' :: cs) (f' ++ f2)
    unfold OwnAt
    exact ⟨v, f', f2, h1, rfl, ho, OwnAt.keep cells _ cs f2 h3 fun b hb => hk b (Or.inr hb)⟩
  | d :: cs, o, j + 1, c, fps, h, hc => by
    unfold OwnAt at h
    obtain ⟨v, f1, f2, h1, rfl, h2, h3⟩ := h
    obtain ⟨g1, g, g2, u, rfl, k1, k2, k3⟩ := OwnAt.cell h3 (by simpa using hc)
    refine ⟨f1 ++ g1, g, g2, u, by simp, by rw [← k1]; congr 1; omega, k2, fun w' c' f' hk ho => ?_⟩
    show OwnAt w' cells o (d :: cs.set j c') _
    unfold OwnAt
    exact ⟨v, f1, g1 ++ (f' ++ g2), h1, by simp, OwnV.keep d v f1 h2 fun b hb => hk b (Or.inl (by simp [hb])), k3 w' c' f' (fun b hb => hk b (by rcases hb with hb | hb <;> simp [hb])) ho⟩
theorem OwnRows.cell {w : World} {cells : Array Value} {sz : Nat} : ∀ {rows : List (List T)} {o i j : Nat} {r : List T} {c : T} {fps : List Nat}, OwnRows w cells o sz rows fps → rows[i]? = some r → r[j]? = some c →
    ∃ f1 f f2 v, fps = f1 ++ (f ++ f2) ∧ cells[o + i * sz + j]? = some v ∧ OwnV w c v f ∧ ∀ (w' : World) (c' : T) (f' : List Nat), (∀ b, b ∈ f1 ∨ b ∈ f2 → w'.heap[b]? = w.heap[b]?) → OwnV w' c' v f' → OwnRows w' cells o sz (rows.set i (r.set j c')) (f1 ++ (f' ++ f2))
  | [], _, _, _, _, _, _, _, h, _ => by simp at h
  | d :: rows, o, 0, j, r, c, fps, h, hr, hc => by
    unfold OwnRows at h
    obtain ⟨h1, f1, f2, rfl, h2, h3⟩ := h
    simp only [List.getElem?_cons_zero, Option.some.injEq] at hr
    subst hr
    obtain ⟨g1, g, g2, u, rfl, k1, k2, k3⟩ := OwnAt.cell h2 hc
    refine ⟨g1, g, g2 ++ f2, u, by simp, by simpa using k1, k2, fun w' c' f' hk ho => ?_⟩
    show OwnRows w' cells o sz (d.set j c' :: rows) _
    unfold OwnRows
    exact ⟨by simp [h1], g1 ++ (f' ++ g2), f2, by simp, k3 w' c' f' (fun b hb => hk b (by rcases hb with hb | hb <;> simp [hb])) ho, OwnRows.keep cells _ sz rows f2 h3 fun b hb => hk b (by simp [hb])⟩
  | d :: rows, o, i + 1, j, r, c, fps, h, hr, hc => by
    unfold OwnRows at h
    obtain ⟨h1, f1, f2, rfl, h2, h3⟩ := h
    obtain ⟨g1, g, g2, u, rfl, k1, k2, k3⟩ := OwnRows.cell h3 (by simpa using hr) hc
    refine ⟨f1 ++ g1, g, g2, u, by simp, by rw [← k1]; congr 1; rw [Nat.add_mul]; omega, k2, fun w' c' f' hk ho => ?_⟩
    show OwnRows w' cells o sz (d :: rows.set i (r.set j c')) _
    unfold OwnRows
    exact ⟨h1, f1, g1 ++ (f' ++ g2), by simp, OwnAt.keep cells o d f1 h2 fun b hb => hk b (Or.inl (by simp [hb])), k3 w' c' f' (fun b hb => hk b (by rcases hb with hb | hb <;> simp [hb])) ho⟩
theorem sem_callN {o : Oper} {σ : St} {x : Operand} {asx : Array Operand} {ts : Array TypeId} {f : FuncId} {cvs : List V} {post : List D} {sz1 : Nat} {rows1 rows1' : List (List T)} {res : List D} {v : Value} {p2 : List V} {e i j sz gn : Nat} {rows : List (List T)} {r : List T} (ho : o.op = .call ⟨.value x, asx, ts⟩)
    (h : IC P f [] (.one (.sl sz1 rows1)) post (.one (.sl sz1 rows1')) res) (hc : calleeOf (σ.get P 0 x) = some (f, cvs)) (hx : σ.gets P asx ts ++ cvs = .one (.cv v) :: p2) (h2 : nmVs p2 post) (he : σ.ev e = some ⟨true, sz, rows, gn, true⟩) (hr : rows[i]? = some r) (hcl : r[j]? = some (.pin v (.sl sz1 rows1)))
    (hres : res.all D.fl = true) (hD : Deep σ) : StepSem P o σ ((σ.inp [(e, rows.set i (r.set j (.sl sz1 rows1')))]).put o.dst (tupV (res.map D.toV))) := by
  intro n0 N g a w hR hn hdN
  obtain ⟨vs, hrun, hvl⟩ := call_run hR ho hc h.1
  rw [hx] at hvl
  obtain ⟨v1, us2, rfl, rfl, v4⟩ := hvl
  have hOn : σ.On e := ⟨_, he, rfl⟩
  have hO := own_event hR he
  have hnd := hR.nodup e hOn
  have hO2 := hO
  unfold OwnV at hO
  obtain ⟨ao, cap, e1, e2, e3, e4⟩ := hO
  rcases e4 with ⟨_, _, rfl, _⟩ | ⟨b0, cells, ty, fps, k1, k2, k3, k4, k5⟩
  · simp at hr
  obtain ⟨f1, ff, f2, u, rfl, c1, c2, c3⟩ := OwnRows.cell k5 hr hcl
  unfold OwnV at c2
  obtain ⟨rfl, c2⟩ := c2
  have hsubf : ∀ b', b' ∈ ff → b' ∈ g.φ e := fun b' hb => by rw [k2]; simp [hb]
  rw [k2] at hnd
  obtain ⟨nb, nd⟩ := List.nodup_cons.1 hnd
  obtain ⟨nd1, nd2, nd3⟩ := List.nodup_append.1 nd
  obtain ⟨nd4, nd5, nd6⟩ := List.nodup_append.1 nd2
  have hbf : ∀ b', (b' = b0 ∨ b' ∈ f1 ∨ b' ∈ f2) → b' ∉ ff := fun b' h hm => by
    rcases h with rfl | h | h
    · exact nb (by simp [hm])
    · exact nd3 b' h b' (by simp [hm]) rfl
    · exact nd6 b' hm b' h rfl
  have hlt : ∀ b' ∈ g.φ e, b' < w.heap.size := (hR.evs e _ he rfl).lt
  unfold Oper.wp
  rw [hrun]
  refine (h.2 w [] u us2 ff (topT (.sl sz1 rows1) ff) rfl ⟨c2, rfl⟩ (nmVs_rep _ h2 v4) nd4).mono ?_
  rintro ee w' ⟨us, fp', tp', rfl, q1, q2, q3, q4⟩
  obtain ⟨v0, us0, g1, g2, t1, t2, e0, rfl, rfl, q5, q6⟩ := q1
  cases e0
  obtain ⟨n1, n2, n3⟩ := List.nodup_append.1 q2
  have hnew : ∀ b', b' < w.heap.size → b' ∈ g1 → b' ∈ ff := fun b' h1 h2 => (q3 b' (List.mem_append_left _ h2)).resolve_right (by omega)
  have hsub : ∀ b' ∈ g1, b' ∈ ff ∨ w.heap.size ≤ b' := fun b' hb => q3 b' (List.mem_append_left _ hb)
  have hblk : ∀ b', b' < w.heap.size → b' ∉ ff → w'.heap[b']? = w.heap[b']? := fun b' h1 h2 => q4.block b' ⟨h1, h2⟩
  have hrows := c3 w' (.sl sz1 rows1') g1 (fun b' hb => hblk b' (hlt b' (by rw [k2]; rcases hb with hb | hb <;> simp [hb])) (hbf b' (Or.inr hb))) q5.1
  have hown : OwnV w' (.sl sz (rows.set i (r.set j (.sl sz1 rows1')))) (g.ψ e gn) (b0 :: (f1 ++ (g1 ++ f2))) := by
    unfold OwnV
    exact ⟨ao, cap, by simpa using e1, by simpa using e2, e3, Or.inr ⟨b0, cells, ty, _, k1, rfl, by rw [hblk b0 (hlt b0 (by rw [k2]; simp)) (hbf b0 (Or.inl rfl))]; exact k3, k4, hrows⟩⟩
  have hnd' : (b0 :: (f1 ++ (g1 ++ f2))).Nodup := by
    refine List.nodup_cons.2 ⟨fun hm => ?_, List.nodup_append.2 ⟨nd1, List.nodup_append.2 ⟨n1, nd5, fun x hx y hy hxy => ?_⟩, fun x hx y hy hxy => ?_⟩⟩
    · have hl := hlt b0 (by rw [k2]; simp)
      simp only [List.mem_append] at hm
      rcases hm with hm | hm | hm
      · exact nb (by simp [hm])
      · exact nb (by simp [hnew b0 hl hm])
      · exact nb (by simp [hm])
    · subst hxy
      exact nd6 x (hnew x (hlt x (by rw [k2]; simp [hy])) hx) x hy rfl
    · subst hxy
      have hl := hlt x (by rw [k2]; simp [hx])
      rcases List.mem_append.1 hy with hy | hy
      · exact nd3 x hx x (by simp [hnew x hl hy]) rfl
      · exact nd3 x hx x (by simp [hy]) rfl
  have hBkf : Bk (fun k => k < w.heap.size ∧ k ∉ g.φ e) w w' := ⟨q4.os, q4.tape, q4.output, q4.size, fun k hk => q4.block k ⟨hk.1, fun hm => hk.2 (hsubf k hm)⟩⟩
  have hBk : Bk n0 w w' := ⟨q4.os, q4.tape, q4.output, q4.size, fun k hk => q4.block k ⟨hn k hk, fun hm => hR.etop e hOn k (hsubf k hm) hk⟩⟩
  have hfp' : ∀ b' ∈ b0 :: (f1 ++ (g1 ++ f2)), b' ∈ g.φ e ∨ w.heap.size ≤ b' := fun b' hb => by
    simp only [List.mem_cons, List.mem_append] at hb
    rw [k2]
    rcases hb with hb | hb | hb | hb
    · left; simp [hb]
    · left; simp [hb]
    · rcases hsub b' hb with hb | hb
      · left; simp [hb]
      · exact Or.inr hb
    · left; simp [hb]
  generalize hrw : rows.set i (r.set j (.sl sz1 rows1')) = rows' at hown ⊢
  have j1 : ∀ e', (∀ p ∈ [(e, rows')], p.1 ≠ e') → upd g.φ e (b0 :: (f1 ++ (g1 ++ f2))) e' = g.φ e' := fun e' h' => upd_ne _ _ (Ne.symm (h' (e, rows') (List.mem_singleton.2 rfl)))
  have hfpU : ∀ b' ∈ g.φ e, ∃ p ∈ [(e, rows')], b' ∈ g.φ p.1 := fun b' hb => ⟨(e, rows'), List.mem_singleton.2 rfl, hb⟩
  have hOU : ∀ p ∈ [(e, rows')], σ.On p.1 := fun p hp => by rw [List.mem_singleton.1 hp]; exact hOn
  have hb' : ∀ p ∈ [(e, rows')], ∀ b' ∈ upd g.φ e (b0 :: (f1 ++ (g1 ++ f2))) p.1, b' ∈ g.φ e ∨ w.heap.size ≤ b' := fun p hp b' hb => by
    rw [List.mem_singleton.1 hp, upd_same] at hb
    exact hfp' b' hb
  obtain ⟨d1, d2, d3⟩ := hD
  have hrn := inp_rn hR hfpU hOU hBkf hb' j1
  have hR' : Rel n0 N (σ.inp [(e, rows')]) { g with φ := upd g.φ e (b0 :: (f1 ++ (g1 ++ f2))) } a w' := by
    refine hR.inp hn (by simp) (fun p hp => by rw [List.mem_singleton.1 hp]; exact fun _ h => h) hfpU hBkf hfp' j1
      (fun p hp => by rw [List.mem_singleton.1 hp, upd_same]; exact ⟨sz, rows, gn, he, hown, hnd', fun _ h => h⟩) (fun p hp q hq hne => by rw [List.mem_singleton.1 hp, List.mem_singleton.1 hq] at hne; exact absurd rfl hne)
      (fun i v h => mOk_vr (g := g) (g' := { g with φ := upd g.φ e (b0 :: (f1 ++ (g1 ++ f2))) }) rfl rfl (fun e n => inp_has) hrn (d1 i) h) (fun b cs vs hb h => mOk_crs (g := g) (g' := { g with φ := upd g.φ e (b0 :: (f1 ++ (g1 ++ f2))) }) rfl rfl (fun e n => inp_has) hrn (d2 b cs hb) h) (fun e x he hx hon v fpx hE hs => ?_) (fun e x hx hon => ?_)
    · obtain ⟨ao, cap, r1, r2, r3, r4⟩ := hE
      refine ⟨ao, cap, r1, r2, r3, ?_⟩
      rcases r4 with r4 | ⟨b, cells, ty, fps, r4, r5, r6, r7, r8⟩
      · exact Or.inl r4
      · subst r5
        rw [if_pos (d3 e x hx).2] at r8
        exact Or.inr ⟨b, cells, ty, fps, r4, rfl, by rw [hs b (by simp)]; exact r6, r7, by rw [if_pos (d3 e x hx).2]; exact OwnRows.keep cells 0 x.sz x.rows fps r8 fun b' hb' => hs b' (by simp [hb'])⟩
    · rw [(d3 e x hx).1] at hon; cases hon
  refine ⟨{ g with φ := upd g.φ e (b0 :: (f1 ++ (g1 ++ f2))) }, ?_, hBk, rfl, rfl⟩
  exact hR'.put o.dst (tupV_vr (RepDs.vrl (fls_rep hres q6)) (fun y hy => by
    obtain ⟨d, _, rfl⟩ := List.mem_map.1 hy
    cases d <;> rfl)) hdN
def setCell (rows : List (List T)) (i j : Nat) (t : T) : List (List T) := rows.set i ((rows.getD i []).set j t)
def evC (i j : Nat) (t : T) (x : Ev) : Ev := ⟨x.deep, x.sz, setCell x.rows i j t, x.gen, x.on⟩
def St.cN (σ : St) (e i j : Nat) (t : T) (dst : Option Nat) (res : List D) : St := St.put ⟨σ.sl, σ.bx, upd σ.ev e ((σ.ev e).map (evC i j t))⟩ dst (tupV (res.map D.toV))
def onN (x : Option Ev) (i j : Nat) (v : Value) (t : T) : Prop := onSome x fun y => y.on = true ∧ y.deep = true ∧ y.rows[i]?.isSome = true ∧ (y.rows.getD i [])[j]? = some (.pin v t)
def cvArg (xs : List V) (K : Value → List V → Prop) : Prop := match xs with
  | .one (.cv v) :: p2 => K v p2
  | _ => False
section
variable {ks : List Fr} {Q : Exit → St → Prop} {σ : St} {ops : Array Oper} {os : List Oper} {ty : TypeId} {ps : String} {af : Array Edge} {dst : Option Nat} {x : Operand} {asx : Array Operand} {ts : Array TypeId} {f : FuncId} {post : List D} {res : List D}
theorem callN {l : List (Nat × V)} {bl : List (Nat × List C)} {el : List (Nat × Ev)} (e i j : Nat) {sz1 : Nat} {rows1 rows1' : List (List T)} (h : IC P f [] (.one (.sl sz1 rows1)) post (.one (.sl sz1 rows1')) res) (hw : wkL σ (hd l bl el) l ∧ wkB σ (hd l bl el) bl ∧ wkE σ el)
    (hd1 : (l.all fun p => p.2.mOk) = true) (hd2 : (bl.all fun p => p.2.all C.mOk) = true) (hd3 : (el.all fun p => p.2.on && p.2.deep) = true)
    (hp : onSome (calleeOf ((hd l bl el).get P 0 x)) fun p => p.1 = f ∧ cvArg ((hd l bl el).gets P asx ts ++ p.2) fun v p2 => nmVs p2 post ∧ onN (tbl el e) i j v (.sl sz1 rows1)) (hr : res.all D.fl = true)
    (k : exo P ops os ks Q ((hd l bl el).cN e i j (.sl sz1 rows1') dst res)) : exo P ops (⟨dst, .call ⟨.value x, asx, ts⟩, ty, ps, af, none⟩ :: os) ks Q σ := by
  obtain ⟨⟨f', cvs⟩, h1, rfl, h2⟩ := onSome_ex hp
  unfold cvArg at h2
  split at h2
  · rename_i v p2 hx
    obtain ⟨h3, h4⟩ := h2
    obtain ⟨⟨dp, sz, rows, gn, on⟩, he, rfl, rfl, h5, h6⟩ := onSome_ex h4
    obtain ⟨r, hr'⟩ := Option.isSome_iff_exists.1 h5
    have hg : rows.getD i [] = r := by rw [List.getD_eq_getElem?_getD, hr']; rfl
    rw [hg] at h6
    have hs := sem_callN (P := P) (o := ⟨dst, .call ⟨.value x, asx, ts⟩, ty, ps, af, none⟩) (σ := hd l bl el) rfl h h1 hx h3 (e := e) he hr' h6 hr (deep_hd hd1 hd2 hd3)
    refine exo_sem rfl rfl (σ' := (hd l bl el).cN e i j (.sl sz1 rows1') dst res) ?_ k
    have e0 : (hd l bl el).cN e i j (.sl sz1 rows1') dst res = ((hd l bl el).inp [(e, rows.set i (r.set j (.sl sz1 rows1')))]).put dst (tupV (res.map D.toV)) := by
      unfold St.cN St.inp inpE inpE
      rw [show (hd l bl el).ev e = _ from he]
      simp only [Option.map_some, setCell, evC, hg]
    rw [e0]
    exact StepSem.pre (weak_hd hw) hs
  · exact h2.elim
end
attribute [go_sem] cvArg onN St.cN evC
end Go.Proofs.Ytfppgpojemdijaa
/-
  The walk over plain data: calls that are given what the caller owns.
  Conditions: none.
-/
namespace Go.Proofs.Ytfppgpojemdijaa
set_option linter.unusedSimpArgs false
set_option linter.unusedVariables false
set_option linter.unusedSectionVars false
set_option maxRecDepth 4000
open Go.RowKit
variable {P : Program}
/-- Where given blocks come from: a whole owned slice, or one cell of its elements. -/
abbrev Sr := Nat × Option (Nat × Nat)
def okQ : Option (Nat × Nat) → Option (Nat × Nat) → Bool
  | some a, some b => !(a.1 == b.1 && a.2 == b.2)
  | _, _ => false
def okS : List Sr → Sr → Bool
  | [], _ => true
  | (e, p) :: u, (e', p') => (if e = e' then okQ p p' else true) && okS u (e', p')
/-- An owned slice, whatever is known of the values in it. -/
def owU (x : Option Ev) (sz : Nat) (rows : List (List T)) (g : Nat) : Prop := onSome x fun y => y.deep = true ∧ y.sz = sz ∧ (y.rows = rows ∨ unpinRs y.rows = rows) ∧ y.gen = g ∧ y.on = true
/-- A given cell: a flat one, or one of which the value is known. -/
def gvT (σ : St) (K : List Sr → List (Nat × Nat × Nat) → Prop) (u : List Sr) (ps : List (Nat × Nat × Nat)) (x t : T) : Prop := match x, ps with
  | .pin v y, (e, i, j) :: ps => y = t ∧ okS u (e, some (i, j)) = true ∧ onN (σ.ev e) i j v t ∧ K ((e, some (i, j)) :: u) ps
  | x, ps => x = t ∧ t.flat = true ∧ K u ps
theorem gvT_mono {σ : St} {K K' : List Sr → List (Nat × Nat × Nat) → Prop} (hK : ∀ u ps, K u ps → K' u ps) {u : List Sr} {ps : List (Nat × Nat × Nat)} {x t : T} (h : gvT σ K u ps x t) : gvT σ K' u ps x t := by
  unfold gvT at h ⊢
  split at h
  · exact ⟨h.1, h.2.1, h.2.2.1, hK _ _ h.2.2.2⟩
  · exact ⟨h.1, h.2.1, hK _ _ h.2.2⟩
/-- Given cells, and where they come from. -/
def gvK (σ : St) (K : List Sr → List (Nat × Nat × Nat) → Prop) : List Sr → List (Nat × Nat × Nat) → List C → List T → Prop
  | u, ps, [], [] => K u ps
  | u, ps, .t x :: cs, t :: ts => gvT σ (fun u ps => gvK σ K u ps cs ts) u ps x t
  | u, ps, .nl _ :: cs, .sl _ rows :: ts => rows = [] ∧ gvK σ K u ps cs ts
  | u, ps, .ow e g :: cs, .sl sz rows :: ts => okS u (e, none) = true ∧ owU (σ.ev e) sz rows g ∧ gvK σ K ((e, none) :: u) ps cs ts
  | u, (e, i, j) :: ps, .cv v :: cs, t :: ts => okS u (e, some (i, j)) = true ∧ onN (σ.ev e) i j v t ∧ gvK σ K ((e, some (i, j)) :: u) ps cs ts
  | _, _, _, _ => False
/-- A cell that is only read, whatever becomes of the given ones. -/
def rdC : C → T → Prop
  | .t x, y => x = y ∧ T.nm y = true
  | .fn f [], .fn g [] => f = g
  | .rn x, y => x = y
  | .er cs o, .ptr cs' => o = 0 ∧ cs = cs'
  | .nl _, .sl _ rows => rows = []
  | _, _ => False
def rdCs : List C → List T → Prop
  | [], [] => True
  | c :: cs, t :: ts => rdC c t ∧ rdCs cs ts
  | _, _ => False
def rdV : V → D → Prop
  | .one c, .one t => rdC c t
  | .agg cs, .agg ts => rdCs cs ts
  | _, _ => False
/-- The arguments of a call: given, or only read. -/
def gvA (σ : St) (K : List Sr → Prop) : List Sr → List (Nat × Nat × Nat) → List V → List (Bool × D) → Prop
  | u, _, [], [] => K u
  | u, ps, v :: vs, (false, d) :: ds => rdV v d ∧ gvA σ K u ps vs ds
  | u, ps, .one c :: vs, (true, .one t) :: ds => gvK σ (fun u ps => gvA σ K u ps vs ds) u ps [c] [t]
  | u, ps, .agg cs :: vs, (true, .agg ts) :: ds => gvK σ (fun u ps => gvA σ K u ps vs ds) u ps cs ts
  | _, _, _, _ => False

theorem gvK_mono {σ : St} {K K' : List Sr → List (Nat × Nat × Nat) → Prop} (hK : ∀ u ps, K u ps → K' u ps) : ∀ {cs : List C} {ts : List T} {u : List Sr} {ps : List (Nat × Nat × Nat)}, gvK σ K u ps cs ts → gvK σ K' u ps cs ts
  | [], [], _, _, h => hK _ _ h
  | [], _ :: _, _, _, h => by cases h
  | c :: cs, [], u, ps, h => by cases c <;> first | exact (show False from h).elim | (cases ps <;> exact (show False from h).elim)
  | c :: cs, t :: ts, u, ps, h => by
    unfold gvK at h ⊢
    split at h
    · rename_i e1 e2; cases e1
    · rename_i e1 e2; cases e1; cases e2; exact gvT_mono (fun u ps h => gvK_mono hK h) h
    · rename_i e1 e2; cases e1; cases e2; exact ⟨h.1, gvK_mono hK h.2⟩
    · rename_i e1 e2; cases e1; cases e2; exact ⟨h.1, h.2.1, gvK_mono hK h.2.2⟩
    · rename_i e1 e2; cases e1; cases e2; exact ⟨h.1, h.2.1, gvK_mono hK h.2.2⟩
    · exact h.elim
theorem gvA_mono {σ : St} {K K' : List Sr → Prop} (hK : ∀ u, K u → K' u) : ∀ {xs : List V} {ds : List (Bool × D)} {u : List Sr} {ps : List (Nat × Nat × Nat)}, gvA σ K u ps xs ds → gvA σ K' u ps xs ds
  | [], [], _, _, h => hK _ h
  | [], _ :: _, _, _, h => h.elim
  | x :: xs, [], _, _, h => by cases x <;> exact h.elim
  | x :: xs, (false, d) :: ds, _, _, h => by unfold gvA at h ⊢; exact ⟨h.1, gvA_mono hK h.2⟩
  | .one c :: xs, (true, .one t) :: ds, _, _, h => by unfold gvA at h ⊢; exact gvK_mono (fun u ps hu => gvA_mono hK hu) h
  | .agg cs :: xs, (true, .agg ts) :: ds, _, _, h => by unfold gvA at h ⊢; exact gvK_mono (fun u ps hu => gvA_mono hK hu) h
  | .one _ :: _, (true, .agg _) :: _, _, _, h => h.elim
  | .agg _ :: _, (true, .one _) :: _, _, _, h => h.elim
  | .tup _ :: _, (true, d) :: _, _, _, h => by cases d <;> exact h.elim
/-- The blocks behind each cell of what is owned. -/
theorem OwnAll.fam {w : World} : ∀ {cs : List T} {vs : List Value} {fps : List Nat}, OwnAll w cs vs fps → ∃ F : Nat → List Nat, (∀ k c, cs[k]? = some c → ∃ v, vs[k]? = some v ∧ OwnV w c v (F k)) ∧ (∀ k b, b ∈ F k → b ∈ fps) ∧ (fps.Nodup → (∀ k, (F k).Nodup) ∧ ∀ k k', k ≠ k' → ∀ b ∈ F k, b ∉ F k')
  | [], vs, fps, h => ⟨fun _ => [], fun k c hc => by simp at hc, by simp, fun _ => ⟨by simp, by simp⟩⟩
  | c :: cs, _, _, h => by
    obtain ⟨v, vs', f1, f2, rfl, rfl, h1, h2⟩ := h
    obtain ⟨F, k1, k2, k3⟩ := OwnAll.fam h2
    refine ⟨fun k => match k with | 0 => f1 | k + 1 => F k, fun k c' hc => ?_, fun k b hb => ?_, fun hn => ?_⟩
    · cases k with
      | zero => simp only [List.getElem?_cons_zero, Option.some.injEq] at hc; subst hc; exact ⟨v, rfl, h1⟩
      | succ k => exact k1 k c' (by simpa using hc)
    · cases k with
      | zero => exact List.mem_append_left _ hb
      | succ k => exact List.mem_append_right _ (k2 k b hb)
    · obtain ⟨n1, n2, n3⟩ := List.nodup_append.1 hn
      obtain ⟨m1, m2⟩ := k3 n2
      refine ⟨fun k => ?_, fun k k' hne b hb hb' => ?_⟩
      · cases k with
        | zero => exact n1
        | succ k => exact m1 k
      · cases k with
        | zero =>
          cases k' with
          | zero => exact hne rfl
          | succ k' => exact n3 b hb b (k2 k' b hb') rfl
        | succ k =>
          cases k' with
          | zero => exact n3 b hb' b (k2 k b hb) rfl
          | succ k' => exact m2 k k' (by omega) b hb hb'
theorem flat_at {sz : Nat} : ∀ {rows : List (List T)} {i j : Nat} {r : List T} {c : T}, lens sz rows → rows[i]? = some r → r[j]? = some c → rows.flatten[i * sz + j]? = some c
  | [], _, _, _, _, _, h, _ => by simp at h
  | d :: rows, 0, j, r, c, hl, hr, hc => by
    simp only [List.getElem?_cons_zero, Option.some.injEq] at hr
    subst hr
    have hj : j < d.length := by
      rcases Nat.lt_or_ge j d.length with h | h
      · exact h
      · rw [List.getElem?_eq_none h] at hc; cases hc
    rw [List.flatten_cons, List.getElem?_append_left (by omega)]
    simpa using hc
  | d :: rows, i + 1, j, r, c, hl, hr, hc => by
    have hd : d.length = sz := hl d (by simp)
    have := flat_at (sz := sz) (rows := rows) (fun r hr => hl r (by simp [hr])) (by simpa using hr) hc
    rw [List.flatten_cons, List.getElem?_append_right (by rw [hd, Nat.add_mul]; omega)]
    rwa [show (i + 1) * sz + j - d.length = i * sz + j by rw [hd, Nat.add_mul]; omega]
/-- The blocks behind a source. -/
structure Fam (w : World) (σ : St) (g : Gh) (B : Sr → List Nat) : Prop where
  whole : ∀ e, B (e, none) = g.φ e
  cell : ∀ e i j v t, onN (σ.ev e) i j v t → OwnV w t v (B (e, some (i, j)))
  sub : ∀ e p b, σ.On e → b ∈ B (e, p) → b ∈ g.φ e
  nodup : ∀ e p, σ.On e → (B (e, p)).Nodup
  apart : ∀ e p p', σ.On e → p ≠ p' → ∀ b ∈ B (e, some p), b ∉ B (e, some p')
theorem Rel.fam {n0 : Nat → Prop} {N : Nat} {σ : St} {g : Gh} {a : Act} {w : World} (hR : Rel n0 N σ g a w) : ∃ B, Fam w σ g B := by
  have h1 : ∀ e, ∃ F : Nat × Nat → List Nat, ∀ dp sz rows gn, σ.ev e = some ⟨dp, sz, rows, gn, true⟩ → ((dp = true → ∀ i j v t, rows[i]?.isSome = true → (rows.getD i [])[j]? = some (.pin v t) → OwnV w t v (F (i, j))) ∧ (∀ p b, b ∈ F p → b ∈ g.φ e) ∧ (∀ p, (F p).Nodup) ∧ ∀ p p', p ≠ p' → ∀ b ∈ F p, b ∉ F p') := by
    intro e
    by_cases hon : ∃ sz rows gn, σ.ev e = some ⟨true, sz, rows, gn, true⟩
    · obtain ⟨sz, rows, gn, he⟩ := hon
      have hnd := hR.nodup e ⟨_, he, rfl⟩
      obtain ⟨ao, cap, vs, k1, k2, k3, k4, k5, k6, k7⟩ := hR.vals he rfl
      rcases k7 with ⟨_, _, k7, k8⟩ | ⟨b, cells, ty, fps, k7, k8, k9, k10, k11, k12, k13⟩
      · refine ⟨fun _ => [], fun dp sz' rows' gn' he' => ?_⟩
        rw [he, Option.some.injEq] at he'
        cases he'
        have k7 : rows = [] := k7
        subst k7
        exact ⟨fun _ i j v t h => by simp at h, by simp, by simp, by simp⟩
      · obtain ⟨F, f1, f2, f3⟩ := (k12 rfl).fam
        rw [k8] at hnd
        obtain ⟨m1, m2⟩ := f3 (List.nodup_cons.1 hnd).2
        refine ⟨fun p => if p.2 < sz ∧ p.1 < rows.length then F (p.1 * sz + p.2) else [], fun dp sz' rows' gn' he' => ?_⟩
        rw [he, Option.some.injEq] at he'
        cases he'
        refine ⟨fun _ i j v t h1 h2 => ?_, fun p b hb => ?_, fun p => ?_, fun p p' hne b hb hb' => ?_⟩
        · obtain ⟨r, hr⟩ := Option.isSome_iff_exists.1 h1
          have hg : rows.getD i [] = r := by rw [List.getD_eq_getElem?_getD, hr]; rfl
          rw [hg] at h2
          have hj : j < sz := by
            have : r.length = sz := k4 r (List.mem_of_getElem? hr)
            rcases Nat.lt_or_ge j r.length with h | h
            · omega
            · rw [List.getElem?_eq_none h] at h2; cases h2
          have hi : i < rows.length := (List.getElem?_eq_some_iff.1 hr).1
          obtain ⟨u, _, hu⟩ := f1 _ _ (flat_at k4 hr h2)
          show OwnV w t v (if j < sz ∧ i < rows.length then F (i * sz + j) else [])
          rw [if_pos ⟨hj, hi⟩]
          unfold OwnV at hu
          obtain ⟨rfl, hu⟩ := hu
          exact hu
        · by_cases hp : p.2 < sz ∧ p.1 < rows.length
          · simp only [if_pos hp] at hb; rw [k8]; exact List.mem_cons_of_mem _ (f2 _ _ hb)
          · simp only [if_neg hp] at hb; simp at hb
        · by_cases hp : p.2 < sz ∧ p.1 < rows.length
          · simp only [if_pos hp]; exact m1 _
          · simp only [if_neg hp]; simp
        · by_cases hp : p.2 < sz ∧ p.1 < rows.length
          · by_cases hp' : p'.2 < sz ∧ p'.1 < rows.length
            · simp only [if_pos hp, if_pos hp'] at hb hb'
              refine m2 _ _ (fun heq => hne ?_) b hb hb'
              obtain ⟨i, j⟩ := p
              obtain ⟨i', j'⟩ := p'
              simp only at hp hp' heq
              have hii : i = i' := by
                rcases Nat.lt_trichotomy i i' with h | h | h
                · have := Nat.mul_le_mul_right sz (show i + 1 ≤ i' by omega); rw [Nat.add_mul] at this; omega
                · exact h
                · have := Nat.mul_le_mul_right sz (show i' + 1 ≤ i by omega); rw [Nat.add_mul] at this; omega
              subst hii
              have : j = j' := by omega
              subst this; rfl
            · simp only [if_neg hp'] at hb'; simp at hb'
          · simp only [if_neg hp] at hb; simp at hb
    · refine ⟨fun _ => [], fun dp sz rows gn he => ⟨fun hd => ?_, by simp, by simp, by simp⟩⟩
      subst hd
      exact absurd ⟨sz, rows, gn, he⟩ hon
  refine ⟨fun s => match s.2 with | none => g.φ s.1 | some p => Classical.choose (h1 s.1) p, ⟨fun e => rfl, fun e i j v t ho => ?_, fun e p b ho hb => ?_, fun e p ho => ?_, fun e p p' ho hne b hb => ?_⟩⟩
  · obtain ⟨⟨dp, sz, rows, gn, on⟩, he, h2, h3, h4, h5⟩ := onSome_ex ho
    simp only at h2 h3
    subst h2 h3
    exact (Classical.choose_spec (h1 e) true sz rows gn he).1 rfl i j v t h4 h5
  · cases p with
    | none => exact hb
    | some p =>
      obtain ⟨⟨dp, sz, rows, gn, on⟩, he, ho⟩ := ho
      simp only at ho
      subst ho
      exact (Classical.choose_spec (h1 e) dp sz rows gn he).2.1 p b hb
  · cases p with
    | none => exact hR.nodup e ho
    | some p =>
      obtain ⟨⟨dp, sz, rows, gn, on⟩, he, ho⟩ := ho
      simp only at ho
      subst ho
      exact (Classical.choose_spec (h1 e) dp sz rows gn he).2.2.1 p
  · obtain ⟨⟨dp, sz, rows, gn, on⟩, he, ho⟩ := ho
    simp only at ho
    subst ho
    exact (Classical.choose_spec (h1 e) dp sz rows gn he).2.2.2 p p' hne b hb
/-- The blocks behind sources. -/
def bks (B : Sr → List Nat) (u : List Sr) : List Nat := u.flatMap B
def okP (s s' : Sr) : Prop := s.1 ≠ s'.1 ∨ (s.2 ≠ none ∧ s'.2 ≠ none ∧ s.2 ≠ s'.2)
theorem okP.symm {s s' : Sr} (h : okP s s') : okP s' s := h.imp (fun h => Ne.symm h) fun h => ⟨h.2.1, h.1, Ne.symm h.2.2⟩
theorem okS_ok : ∀ {u : List Sr} {s : Sr}, okS u s = true → ∀ x ∈ u, okP s x
  | [], _, _, x, hx => by simp at hx
  | (e, p) :: u, (e', p'), h, x, hx => by
    unfold okS at h
    rw [Bool.and_eq_true] at h
    rcases List.mem_cons.1 hx with rfl | hx
    · have h1 := h.1
      by_cases he : e = e'
      · rw [if_pos he] at h1
        right
        unfold okQ at h1
        split at h1
        · rename_i a b
          refine ⟨by simp, by simp, fun e => ?_⟩
          simp only [Option.some.injEq] at e
          subst e
          simp at h1
        · cases h1
      · left; exact Ne.symm he
    · exact okS_ok h.2 x hx
theorem bks_nodup {n0 : Nat → Prop} {N : Nat} {σ : St} {g : Gh} {a : Act} {w : World} (hR : Rel n0 N σ g a w) {B : Sr → List Nat} (hB : Fam w σ g B) : ∀ {s : List Sr}, (∀ x ∈ s, σ.On x.1) → s.Pairwise okP → (bks B s).Nodup
  | [], _, _ => List.nodup_nil
  | x :: s, ho, hp => by
    obtain ⟨p1, p2⟩ := List.pairwise_cons.1 hp
    unfold bks
    rw [List.flatMap_cons]
    refine List.nodup_append.2 ⟨hB.nodup x.1 x.2 (ho x (by simp)), bks_nodup hR hB (fun y hy => ho y (by simp [hy])) p2, fun b hb b' hb' hbb => ?_⟩
    subst hbb
    obtain ⟨y, hy, hb'⟩ := List.mem_flatMap.1 hb'
    obtain ⟨e, p⟩ := x
    obtain ⟨e', p'⟩ := y
    have o1 := ho (e, p) (by simp)
    have o2 := ho (e', p') (by simp [hy])
    rcases p1 (e', p') hy with h | ⟨h1, h2, h3⟩
    · exact hR.apart e e' o1 o2 h b (hB.sub e p b o1 hb) (hB.sub e' p' b o2 hb')
    · by_cases hee : e = e'
      · subst hee
        cases p with
        | none => exact h1 rfl
        | some p =>
          cases p' with
          | none => exact h2 rfl
          | some p' => exact hB.apart e p p' o1 (fun h => h3 (by rw [h])) b hb hb'
      · exact hR.apart e e' o1 o2 hee b (hB.sub e p b o1 hb) (hB.sub e' p' b o2 hb')
theorem onN_on {σ : St} {e i j : Nat} {v : Value} {t : T} (h : onN (σ.ev e) i j v t) : σ.On e := by
  obtain ⟨x, hx, h2, _⟩ := onSome_ex h
  exact ⟨x, hx, h2⟩
section
variable {n0 : Nat → Prop} {N : Nat} {σ : St} {g : Gh} {a : Act} {w : World} (hR : Rel n0 N σ g a w) {B : Sr → List Nat} (hB : Fam w σ g B)
include hR hB
theorem gvK_sound {K : List Sr → List (Nat × Nat × Nat) → Prop} : ∀ {cs : List C} {ts : List T} {u : List Sr} {ps : List (Nat × Nat × Nat)} {vs : List Value}, gvK σ K u ps cs ts → CRs σ g w cs vs →
    ∃ s ps' tp, K (s.reverse ++ u) ps' ∧ GAll w ts vs (bks B s) tp ∧ (∀ x ∈ s, σ.On x.1) ∧ (u.Pairwise okP → (s.reverse ++ u).Pairwise okP)
  | [], [], u, ps, vs, h, hv => ⟨[], ps, [], h, ⟨hv, rfl, rfl⟩, by simp, fun h => h⟩
  | [], _ :: _, _, _, _, h, _ => by cases h
  | c :: cs, [], u, ps, vs, h, hv => by cases c <;> first | exact (show False from h).elim | (cases ps <;> exact (show False from h).elim)
  | c :: cs, t :: ts, u, ps, vs, h, hv => by
    obtain ⟨v, vs', rfl, h1, h2⟩ := hv
    unfold gvK at h
    split at h
    · rename_i e1 e2; cases e1
    · rename_i x cs' t' ts' e1 e2
      cases e1; cases e2
      unfold gvT at h
      split at h
      · rename_i v0 y e i j ps0
        obtain ⟨rfl, hok, he, h⟩ := h
        obtain ⟨s, ps', tp, k1, k2, k3, k4⟩ := gvK_sound h h2
        unfold CR RepV at h1
        obtain ⟨rfl, _⟩ := h1
        have ho := hB.cell e i j v y he
        refine ⟨(e, some (i, j)) :: s, ps', topT y (B (e, some (i, j))) ++ tp, by simpa using k1, ⟨v, vs', _, bks B s, tp, rfl, by unfold bks; rw [List.flatMap_cons], rfl, ho, k2⟩, fun x hx => ?_, fun hu => ?_⟩
        · rcases List.mem_cons.1 hx with rfl | hx
          · exact onN_on he
          · exact k3 x hx
        · have := k4 (List.pairwise_cons.2 ⟨okS_ok hok, hu⟩)
          simpa using this
      obtain ⟨rfl, hf, h⟩ := h
      obtain ⟨s, ps', tp, k1, k2, k3, k4⟩ := gvK_sound h h2
      have ho : OwnV w x v [] := by
        cases x <;> simp only [T.flat, Bool.false_eq_true] at hf <;> simp only [CR, RepV] at h1 <;> unfold OwnV
        · exact ⟨h1.1, h1.2.1, h1.2.2, rfl⟩
        · exact ⟨h1, rfl⟩
        · exact ⟨h1.1, h1.2, rfl⟩
        · exact ⟨h1, rfl⟩
      exact ⟨s, ps', topT x [] ++ tp, k1, ⟨v, vs', [], _, tp, rfl, rfl, rfl, ho, k2⟩, k3, k4⟩
    · rename_i z cs' sz rows ts' e1 e2
      cases e1; cases e2
      obtain ⟨rfl, h⟩ := h
      obtain ⟨s, ps', tp, k1, k2, k3, k4⟩ := gvK_sound h h2
      have ho : OwnV w (.sl sz []) v [] := by
        unfold OwnV
        exact ⟨none, 0, h1, by simp, by simp, Or.inl ⟨rfl, rfl, rfl, rfl⟩⟩
      exact ⟨s, ps', topT (.sl sz []) [] ++ tp, k1, ⟨v, vs', [], _, tp, rfl, rfl, rfl, ho, k2⟩, k3, k4⟩
    · rename_i e gn cs' sz rows ts' e1 e2
      cases e1; cases e2
      obtain ⟨hok, he, h⟩ := h
      obtain ⟨s, ps', tp, k1, k2, k3, k4⟩ := gvK_sound h h2
      have hou := he
      obtain ⟨⟨dp, sz0, rows0, gn0, on0⟩, hev, rfl, rfl, hrows, rfl, rfl⟩ := onSome_ex hou
      have ho : OwnV w (.sl sz0 rows) (g.ψ e gn0) (g.φ e) := by
        rcases hrows with rfl | rfl
        · exact own_event hR hev
        · exact (own_event hR hev).unpins
      have h1 : v = g.ψ e gn0 ∧ _ := h1
      rw [← h1.1] at ho
      refine ⟨(e, none) :: s, ps', topT (.sl _ _) (g.φ e) ++ tp, by simpa using k1, ⟨v, vs', g.φ e, bks B s, tp, rfl, by unfold bks; rw [List.flatMap_cons, hB.whole], rfl, ho, k2⟩, fun x hx => ?_, fun hu => ?_⟩
      · rcases List.mem_cons.1 hx with rfl | hx
        · exact ⟨_, hev, rfl⟩
        · exact k3 x hx
      · have := k4 (List.pairwise_cons.2 ⟨okS_ok hok, hu⟩)
        simpa using this
    · rename_i e i j ps0 v0 cs' t' ts' e1 e2
      cases e1; cases e2
      obtain ⟨hok, he, h⟩ := h
      obtain ⟨s, ps', tp, k1, k2, k3, k4⟩ := gvK_sound h h2
      have h1 : v = v0 := h1
      subst h1
      have ho := hB.cell e i j v t he
      refine ⟨(e, some (i, j)) :: s, ps', topT t (B (e, some (i, j))) ++ tp, by simpa using k1, ⟨v, vs', _, bks B s, tp, rfl, by unfold bks; rw [List.flatMap_cons], rfl, ho, k2⟩, fun x hx => ?_, fun hu => ?_⟩
      · rcases List.mem_cons.1 hx with rfl | hx
        · exact onN_on he
        · exact k3 x hx
      · have := k4 (List.pairwise_cons.2 ⟨okS_ok hok, hu⟩)
        simpa using this
    · exact h.elim
omit hB in
theorem rdC_rep {FP : List Nat} (hFP : ∀ b ∈ FP, ∃ e, σ.On e ∧ b ∈ g.φ e) {c : C} {t : T} {v : Value} (h : rdC c t) (hv : CR σ g w c v) : RepV w (fun b => b < w.heap.size ∧ b ∉ FP) t v := by
  unfold rdC at h
  split at h
  · rename_i x
    obtain ⟨rfl, hn⟩ := h
    exact nmV_rep (σ := σ) (g := g) (x := .one (.t x)) (d := .one x) ⟨rfl, hn⟩ hv _
  · rename_i f f'
    subst h
    exact nmV_rep (σ := σ) (g := g) (x := .one (.fn f [])) (d := .one (.fn f [])) rfl hv _
  · subst h
    refine RepV.keep (fun _ _ => rfl) (fun b hb => ⟨hb.1.2.2.1, fun hm => ?_⟩) _ v hv
    obtain ⟨e, ho, hm⟩ := hFP b hm
    exact hb.2 e ho hm
  · obtain ⟨rfl, rfl⟩ := h
    obtain ⟨b, q, h1, h2, h3⟩ := hv
    have hk : ∀ b, Free σ g w b → b < w.heap.size ∧ b ∉ FP := fun b hb => ⟨hb.1.2.2.1, fun hm => by obtain ⟨e, ho, hm⟩ := hFP b hm; exact hb.2 e ho hm⟩
    unfold RepV
    exact ⟨b, q, h1, hk b h2, RepAt.keep (fun _ _ => rfl) hk b rfl q _ h3⟩
  · subst h
    rw [show v = .slice none 0 0 from hv]
    unfold RepV
    exact ⟨none, 0, rfl, by simp, by simp, Or.inl rfl⟩
  · exact h.elim
omit hB in
theorem rdCs_rep {FP : List Nat} (hFP : ∀ b ∈ FP, ∃ e, σ.On e ∧ b ∈ g.φ e) : ∀ {cs : List C} {ts : List T} {vs : List Value}, rdCs cs ts → CRs σ g w cs vs → RepAll w (fun b => b < w.heap.size ∧ b ∉ FP) ts vs
  | [], [], vs, _, hv => by unfold RepAll; exact hv
  | [], _ :: _, _, h, _ => h.elim
  | _ :: _, [], _, h, _ => h.elim
  | c :: cs, t :: ts, vs, h, hv => by
    obtain ⟨v, vs', rfl, h1, h2⟩ := hv
    unfold RepAll
    exact ⟨v, vs', rfl, rdC_rep hR hFP h.1 h1, rdCs_rep hFP h.2 h2⟩
theorem gvA_sound {K : List Sr → Prop} : ∀ {xs : List V} {ds : List (Bool × D)} {u : List Sr} {ps : List (Nat × Nat × Nat)} {vs : List Value}, gvA σ K u ps xs ds → VRl σ g w xs vs →
    ∃ s, K (s.reverse ++ u) ∧ (∀ FP : List Nat, (∀ b ∈ FP, ∃ e, σ.On e ∧ b ∈ g.φ e) → ∃ tp, GArgs w (fun b => b < w.heap.size ∧ b ∉ FP) ds vs (bks B s) tp) ∧ (∀ x ∈ s, σ.On x.1) ∧ (u.Pairwise okP → (s.reverse ++ u).Pairwise okP)
  | [], [], u, ps, vs, h, hv => ⟨[], h, fun _ _ => ⟨[], hv, rfl, rfl⟩, by simp, fun h => h⟩
  | [], _ :: _, _, _, _, h, _ => h.elim
  | x :: xs, [], _, _, _, h, _ => by cases x <;> exact h.elim
  | x :: xs, (false, d) :: ds, u, ps, vs, h, hv => by
    obtain ⟨v, vs', rfl, h1, h2⟩ := hv
    unfold gvA at h
    obtain ⟨hr, h⟩ := h
    obtain ⟨s, k1, k2, k3, k4⟩ := gvA_sound h h2
    refine ⟨s, k1, fun FP hFP => ?_, k3, k4⟩
    obtain ⟨tp, k2⟩ := k2 FP hFP
    refine ⟨tp, v, vs', rfl, ?_, k2⟩
    unfold rdV at hr
    split at hr
    · exact rdC_rep hR hFP hr h1
    · obtain ⟨b, e, h1⟩ := h1; exact ⟨b, e, rdCs_rep hR hFP hr h1⟩
    · exact hr.elim
  | .one c :: xs, (true, .one t) :: ds, u, ps, vs, h, hv => by
    obtain ⟨v, vs', rfl, h1, h2⟩ := hv
    unfold gvA at h
    obtain ⟨s, ps', tp, k1, k2, k3, k4⟩ := gvK_sound hR hB h (vs := [v]) ⟨v, [], rfl, h1, rfl⟩
    obtain ⟨s', j1, j2, j3, j4⟩ := gvA_sound k1 h2
    obtain ⟨v0, vs0, f1, f2, t2, e0, e1, rfl, q1, q2⟩ := k2
    cases e0
    obtain ⟨_, rfl, rfl⟩ := q2
    rw [List.append_nil] at e1
    refine ⟨s ++ s', by simpa using j1, fun FP hFP => ?_, fun x hx => ?_, fun hu => by simpa using j4 (k4 hu)⟩
    · obtain ⟨tp', j2⟩ := j2 FP hFP
      exact ⟨topT t f1 ++ tp', v, vs', bks B s, bks B s', _, tp', rfl, by unfold bks; rw [List.flatMap_append], rfl, ⟨by rw [e1]; exact q1, by rw [e1]⟩, j2⟩
    · rcases List.mem_append.1 hx with hx | hx
      · exact k3 x hx
      · exact j3 x hx
  | .agg cs :: xs, (true, .agg ts) :: ds, u, ps, vs, h, hv => by
    obtain ⟨v, vs', rfl, ⟨y, rfl, h1⟩, h2⟩ := hv
    unfold gvA at h
    obtain ⟨s, ps', tp, k1, k2, k3, k4⟩ := gvK_sound hR hB h h1
    obtain ⟨s', j1, j2, j3, j4⟩ := gvA_sound k1 h2
    refine ⟨s ++ s', by simpa using j1, fun FP hFP => ?_, fun x hx => ?_, fun hu => by simpa using j4 (k4 hu)⟩
    · obtain ⟨tp', j2⟩ := j2 FP hFP
      exact ⟨tp ++ tp', _, vs', bks B s, bks B s', tp, tp', rfl, by unfold bks; rw [List.flatMap_append], rfl, ⟨y, rfl, k2⟩, j2⟩
    · rcases List.mem_append.1 hx with hx | hx
      · exact k3 x hx
      · exact j3 x hx
  | .one _ :: _, (true, .agg _) :: _, _, _, _, h, _ => h.elim
  | .agg _ :: _, (true, .one _) :: _, _, _, _, h, _ => h.elim
  | .tup _ :: _, (true, d) :: _, _, _, _, h, _ => by cases d <;> exact h.elim
end
end Go.Proofs.Ytfppgpojemdijaa
/-
  The walk over plain data: a call that is given what the caller owns, by rule.
  Conditions: none.
-/
namespace Go.Proofs.Ytfppgpojemdijaa
set_option linter.unusedSimpArgs false
set_option linter.unusedVariables false
set_option linter.unusedSectionVars false
set_option maxRecDepth 4000
open Go.RowKit
variable {P : Program}
/-- A cell that stays as it is, whatever becomes of the slices that are given away. -/
def C.okU (τ : St) : C → Prop
  | .t x => x.flat = true
  | .nl _ => True
  | .ow e g => onSome (τ.ev e) fun x => g ≤ x.gen
  | .bx b _ => τ.bx b ≠ none
  | .el _ _ => False
  | .er _ _ => True
  | .eo e s _ _ _ => onSome (τ.ev e) fun x => s ≤ x.gen
  | .fn _ caps => allBx τ caps
  | .cv _ => True
  | .any => True
  | .rn _ => True
def okUs (τ : St) : List C → Prop
  | [] => True
  | c :: cs => c.okU τ ∧ okUs τ cs
def okUt (τ : St) : List (Bool × List C) → Prop
  | [] => True
  | x :: xs => okUs τ x.2 ∧ okUt τ xs
def V.okU (τ : St) : V → Prop
  | .one c => c.okU τ
  | .agg cs => okUs τ cs
  | .tup xs => okUt τ xs
/-- What is kept of a state. -/
structure Kept (σ τ : St) : Prop where
  sl : ∀ i, τ.sl i = .one .any ∨ (τ.sl i = σ.sl i ∧ (τ.sl i).okU τ)
  bx : ∀ b cs, τ.bx b = some cs → σ.bx b = some cs ∧ okUs τ cs
  ev : ∀ e x, τ.ev e = some x → σ.ev e = some x ∧ x.on = true ∧ x.deep = true
section
variable {σ τ : St} {g g' : Gh} {w w' : World} {ev' : Nat → Option Ev}
  (hβ : g'.β = g.β) (hψ : ∀ e, τ.ev e ≠ none → ev' e = τ.ev e ∧ g'.ψ e = g.ψ e) (hrn : ∀ b, Free σ g w b → w'.heap[b]? = w.heap[b]? ∧ Free ⟨τ.sl, τ.bx, ev'⟩ g' w' b)
include hβ hψ hrn
theorem okU_cr {c : C} {v : Value} (hc : c.okU τ) (h : CR σ g w c v) : CR ⟨τ.sl, τ.bx, ev'⟩ g' w' c v := by
  have hh : ∀ {e n : Nat}, onSome (τ.ev e) (fun x => n ≤ x.gen) → g'.ψ e = g.ψ e ∧ St.has ⟨τ.sl, τ.bx, ev'⟩ e n := fun {e n} ho => by
    obtain ⟨x, hx, hn⟩ := onSome_ex ho
    obtain ⟨k1, k2⟩ := hψ e (by rw [hx]; simp)
    exact ⟨k2, x, k1.trans hx, hn⟩
  cases c with
  | t x => exact flat_rep hc h
  | nl s => exact h
  | ow e n => obtain ⟨k1, k2⟩ := hh hc; exact ⟨by rw [k1]; exact h.1, k2⟩
  | bx b o => exact ⟨by rw [hβ]; exact h.1, hc⟩
  | el cs o => exact hc.elim
  | eo e s sz i o => obtain ⟨k1, k2⟩ := hh hc; obtain ⟨b, n, c, q1, q2, q3, q4⟩ := h; exact ⟨b, n, c, by rw [k1]; exact q1, q2, q3, k2⟩
  | fn f caps => exact ⟨by rw [hβ]; exact h.1, fun b hb => allBx_mem (show allBx τ caps from hc) b hb⟩
  | cv u => exact h
  | any => trivial
  | rn x => exact RepV.keep (fun b hb => (hrn b hb).1) (fun b hb => (hrn b hb).2) x v h
  | er cs o => obtain ⟨b, q, h1, h2, h3⟩ := h; exact ⟨b, q, h1, (hrn b h2).2, RepAt.keep (fun b hb => (hrn b hb).1) (fun b hb => (hrn b hb).2) b (hrn b h2).1 q cs h3⟩
theorem okU_crs : ∀ {cs : List C} {vs : List Value}, okUs τ cs → CRs σ g w cs vs → CRs ⟨τ.sl, τ.bx, ev'⟩ g' w' cs vs
  | [], _, _, h => h
  | c :: cs, vs, hc, h => by
    obtain ⟨v, vs', rfl, h1, h2⟩ := h
    exact ⟨v, vs', rfl, okU_cr hβ hψ hrn hc.1 h1, okU_crs hc.2 h2⟩
theorem okU_crt : ∀ {xs : List (Bool × List C)} {vs : List Value}, okUt τ xs → CRt σ g w xs vs → CRt ⟨τ.sl, τ.bx, ev'⟩ g' w' xs vs
  | [], _, _, h => h
  | x :: xs, vs, hc, h => by
    obtain ⟨v, vs', rfl, h1, h2⟩ := h
    refine ⟨v, vs', rfl, ?_, okU_crt hc.2 h2⟩
    unfold CRx at h1 ⊢
    split at h1
    · rw [if_pos ‹_›]; obtain ⟨a, k1, k2⟩ := h1; exact ⟨a, k1, okU_crs hβ hψ hrn hc.1 k2⟩
    · rw [if_neg ‹_›]
      obtain ⟨c, k1, k2⟩ := h1
      refine ⟨c, k1, okU_cr hβ hψ hrn ?_ k2⟩
      have := hc.1
      rw [k1] at this
      exact this.1
theorem okU_vr {x : V} {v : Value} (hc : x.okU τ) (h : VR σ g w x v) : VR ⟨τ.sl, τ.bx, ev'⟩ g' w' x v := by
  cases x with
  | one c => exact okU_cr hβ hψ hrn hc h
  | agg cs => obtain ⟨a, k1, k2⟩ := h; exact ⟨a, k1, okU_crs hβ hψ hrn hc k2⟩
  | tup xs => obtain ⟨a, k1, k2⟩ := h; exact ⟨a, k1, okU_crt hβ hψ hrn hc k2⟩
end
/-- The state behind a call that was given slices: what is kept, and new owned slices. -/
theorem Rel.given {n0 : Nat → Prop} {N : Nat} {σ τ : St} {g g' : Gh} {a : Act} {w w' : World} (hR : Rel n0 N σ g a w) (hn0 : LtK n0 w) (hK : Kept σ τ) {fp : List Nat} (hfp : ∀ b ∈ fp, ∃ e, σ.On e ∧ τ.ev e = none ∧ b ∈ g.φ e) (hbk : Bk (fun k => k < w.heap.size ∧ k ∉ fp) w w')
    {ev' : Nat → Option Ev} {F : List Nat} (hn : New τ g (fun b => b ∈ fp ∨ w.heap.size ≤ b) w' ev' g' F) : Rel n0 N ⟨τ.sl, τ.bx, ev'⟩ g' a w' := by
  have hOnσ : ∀ e, τ.On e → σ.On e := fun e ⟨x, hx, ho⟩ => ⟨x, (hK.ev e x hx).1, ho⟩
  have hlt : ∀ e, σ.On e → ∀ b ∈ g.φ e, b < w.heap.size := fun e ⟨x, hx, ho⟩ => (hR.evs e x hx ho).lt
  have hbne : ∀ b, τ.bx b ≠ none → σ.bx b ≠ none := fun b hb => by
    obtain ⟨cs, hcs⟩ := Option.ne_none_iff_exists'.1 hb
    rw [(hK.bx b cs hcs).1]; simp
  have hfR : ∀ b ∈ fp, g.A0 b ∧ g.R0 b ∧ ¬ n0 b := fun b hb => by
    obtain ⟨e, ho, _, hm⟩ := hfp b hb
    obtain ⟨k1, k2⟩ := hR.ebase e ho b hm
    exact ⟨k1, k2, hR.etop e ho b hm⟩
  have hNB : ∀ b, (b ∈ fp ∨ w.heap.size ≤ b) → g.A0 b ∧ g.R0 b ∧ ¬ n0 b := fun b hb => by
    rcases hb with hb | hb
    · exact hfR b hb
    · have hnn := hn0.new hb
      exact ⟨(hR.anew b hnn).1, (hR.anew b hnn).2, hnn⟩
  have hβfp : ∀ b, τ.bx b ≠ none → ¬ (g.β b ∈ fp ∨ w.heap.size ≤ g.β b) := fun b hb h => by
    rcases h with h | h
    · obtain ⟨e, ho, _, hm⟩ := hfp _ h
      exact hR.ebx e b ho (hbne b hb) hm
    · have := hR.lt (hbne b hb); omega
  have hφfp : ∀ e, τ.On e → ∀ b ∈ g.φ e, ¬ (b ∈ fp ∨ w.heap.size ≤ b) := fun e ho b hb h => by
    rcases h with h | h
    · obtain ⟨e', ho', hno, hm⟩ := hfp b h
      refine hR.apart e e' (hOnσ e ho) ho' (fun hee => ?_) b hb hm
      subst hee
      obtain ⟨x, hx, _⟩ := ho
      rw [hx] at hno; cases hno
    · have := hlt e (hOnσ e ho) b hb; omega
  have hon : ∀ e, St.On ⟨τ.sl, τ.bx, ev'⟩ e → τ.ev e ≠ none → τ.On e := fun e ⟨x, hx, ho⟩ hee => ⟨x, (hn.old e hee).1.symm.trans hx, ho⟩
  have hkeep : ∀ b, b < w.heap.size → b ∉ fp → w'.heap[b]? = w.heap[b]? := fun b h1 h2 => hbk.block b ⟨h1, h2⟩
  have hrn : ∀ b, Free σ g w b → w'.heap[b]? = w.heap[b]? ∧ Free ⟨τ.sl, τ.bx, ev'⟩ g' w' b := fun b hb => by
    obtain ⟨hf, hr⟩ := hb
    have hnb : ∀ e, St.On ⟨τ.sl, τ.bx, ev'⟩ e → b ∉ g'.φ e := fun e ho hm => by
      by_cases hee : τ.ev e = none
      · obtain ⟨x, hx, _⟩ := ho
        rcases ((hn.new e x hee hx).2.2.1 b hm).1 with h | h
        · obtain ⟨e', ho', _, hm'⟩ := hfp b h
          exact hr e' ho' hm'
        · have := hf.2.2.1; omega
      · rw [(hn.old e hee).2.2] at hm
        exact hr e (hOnσ e (hon e ho hee)) hm
    refine ⟨hkeep b hf.2.2.1 (fun hm => by obtain ⟨e', ho', _, hm'⟩ := hfp b hm; exact hr e' ho' hm'), ⟨fun k hk => by rw [hn.β]; exact hf.1 k (hbne k hk), fun e x hx hon' hh => hnb e ⟨x, hx, hon'⟩ (List.mem_of_mem_head? hh), Nat.lt_of_lt_of_le hf.2.2.1 hbk.size, by rw [hn.A0]; exact hf.2.2.2⟩, hnb⟩
  have hψ : ∀ e, τ.ev e ≠ none → ev' e = τ.ev e ∧ g'.ψ e = g.ψ e := fun e he => ⟨(hn.old e he).1, (hn.old e he).2.1⟩
  refine ⟨by rw [hR.defers], hR.size, by rw [hn.A0, hn.R0]; exact hR.anew, fun i => ?_, fun b cs hb => ?_, fun b hb => by rw [hn.β]; exact hR.base b (hbne b hb), fun b b' h1 h2 h3 => by rw [hn.β] at h3; exact hR.inj b b' (hbne b h1) (hbne b' h2) h3, fun e x he ho => ?_, fun e x he ho => ?_, hn.slc, fun e he b hb => ?_, fun e he b hb => ?_, fun e he => ?_, fun e e' h1 h2 hne b hb1 hb2 => ?_, fun e k he hk hm => ?_⟩
  · rcases hK.sl i with h | ⟨h, hok⟩
    · rw [show (⟨τ.sl, τ.bx, ev'⟩ : St).sl i = .one .any from h]; trivial
    · rw [hn.R0]
      show VR _ g' w' (τ.sl i) _
      have hs := hR.slots i
      rw [← h] at hs
      exact okU_vr hn.β hψ hrn hok hs
  · obtain ⟨hb1, hb2⟩ := hK.bx b cs hb
    obtain ⟨vs, ty, k1, k2⟩ := hR.boxes b cs hb1
    have hne : τ.bx b ≠ none := by rw [show τ.bx b = some cs from hb]; simp
    have hnf := hβfp b hne
    exact ⟨vs, ty, by rw [hn.β, hkeep _ (hR.lt (hbne b hne)) (fun h => hnf (Or.inl h))]; exact k1, okU_crs hn.β hψ hrn hb2 k2⟩
  · by_cases hee : τ.ev e = none
    · obtain ⟨⟨k1, _, k0⟩, k2, k3, k4⟩ := hn.new e x hee he
      rw [k0]
      unfold OwnV at k2
      obtain ⟨ao, cap, j1, j2, j3, j4⟩ := k2
      refine ⟨ao, cap, j1, j2, j3, ?_⟩
      rcases j4 with j4 | ⟨b, cells, ty, fps, j4, j5, j6, j7, j8⟩
      · exact Or.inl j4
      · exact Or.inr ⟨b, cells, ty, fps, j4, j5, j6, j7, by rw [if_pos k1]; exact j8⟩
    · obtain ⟨o1, o2, o3⟩ := hn.old e hee
      have hx : τ.ev e = some x := o1.symm.trans he
      obtain ⟨k1, k2, k3⟩ := hK.ev e x hx
      have hE := hR.evs e x k1 k2
      have hno := hφfp e ⟨x, hx, k2⟩
      have hl := hlt e ⟨x, k1, k2⟩
      have hkp : ∀ b ∈ g.φ e, w'.heap[b]? = w.heap[b]? := fun b hb => hkeep b (hl b hb) fun h => hno b hb (Or.inl h)
      rw [o2, o3]
      obtain ⟨ao, cap, r1, r2, r3, r4⟩ := hE
      refine ⟨ao, cap, r1, r2, r3, ?_⟩
      rcases r4 with r4 | ⟨b, cells, ty, fps, r4, r5, r6, r7, r8⟩
      · exact Or.inl r4
      · rw [if_pos k3] at r8
        exact Or.inr ⟨b, cells, ty, fps, r4, r5, by rw [hkp b (by rw [r5]; simp)]; exact r6, r7, by rw [if_pos k3]; exact OwnRows.keep cells 0 x.sz x.rows fps r8 fun b' hb' => hkp b' (by rw [r5]; simp [hb'])⟩
  · by_cases hee : τ.ev e = none
    · rw [(hn.new e x hee he).1.2.1] at ho; cases ho
    · have hx : τ.ev e = some x := (hn.old e hee).1.symm.trans he
      rw [(hK.ev e x hx).2.1] at ho; cases ho
  · rw [hn.A0, hn.R0]
    by_cases hee : τ.ev e = none
    · obtain ⟨x, hx, _⟩ := he
      have := hNB b ((hn.new e x hee hx).2.2.1 b hb).1
      exact ⟨this.1, this.2.1⟩
    · rw [(hn.old e hee).2.2] at hb
      exact hR.ebase e (hOnσ e (hon e he hee)) b hb
  · by_cases hee : τ.ev e = none
    · obtain ⟨x, hx, _⟩ := he
      exact (hNB b ((hn.new e x hee hx).2.2.1 b hb).1).2.2
    · rw [(hn.old e hee).2.2] at hb
      exact hR.etop e (hOnσ e (hon e he hee)) b hb
  · by_cases hee : τ.ev e = none
    · obtain ⟨x, hx, _⟩ := he
      exact (hn.new e x hee hx).2.2.2
    · rw [(hn.old e hee).2.2]
      exact hR.nodup e (hOnσ e (hon e he hee))
  · by_cases hee : τ.ev e = none
    · obtain ⟨x, hx, _⟩ := h1
      by_cases hee' : τ.ev e' = none
      · obtain ⟨x', hx', _⟩ := h2
        exact hn.apart e e' hee hee' (by rw [show ev' e = some x from hx]; simp) (by rw [show ev' e' = some x' from hx']; simp) hne b hb1 hb2
      · rw [(hn.old e' hee').2.2] at hb2
        exact hφfp e' (hon e' h2 hee') b hb2 ((hn.new e x hee hx).2.2.1 b hb1).1
    · rw [(hn.old e hee).2.2] at hb1
      by_cases hee' : τ.ev e' = none
      · obtain ⟨x', hx', _⟩ := h2
        exact hφfp e (hon e h1 hee) b hb1 ((hn.new e' x' hee' hx').2.2.1 b hb2).1
      · rw [(hn.old e' hee').2.2] at hb2
        exact hR.apart e e' (hOnσ e (hon e h1 hee)) (hOnσ e' (hon e' h2 hee')) hne b hb1 hb2
  · rw [hn.β] at hm
    by_cases hee : τ.ev e = none
    · obtain ⟨x, hx, _⟩ := he
      exact hβfp k hk ((hn.new e x hee hx).2.2.1 _ hm).1
    · rw [(hn.old e hee).2.2] at hm
      exact hR.ebx e k (hOnσ e (hon e he hee)) (hbne k hk) hm
theorem sem_callG {o : Oper} {σ τ : St} {x : Operand} {asx : Array Operand} {ts : Array TypeId} {f : FuncId} {cvs : List V} {d : Nat} {ds : List (Bool × D)} {res : List D} {ps : List (Nat × Nat × Nat)} (ho : o.op = .call ⟨.value x, asx, ts⟩) (hd : o.dst = some d)
    (h : GC P f ds res) (hc : calleeOf (σ.get P 0 x) = some (f, cvs)) (hK : Kept σ τ) (hv : gvA σ (fun u => ∀ s ∈ u, τ.ev s.1 = none) [] ps (σ.gets P asx ts ++ cvs) ds) (hf : freeE d 0 (resCells res) τ.ev) : StepSem P o σ (τ.callF d res) := by
  intro n0 N g a w hR hn hdN
  obtain ⟨vs, h1, h2⟩ := call_run hR ho hc h.1
  unfold Oper.wp
  rw [h1]
  obtain ⟨B, hB⟩ := hR.fam
  obtain ⟨s, k1, k2, k3, k4⟩ := gvA_sound hR hB hv h2
  rw [List.append_nil] at k1 k4
  have hsp : s.Pairwise okP := by
    have := (List.pairwise_reverse.1 (k4 List.Pairwise.nil))
    exact this.imp fun h => h.symm
  have hnd := bks_nodup hR hB k3 hsp
  have hfp : ∀ b ∈ bks B s, ∃ e, σ.On e ∧ τ.ev e = none ∧ b ∈ g.φ e := fun b hb => by
    obtain ⟨x, hx, hm⟩ := List.mem_flatMap.1 hb
    exact ⟨x.1, k3 x hx, k1 x (List.mem_reverse.2 hx), hB.sub x.1 x.2 b (k3 x hx) hm⟩
  obtain ⟨tp, k2⟩ := k2 (bks B s) fun b hb => by obtain ⟨e, h1, _, h3⟩ := hfp b hb; exact ⟨e, h1, h3⟩
  refine (h.2 w vs (bks B s) tp k2 hnd).mono ?_
  rintro e w' ⟨us, fp', tp', rfl, o1, o2, o3, hbk⟩
  have o1' := OwnDs.of_g o1
  obtain ⟨g', q1, q2, q3⟩ := New.cells (σ := τ) (g := g) (NB := fun b => b ∈ bks B s ∨ w.heap.size ≤ b) (w' := w') d (resCells res) _ fp' 0 τ.ev g [] (New.refl _ _ _ _ hR.slc) (fun e h1 h2 => absurd h1 h2) hf o1'.cells o2 (fun b hb' => ⟨o3 b hb', by simp⟩)
  have hR' := hR.given hn hK hfp hbk q1
  have hBk : Bk n0 w w' := ⟨hbk.os, hbk.tape, hbk.output, hbk.size, fun k hk => hbk.block k ⟨hn k hk, fun hm => by
    obtain ⟨e, h1, _, h3⟩ := hfp k hm
    exact hR.etop e h1 k h3 hk⟩⟩
  refine ⟨g', ?_, hBk, q1.A0, q1.R0⟩
  have hp := hR'.put (some d) (x := tupV (resD d 0 res)) (v := resVal us) (tupV_vr (resD_vr d 0 o1' (q3 _ _ rfl)) (resD_tup d res 0)) (fun i hi => by cases hi; exact hdN d hd)
  rw [hd]
  exact hp
/- What is kept, by lists. -/
def noKey {α : Type} : List (Nat × α) → Nat → Prop
  | [], _ => True
  | p :: l, i => (i = p.1) = False ∧ noKey l i
def noKeys {α β : Type} (l : List (Nat × β)) : List (Nat × α) → Prop
  | [] => True
  | p :: la => noKey l p.1 ∧ noKeys l la
def okL (τ : St) : List (Nat × V) → Prop
  | [] => True
  | p :: l => p.2.okU τ ∧ okL τ l
def okB (τ : St) : List (Nat × List C) → Prop
  | [] => True
  | p :: l => okUs τ p.2 ∧ okB τ l
def okE : List (Nat × Ev) → Prop
  | [] => True
  | p :: l => p.2.on = true ∧ p.2.deep = true ∧ okE l
def srOut (el : List (Nat × Ev)) : List Sr → Prop
  | [] => True
  | s :: u => noKey el s.1 ∧ srOut el u
theorem noKey_tbl {α : Type} : ∀ {l : List (Nat × α)} {i : Nat}, noKey l i → tbl l i = none
  | [], _, _ => rfl
  | (j, v) :: l, i, h => by unfold tbl; rw [if_neg (fun e => of_eq_false h.1 e), noKey_tbl h.2]
theorem srOut_all {el : List (Nat × Ev)} : ∀ {u : List Sr}, srOut el u → ∀ s ∈ u, tbl el s.1 = none
  | [], _, s, hs => by simp at hs
  | x :: u, h, s, hs => by
    rcases List.mem_cons.1 hs with rfl | hs
    · exact noKey_tbl h.1
    · exact srOut_all h.2 s hs
theorem noKey_upds : ∀ {l : List (Nat × V)} {i : Nat}, noKey l i → upds l i = .one .any
  | [], _, _ => rfl
  | (j, v) :: l, i, h => by unfold upds; rw [if_neg (fun e => of_eq_false h.1 e), noKey_upds h.2]
theorem upds_app {l : List (Nat × V)} : ∀ {la : List (Nat × V)}, noKeys l la → ∀ i, upds l i = .one .any ∨ upds l i = upds (la ++ l) i
  | [], _, i => Or.inr rfl
  | (j, v) :: la, h, i => by
    by_cases hij : i = j
    · subst hij; exact Or.inl (noKey_upds h.1)
    · rw [List.cons_append]
      show _ ∨ upds l i = if i = j then v else upds (la ++ l) i
      rw [if_neg hij]
      exact upds_app h.2 i
theorem tbl_app {α : Type} {l : List (Nat × α)} : ∀ {la : List (Nat × α)}, noKeys l la → ∀ i x, tbl l i = some x → tbl (la ++ l) i = some x
  | [], _, i, x, hx => hx
  | (j, v) :: la, h, i, x, hx => by
    by_cases hij : i = j
    · subst hij; rw [noKey_tbl h.1] at hx; cases hx
    · rw [List.cons_append]
      show (if i = j then some v else tbl (la ++ l) i) = some x
      rw [if_neg hij]
      exact tbl_app h.2 i x hx
theorem okL_all {τ : St} : ∀ {l : List (Nat × V)}, okL τ l → ∀ i, (upds l i).okU τ
  | [], _, _ => trivial
  | (j, v) :: l, h, i => by
    unfold upds
    split
    · exact h.1
    · exact okL_all h.2 i
theorem okB_all {τ : St} : ∀ {l : List (Nat × List C)}, okB τ l → ∀ b cs, tbl l b = some cs → okUs τ cs
  | [], _, _, _, h => by cases h
  | (j, v) :: l, h, b, cs, hb => by
    unfold tbl at hb
    split at hb
    · cases hb; exact h.1
    · exact okB_all h.2 b cs hb
theorem okE_all : ∀ {l : List (Nat × Ev)}, okE l → ∀ e x, tbl l e = some x → x.on = true ∧ x.deep = true
  | [], _, _, _, h => by cases h
  | (j, v) :: l, h, e, x, hb => by
    unfold tbl at hb
    split at hb
    · cases hb; exact ⟨h.1, h.2.1⟩
    · exact okE_all h.2.2 e x hb
section
variable {ks : List Fr} {Q : Exit → St → Prop} {σ : St} {ops : Array Oper} {os : List Oper} {ty : TypeId} {ps : String} {af : Array Edge} {d : Nat} {x : Operand} {asx : Array Operand} {ts : Array TypeId} {f : FuncId} {ds : List (Bool × D)} {res : List D}
/-- A call that is given slices: la, ba, ea go; l, bl, el stay; pl says where known values stand. -/
theorem callG (la l : List (Nat × V)) (ba bl : List (Nat × List C)) (ea el : List (Nat × Ev)) (pl : List (Nat × Nat × Nat)) (h : GC P f ds res)
    (hw : wkL σ (hd (la ++ l) (ba ++ bl) (ea ++ el)) (la ++ l) ∧ wkB σ (hd (la ++ l) (ba ++ bl) (ea ++ el)) (ba ++ bl) ∧ wkE σ (ea ++ el))
    (hk : noKeys l la ∧ noKeys bl ba ∧ noKeys el ea ∧ okL (hd l bl el) l ∧ okB (hd l bl el) bl ∧ okE el)
    (hp : onSome (calleeOf ((hd (la ++ l) (ba ++ bl) (ea ++ el)).get P 0 x)) fun p => p.1 = f ∧ gvA (hd (la ++ l) (ba ++ bl) (ea ++ el)) (srOut el) [] pl ((hd (la ++ l) (ba ++ bl) (ea ++ el)).gets P asx ts ++ p.2) ds) (hf : freeE d 0 (resCells res) (hd l bl el).ev)
    (k : exo P ops os ks Q ((hd l bl el).callF d res)) : exo P ops (⟨some d, .call ⟨.value x, asx, ts⟩, ty, ps, af, none⟩ :: os) ks Q σ := by
  obtain ⟨⟨f', cvs⟩, h1, rfl, h2⟩ := onSome_ex hp
  obtain ⟨k1, k2, k3, k4, k5, k6⟩ := hk
  refine exo_sem rfl rfl (StepSem.pre (weak_hd hw) (sem_callG (P := P) (o := ⟨some d, .call ⟨.value x, asx, ts⟩, ty, ps, af, none⟩) rfl rfl h h1 (τ := hd l bl el) ⟨fun i => ?_, fun b cs hb => ⟨tbl_app k2 b cs hb, okB_all k5 b cs hb⟩, fun e x he => ⟨tbl_app k3 e x he, okE_all k6 e x he⟩⟩ (gvA_mono (fun u hu => srOut_all hu) h2) hf)) k
  rcases upds_app k1 i with h | h
  · exact Or.inl h
  · exact Or.inr ⟨h, okL_all k4 i⟩
end
attribute [go_sem] gvT owU unpinRs unpinC noKey noKeys okL okB okE srOut C.okU okUs okUt V.okU gvA gvK okS okQ rdV rdC rdCs
end Go.Proofs.Ytfppgpojemdijaa
/-
  The walk over plain data: literal slices and appends in drawn regions, computed; calls whose results' values are known.
  Conditions: none.
-/
namespace Go.Proofs.Ytfppgpojemdijaa
set_option linter.unusedSimpArgs false
set_option linter.unusedVariables false
set_option linter.unusedSectionVars false
set_option maxRecDepth 4000
open Go.RowKit
variable {P : Program}
def litRs : Option (Nat × List (List C)) → List (List C)
  | some p => p.2
  | none => []
def blK (d : Nat) : Option (Ev × List (Nat × Ev)) → List (Nat × Ev)
  | some (x, cons) => (d * 32, x) :: offL cons
  | none => []
def apKs : Option (Prop × Nat × Ev × List (Nat × Ev)) → List Ky
  | some (_, e, _, cons) => (2, e) :: cons.map (fun p => (2, p.1))
  | none => []
section
variable {ks : List Fr} {Q : Exit → St → Prop} {σ : St} {ops : Array Oper} {os : List Oper} {L : List (List Ky × List Ky)} {d : Nat} {t : TypeId} {ty : TypeId} {ps : String} {af : Array Edge} {len : Nat} {parts : Array (Nat × Operand)} {s y : Operand}
theorem dBuildDc (h : onSome (blD P σ t len parts) fun r => σ.ev (d * 32) = none ∧ (r.2.map (·.1)).Nodup)
    (k : exd P ops os (L ++ [(keysOf (parts.toList.map (·.2)) ++ (rK (litRs (litC P (σ.get P) t len parts)) ++ [(2, d * 32)]), dK (some d) ++ eK (blK d (blD P σ t len parts)))]) ks Q ((σ.bl d (blD P σ t len parts)).put (some d) (.one (.ow (d * 32) 0)))) :
    exd P ops (⟨some d, .buildSlice t len parts, ty, ps, af, none⟩ :: os) L ks Q σ := by
  obtain ⟨⟨x, cons⟩, h1, h2, h3⟩ := onSome_ex h
  rw [h1] at k
  unfold blD at h1
  obtain ⟨p, e1, h1⟩ := Option.bind_eq_some_iff.1 h1
  obtain ⟨q, e2, h1⟩ := Option.map_eq_some_iff.1 h1
  simp only [Prod.mk.injEq] at h1
  obtain ⟨rfl, rfl⟩ := h1
  rw [e1] at k
  exact dBuildD ⟨e1, e2, h2, h3⟩ k
theorem dApD (dp2 : Bool) (h : onSome (apV P σ d t s y dp2) fun r => r.1) (k : exd P ops os (L ++ [(keysOf [s, y] ++ apKs (apV P σ d t s y dp2), dK (some d) ++ apKs (apV P σ d t s y dp2))]) ks Q (σ.apV d (apV P σ d t s y dp2))) :
    exd P ops (⟨some d, .call ⟨.builtin .append, #[s, y], #[t, t]⟩, ty, ps, af, none⟩ :: os) L ks Q σ := by
  obtain ⟨⟨p, e, x, cons⟩, h1, h2⟩ := onSome_ex h
  rw [h1] at k
  unfold Go.Proofs.Ytfppgpojemdijaa.apV at h1
  split at h1
  · rename_i e0 gn e2 gn2 hs hy
    obtain ⟨x0, k1, h3⟩ := Option.bind_eq_some_iff.1 h1
    obtain ⟨z, k2, h4⟩ := Option.bind_eq_some_iff.1 h3
    clear h1 h3
    by_cases hc : x0.gen = gn ∧ x0.on = true ∧ z.gen = gn2 ∧ z.on = true ∧ z.sz = x0.sz ∧ e2 ≠ e0
    · rw [if_pos hc] at h4
      obtain ⟨rfl, c2, rfl, c4, c5, c6⟩ := hc
      simp only [Option.some.injEq, Prod.mk.injEq] at h4
      obtain ⟨rfl, rfl, rfl, rfl⟩ := h4
      obtain ⟨dp, sz, rows, gn, on⟩ := x0
      obtain ⟨dp2, sz2, rows2, gn2, on2⟩ := z
      simp only at c2 c4 c5
      subst c2 c4 c5
      exact dApOO ⟨hs, rd_ow hy, k1, k2, c6, rfl⟩ h2.1 h2.2 k
    · rw [if_neg hc] at h4; cases h4
  · rename_i e0 gn sz rows2 hs hy
    obtain ⟨x0, k1, h4⟩ := Option.bind_eq_some_iff.1 h1
    clear h1
    by_cases hc : x0.gen = gn ∧ x0.on = true ∧ sz = x0.sz
    · rw [if_pos hc] at h4
      obtain ⟨rfl, c2, rfl⟩ := hc
      simp only [Option.some.injEq, Prod.mk.injEq] at h4
      obtain ⟨rfl, rfl, rfl, rfl⟩ := h4
      obtain ⟨dp, sz, rows, gn, on⟩ := x0
      simp only at c2
      subst c2
      exact dApOT dp2 ⟨hs, hy, k1⟩ (fun hd => flR_mem (h2.2.2 hd)) h2.1 h2.2.1 k
    · rw [if_neg hc] at h4; cases h4
  · rename_i z0 e2 gn2 hs hy
    obtain ⟨z, k2, h4⟩ := Option.bind_eq_some_iff.1 h1
    clear h1
    by_cases hc : z.gen = gn2 ∧ z.on = true ∧ e2 ≠ d * 32
    · rw [if_pos hc] at h4
      obtain ⟨rfl, c2, c3⟩ := hc
      simp only [Option.some.injEq, Prod.mk.injEq] at h4
      obtain ⟨rfl, rfl, rfl, rfl⟩ := h4
      obtain ⟨dp2, sz2, rows2, gn2, on2⟩ := z
      simp only at c2
      subst c2
      exact dApNO ⟨hs, rd_ow hy, h2.2.2, k2, c3⟩ h2.1 h2.2.1 k
    · rw [if_neg hc] at h4; cases h4
  · rename_i z0 sz rows2 hs hy
    simp only [Option.some.injEq, Prod.mk.injEq] at h1
    obtain ⟨rfl, rfl, rfl, rfl⟩ := h1
    exact dApNT dp2 ⟨hs, hy, h2.2.2.2⟩ (fun hd => flR_mem (h2.2.2.1 hd)) h2.1 h2.2.1 k
  · cases h1
end
/-- The owned slice e, its elements' slices known. -/
def St.pinE (σ : St) (e : Nat) (vs : Nat → Nat → Value) : St := ⟨σ.sl, σ.bx, upd σ.ev e ((σ.ev e).map fun x => ⟨x.deep, x.sz, pinRs vs 0 x.rows, x.gen, x.on⟩)⟩
theorem StepSemX.pinned {o : Oper} {σ σ' : St} {K : St → Prop} {e sz gn : Nat} {rows : List (List T)} (h : StepSem P o σ σ') (he : σ'.ev e = some ⟨true, sz, rows, gn, true⟩) (k : ∀ vs, K (σ'.pinE e vs)) : StepSemX P o σ K := fun n0 N g a w hR hn hd => by
  refine oper_mono (fun a' w' hh => ?_) (h n0 N g a w hR hn hd)
  obtain ⟨g', h1, h2, h3, h4⟩ := hh
  obtain ⟨vs, hv⟩ := (own_event h1 he).pins
  have hr := h1.reown (hn.mono h2.size) he hv
  refine ⟨σ'.pinE e vs, g', k vs, ?_, h2, h3, h4⟩
  have e0 : σ'.pinE e vs = σ'.inp [(e, pinRs vs 0 rows)] := by
    unfold St.pinE St.inp inpE inpE
    rw [he]; rfl
  rw [e0]; exact hr
section
variable {ks : List Fr} {Q : Exit → St → Prop} {σ : St} {ops : Array Oper} {os : List Oper} {ty : TypeId} {ps : String} {af : Array Edge}
/-- A call that returns fresh data; the values in the elements of its j-th cell's slice are known. -/
theorem callFP (j : Nat) {d : Nat} {x : Operand} {asx : Array Operand} {ts : Array TypeId} {f : FuncId} {ds res : List D} (h : FC P f ds res) (hp : onSome (calleeOf (σ.get P 0 x)) fun p => p.1 = f ∧ VDs σ (σ.gets P asx ts ++ p.2) ds ∧ freeE d 0 (resCells res) σ.ev)
    (he : onSome ((σ.callF d res).ev (d * 32 + j)) fun y => y.deep = true ∧ y.on = true) (k : ∀ vs, exo P ops os ks Q ((σ.callF d res).pinE (d * 32 + j) vs)) : exo P ops (⟨some d, .call ⟨.value x, asx, ts⟩, ty, ps, af, none⟩ :: os) ks Q σ := by
  obtain ⟨⟨f', cvs⟩, h1, rfl, h2, h3⟩ := onSome_ex hp
  obtain ⟨⟨dp, sz, rows, gn, on⟩, he, e1, e2⟩ := onSome_ex he
  simp only at e1 e2
  subst e1 e2
  exact exo_semX rfl rfl (StepSemX.pinned (sem_callF rfl rfl h h1 h2 h3) he k)
end
attribute [go_sem] litRs blK apKs St.pinE
end Go.Proofs.Ytfppgpojemdijaa
/-
  The walk over plain data: drawn regions that end in a chain.
  Conditions: none.
-/
namespace Go.Proofs.Ytfppgpojemdijaa
set_option linter.unusedSimpArgs false
set_option linter.unusedVariables false
set_option linter.unusedSectionVars false
set_option maxRecDepth 4000
open Go.RowKit
variable {P : Program}
/-- One operation, with its guard. -/
theorem exG_wpOp {ops : Array Oper} {K : St → Prop} {n0 : Nat → Prop} {N : Nat} {Q : Exit → Act → World → Prop} {K' : Act → World → Prop} {i : Nat} (hlt : i < ops.size) {σ : St} {g : Gh} {a : Act} {w : World} (h : exG P ops ops[i] σ K) (hr : Rel n0 N σ g a w) (hn : LtK n0 w) (hdi : ∀ d, ops[i].dst = some d → d < N)
    (next : ∀ σ' a' w', (∃ g', Rel n0 N σ' g' a' w' ∧ Bk n0 w w' ∧ g'.A0 = g.A0 ∧ g'.R0 = g.R0) → K σ' → K' a' w') : wpOp P ops Q i K' a w := by
  have ho : ops[i]? = some ops[i] := by simp [hlt]
  have run : ∀ σ0, σ0 = σ → execOp1 P ops[i] σ0 K → ops[i].wp P a w K' Q := fun σ0 e0 h1 => by
    subst e0
    exact oper_mono (fun a' w' ⟨σ', g', h0, hh⟩ => next σ' a' w' ⟨g', hh⟩ h0) (execOp1_sound h1 n0 N g a w hr hn hdi)
  unfold wpOp
  simp only [ho]
  unfold exG at h
  split at h
  · rename_i hg
    have : Region.wanted ops[i] (yielded ops a.tmps) = true := by simp [Region.wanted, hg]
    rw [if_pos this]
    exact Or.inl (run σ rfl h)
  · rename_i j want hg
    split at h
    · rename_i d hdj
      split at h
      · rename_i c hc
        have hv := hr.slots d
        rw [hc] at hv
        simp only [VR, CR, RepV] at hv
        have hy : yielded ops a.tmps j = some c := by
          unfold yielded
          rw [hdj]
          simp only [Option.bind_some]
          cases ht : a.tmps[d]? with
          | none => rw [Array.getD_eq_getD_getElem?, ht] at hv; exact absurd hv (g.R0.nb _ _)
          | some u => rw [Array.getD_eq_getD_getElem?, ht] at hv; simp only [Option.getD_some] at hv; subst hv; rfl
        have hw : Region.wanted ops[i] (yielded ops a.tmps) = (c == want) := by
          unfold Region.wanted
          rw [hg]
          simp only [hy]
          cases c <;> cases want <;> rfl
        rw [hw]
        by_cases hcw : c = want
        · subst hcw
          simp only [beq_self_eq_true, if_true]
          exact Or.inl (run _ (put_self hc) (h.1 rfl))
        · have hne : (c == want) = false := by simpa using hcw
          rw [hne]
          simp only [Bool.false_eq_true, if_false]
          have hnot : c = !want := by cases c <;> cases want <;> simp_all
          have hh := h.2 hnot
          rw [← hnot, put_self hc] at hh
          exact next _ _ _ ⟨g, hr.put _ (x := .tup []) ⟨[], rfl, rfl⟩ hdi, Bk.refl _ _, rfl, rfl⟩ hh
      · rename_i xs hc
        have hv := hr.slots d
        rw [hc] at hv
        obtain ⟨vs, hv, _⟩ := hv
        have hy : yielded ops a.tmps j = none := by
          unfold yielded
          rw [hdj]
          simp only [Option.bind_some]
          cases ht : a.tmps[d]? with
          | none => rfl
          | some u => rw [Array.getD_eq_getD_getElem?, ht] at hv; simp only [Option.getD_some] at hv; subst hv; rfl
        have hw : Region.wanted ops[i] (yielded ops a.tmps) = false := by
          unfold Region.wanted
          rw [hg]
          simp only [hy]
          rfl
        rw [hw]
        simp only [Bool.false_eq_true, if_false]
        exact next _ _ _ ⟨g, hr.put _ (x := .tup []) ⟨[], rfl, rfl⟩ hdi, Bk.refl _ _, rfl, rfl⟩ h
      · exact h.elim
    · exact h.elim


/-- The checks of an order whose operations from m on come one behind the other. -/
def ordOkT (ops : Array Oper) (L : List (List Ky × List Ky)) (m : Nat) : Bool :=
  let b := Region.before ops
  decide (m ≤ ops.size) && (List.range ops.size).all fun j =>
    ((ops.getD j default).after.all fun e => !Region.binds .any e || decide (e.on < j)) &&
    ((List.range ops.size).all fun i => !(b.getD j 0).testBit i || (ops.getD j default).after.any fun e => Region.binds .any e && (e.on == i || (b.getD e.on 0).testBit i)) &&
    ((List.range j).all fun i => (b.getD j 0).testBit i || (decide (j < m) && ((L.getD i ([], [])).2.all fun k => !(L.getD j ([], [])).1.contains k && !(L.getD j ([], [])).2.contains k) && (L.getD i ([], [])).1.all fun k => !(L.getD j ([], [])).2.contains k))
theorem drawn_allT {ops : Array Oper} {σs : Nat → St} {L : List (List Ky × List Ky)} {n0 : Nat → Prop} {N : Nat} {w0 : World} {A0 : (Nat → Prop) × RP} {Q : Exit → Act → World → Prop} {K : St → Prop} {m : Nat}
    (hL : ∀ i (h : i < ops.size), i < m → Loc P ops ops[i] (L.getD i ([], [])).1 (L.getD i ([], [])).2 (σs i) (σs (i + 1))) (hord : ordOkT ops L m = true) (hdst : ∀ o ∈ ops, ∀ d, o.dst = some d → d < N)
    (hT : execOps P ops (ops.toList.drop m) (σs m) K) (hQ : ∀ σ g a w, K σ → Rel n0 N σ g a w → LtK n0 w → Bk n0 w0 w → (g.A0, g.R0) = A0 → Q .normal a w) :
    ∀ (fuel : Nat) (listed : Array Bool) (g : Gh) (a : Act) (w : World), listed.size = ops.size → cnt (fun i => listed.getD i false) ops.size = fuel →
      (∀ j (h : j < ops.size), listed.getD j false = true → ∀ e ∈ ops[j].after, Region.binds .any e = true → listed.getD e.on false = true) → (∀ j, m ≤ j → listed.getD j false = false) →
      Rel n0 N (Fp σs (fun i => L.getD i ([], [])) (fun i => listed.getD i false) m) g a w → LtK n0 w → Bk n0 w0 w → (g.A0, g.R0) = A0 → wpAny P .any ops Q fuel listed a w := by
  have hget : ∀ j (h : j < ops.size), ops.getD j default = ops[j] := fun j h => by simp [Array.getD, h]
  unfold ordOkT at hord
  rw [Bool.and_eq_true] at hord
  obtain ⟨hm, hord⟩ := hord
  have hm : m ≤ ops.size := by simpa using hm
  have hok : ∀ i, i < m → okK (L.getD i ([], [])).2 = true := fun i h => (hL i (by omega) h).1
  have hRk : ∀ i, i < m → okK (L.getD i ([], [])).1 = true := fun i h => (hL i (by omega) h).2.1
  have hoff : ∀ i, i < m → ∀ k : Ky, k.1 < 3 → k ∉ (L.getD i ([], [])).2 → sameK (σs i) (σs (i + 1)) k := fun i h => (hL i (by omega) h).2.2.1
  simp only [List.all_eq_true, List.mem_range, Bool.and_eq_true] at hord
  have hlt : ∀ j (h : j < ops.size), ∀ e ∈ ops[j].after, Region.binds .any e = true → e.on < j := fun j h e he hb => by
    have := (hord j h).1.1
    rw [hget j h] at this
    have := (Array.all_eq_true_iff_forall_mem.1 this) e he
    simpa [hb] using this
  have hbef : ∀ j (h : j < ops.size), ∀ i, i < ops.size → ((Region.before ops).getD j 0).testBit i = true → ∃ e ∈ ops[j].after, Region.binds .any e = true ∧ (e.on = i ∨ ((Region.before ops).getD e.on 0).testBit i = true) := fun j h i hi hb => by
    have := (hord j h).1.2 i hi
    rw [hb, hget j h] at this
    simp only [Bool.not_true, Bool.false_or] at this
    obtain ⟨e, he, h1⟩ := Array.any_eq_true'.1 this
    simp only [Bool.and_eq_true, Bool.or_eq_true, beq_iff_eq] at h1
    exact ⟨e, he, h1.1, h1.2⟩
  have hdis : ∀ i j, i < j → j < m → ((Region.before ops).getD j 0).testBit i = false → (∀ k ∈ (L.getD i ([], [])).2, k ∉ (L.getD j ([], [])).1 ∧ k ∉ (L.getD j ([], [])).2) ∧ ∀ k ∈ (L.getD i ([], [])).1, k ∉ (L.getD j ([], [])).2 := fun i j hij hj hb => by
    have := (hord j (by omega)).2 i hij
    rw [hb] at this
    simp only [Bool.false_or, Bool.and_eq_true, List.all_eq_true, Bool.not_eq_true', List.contains_eq_mem, decide_eq_false_iff_not] at this
    exact ⟨fun k hk => this.1.2 k hk, fun k hk => this.2 k hk⟩
  have hchain : ∀ i j, i < j → j < ops.size → m ≤ j → ((Region.before ops).getD j 0).testBit i = true := fun i j hij hj hmj => by
    have := (hord j hj).2 i hij
    cases hb : ((Region.before ops).getD j 0).testBit i with
    | true => rfl
    | false =>
      rw [hb] at this
      simp only [Bool.false_or, Bool.and_eq_true, decide_eq_true_eq] at this
      omega
  -- closed under what lies before
  have hclosed : ∀ listed : Array Bool, (∀ j (h : j < ops.size), listed.getD j false = true → ∀ e ∈ ops[j].after, Region.binds .any e = true → listed.getD e.on false = true) → ∀ j (h : j < ops.size), listed.getD j false = true → ∀ i, i < ops.size → ((Region.before ops).getD j 0).testBit i = true → listed.getD i false = true := by
    intro listed hcl j
    induction j using Nat.strongRecOn with
    | _ j ihj =>
      intro h hl i hi hbi
      obtain ⟨e, he, h1, h2⟩ := hbef j h i hi hbi
      have hle := hcl j h hl e he h1
      have hlt' := hlt j h e he h1
      rcases h2 with rfl | h2
      · exact hle
      · exact ihj e.on hlt' (by omega) hle i hi h2
  have hready : ∀ (listed : Array Bool), listed.size = ops.size → ∀ i, i ∈ Region.ready .any ops listed → ∃ hi : i < ops.size, listed.getD i false = false ∧ ∀ e ∈ ops[i].after, Region.binds .any e = true → listed.getD e.on false = true := fun listed hsz i hi => by
    unfold Region.ready at hi
    rw [List.mem_filter] at hi
    obtain ⟨hi1, hi2⟩ := hi
    have hi' := List.mem_range.1 hi1
    rw [Array.getElem?_eq_getElem hi'] at hi2
    simp only [Option.map_some, Option.getD_some, Bool.and_eq_true, Bool.not_eq_true'] at hi2
    obtain ⟨hl0, hafter⟩ := hi2
    refine ⟨hi', ?_, fun e he hbd => ?_⟩
    · simp only [Array.getD_eq_getD_getElem?] at hl0 ⊢
      rw [Array.getElem?_eq_getElem (by omega)] at hl0 ⊢
      exact hl0
    · have := (Array.all_eq_true_iff_forall_mem.1 hafter) e he
      simpa [hbd] using this
  have hsome : ∀ (listed : Array Bool), listed.size = ops.size → Region.ready .any ops listed = [] → cnt (fun i => listed.getD i false) ops.size = 0 := fun listed hsz hr => by
    have : ∀ j, j < ops.size → listed.getD j false = true := by
      intro j
      induction j using Nat.strongRecOn with
      | _ j ihj =>
        intro hj
        cases hl : listed.getD j false with
        | true => rfl
        | false =>
          exfalso
          have hmem : j ∈ Region.ready .any ops listed := by
            unfold Region.ready
            rw [List.mem_filter]
            refine ⟨List.mem_range.2 hj, ?_⟩
            have hl' : listed.getD j true = false := by
              simp only [Array.getD_eq_getD_getElem?] at hl ⊢
              rw [Array.getElem?_eq_getElem (by omega)] at hl ⊢
              exact hl
            rw [hl', Array.getElem?_eq_getElem hj]
            simp only [Bool.not_false, Bool.true_and, Option.map_some, Option.getD_some]
            rw [Array.all_eq_true_iff_forall_mem]
            intro e he
            cases hbd : Region.binds .any e with
            | false => rfl
            | true => simpa using ihj e.on (hlt j hj e he hbd) (by have := hlt j hj e he hbd; omega)
          rw [hr] at hmem
          exact absurd hmem (by simp)
    have : ∀ k, k ≤ ops.size → cnt (fun i => listed.getD i false) k = 0 := by
      intro k
      induction k with
      | zero => intro _; rfl
      | succ k ihk => intro hk; unfold cnt; rw [if_pos (this k (by omega)), ihk (by omega)]
    exact this _ (Nat.le_refl _)
  have hset : ∀ (listed : Array Bool) (i : Nat), i < listed.size → ∀ j, (listed.setIfInBounds i true).getD j false = if j = i then true else listed.getD j false := fun listed i hi j => by
    simp only [Array.getD_eq_getD_getElem?, Array.getElem?_setIfInBounds]
    by_cases hji : j = i
    · subst hji; rw [if_pos rfl, if_pos hi, if_pos rfl]; rfl
    · rw [if_neg (fun h => hji h.symm), if_neg hji]
  have hnone : ∀ (listed : Array Bool), listed.size = ops.size → (∀ j, j < ops.size → listed.getD j false = true) → Region.ready .any ops listed = [] := fun listed hsz hall => by
    unfold Region.ready
    rw [List.filter_eq_nil_iff]
    intro i hi
    have hi' := List.mem_range.1 hi
    have := hall i hi'
    simp only [Array.getD_eq_getD_getElem?] at this ⊢
    rw [Array.getElem?_eq_getElem (by omega)] at this ⊢
    simp only [Option.getD_some] at this ⊢
    simp [this]
  -- the chain
  have tail : ∀ (k j : Nat) (listed : Array Bool) (σ : St) (g : Gh) (a : Act) (w : World), j + k = ops.size → m ≤ j → listed.size = ops.size → (∀ i, i < ops.size → listed.getD i false = decide (i < j)) → execOps P ops (ops.toList.drop j) σ K → Rel n0 N σ g a w → LtK n0 w → Bk n0 w0 w → (g.A0, g.R0) = A0 → wpAny P .any ops Q k listed a w := by
    intro k
    induction k with
    | zero =>
      intro j listed σ g a w hjk hmj hsz hls h hrel hn hb hA
      have : ops.toList.drop j = [] := List.drop_of_length_le (by simp; omega)
      rw [this] at h
      exact ⟨hnone listed hsz fun i hi => by rw [hls i hi]; simp; omega, hQ σ g a w h hrel hn hb hA⟩
    | succ k ih =>
      intro j listed σ g a w hjk hmj hsz hls h hrel hn hb hA
      have hj : j < ops.size := by omega
      refine ⟨fun hr => ?_, fun i hi => ?_⟩
      · exfalso
        have hz : listed.getD j false = true := cnt_zero _ (hsome listed hsz hr) j hj
        rw [hls j hj] at hz
        simp at hz
      · obtain ⟨hi', hl, hdue⟩ := hready listed hsz i hi
        have hij : i = j := by
          rcases Nat.lt_trichotomy i j with h1 | h1 | h1
          · rw [hls i hi'] at hl; simp at hl; omega
          · exact h1
          · exfalso
            obtain ⟨e, he, k1, k2⟩ := hbef i hi' j hj (hchain j i h1 hi' (by omega))
            have hle := hdue e he k1
            have hel := hlt i hi' e he k1
            rw [hls e.on (by omega)] at hle
            have hle : e.on < j := by simpa using hle
            rcases k2 with k2 | k2
            · omega
            · have : ∀ x, x < ops.size → ∀ y, y < ops.size → ((Region.before ops).getD x 0).testBit y = true → y < x := by
                intro x
                induction x using Nat.strongRecOn with
                | _ x ihx =>
                  intro hx y hy hbxy
                  obtain ⟨e', he', q1, q2⟩ := hbef x hx y hy hbxy
                  have := hlt x hx e' he' q1
                  rcases q2 with rfl | q2
                  · exact this
                  · have := ihx e'.on this (by omega) y hy q2; omega
              have := this e.on (by omega) j hj k2
              omega
        subst hij
        have hcons : ops.toList.drop i = ops[i] :: ops.toList.drop (i + 1) := by
          rw [List.drop_eq_getElem_cons (by simpa using hi')]; rfl
        rw [hcons] at h
        refine exG_wpOp hi' (K := fun σ' => execOps P ops (ops.toList.drop (i + 1)) σ' K) h hrel hn (hdst _ (Array.getElem_mem hi')) fun σ' a' w' hh hK => ?_
        obtain ⟨g', k1, k2, k3, k4⟩ := hh
        refine ih (i + 1) _ σ' g' a' w' (by omega) (by omega) (by simpa using hsz) (fun x hx => ?_) hK k1 (hn.mono k2.size) (hb.trans k2) (by rw [k3, k4]; exact hA)
        rw [hset listed i (by omega), hls x hx]
        by_cases hxi : x = i
        · subst hxi; simp
        · rw [if_neg hxi]
          congr 1
          simp only [eq_iff_iff]
          omega
  intro fuel
  induction fuel with
  | zero =>
    intro listed g a w hsz hc hcl hno hrel hn hb hA
    have hall := cnt_zero _ hc
    have hme : m = ops.size := by
      rcases Nat.lt_or_ge m ops.size with h | h
      · have h1 := hall m h
        rw [hno m (Nat.le_refl _)] at h1; cases h1
      · omega
    refine ⟨hnone listed hsz hall, ?_⟩
    rw [Fp_text hok hoff m (Nat.le_refl _) fun j hj => hall j (by omega)] at hrel
    have hd : ops.toList.drop m = [] := List.drop_of_length_le (by simp; omega)
    rw [hd] at hT
    exact hQ _ g a w hT hrel hn hb hA
  | succ fuel ih =>
    intro listed g a w hsz hc hcl hno hrel hn hb hA
    have hbb := hclosed listed hcl
    refine ⟨fun hr => ?_, fun i hi => ?_⟩
    · exfalso
      have := hsome listed hsz hr
      omega
    · obtain ⟨hi', hl, hdue⟩ := hready listed hsz i hi
      have h1 : ∀ j, j < ops.size → ((Region.before ops).getD i 0).testBit j = true → listed.getD j false = true := fun j hj hbj => by
        obtain ⟨e, he, k1, k2⟩ := hbef i hi' j hj hbj
        have hle := hdue e he k1
        have hlt' := hlt i hi' e he k1
        rcases k2 with rfl | k2
        · exact hle
        · exact hbb e.on (by omega) hle j hj k2
      by_cases him : i < m
      · have h2 : ∀ j, j < m → listed.getD j false = true → ((Region.before ops).getD j 0).testBit i = true → listed.getD i false = true := fun j hj hlj hbj => hbb j (by omega) hlj i hi' hbj
        have hset' := hset listed i (by omega)
        obtain ⟨_, _, _, hstep⟩ := hL i hi' him
        have hG := hstep _ (fun k hk => Fp_read (σs := σs) (RW := fun i => L.getD i ([], [])) (b := fun j i => ((Region.before ops).getD j 0).testBit i) (p := fun i => listed.getD i false) hok hoff hRk hdis him hl (fun j hj hb => h1 j (by omega) hb) h2 hk)
        have hw := Fp_write (σs := σs) (RW := fun i => L.getD i ([], [])) (b := fun j i => ((Region.before ops).getD j 0).testBit i) (p := fun i => listed.getD i false) hok hdis him hl (fun j hj hb => h1 j (by omega) hb) h2 (p' := fun j => (listed.setIfInBounds i true).getD j false) hset'
        have hcnt := cnt_one (p := fun i => listed.getD i false) (q := fun j => (listed.setIfInBounds i true).getD j false) hl hset' ops.size hi'
        have hG' := hG n0 N g a w hrel hn (hdst _ (Array.getElem_mem hi'))
        rw [← hw] at hG'
        have next : ∀ a' w', (∃ g', Rel n0 N (Fp σs (fun i => L.getD i ([], [])) (fun j => (listed.setIfInBounds i true).getD j false) m) g' a' w' ∧ Bk n0 w w' ∧ g'.A0 = g.A0 ∧ g'.R0 = g.R0) → wpAny P .any ops Q fuel (listed.setIfInBounds i true) a' w' := by
          rintro a' w' ⟨g', k1, k2, k3, k4⟩
          refine ih _ g' a' w' (by simpa using hsz) (by omega) (fun j hj hlj e he hbd => ?_) (fun j hj => by rw [hset', if_neg (by omega)]; exact hno j hj) k1 (hn.mono k2.size) (hb.trans k2) (by rw [k3, k4]; exact hA)
          rw [hset'] at hlj ⊢
          by_cases heo : e.on = i
          · rw [if_pos heo]
          · rw [if_neg heo]
            by_cases hji : j = i
            · subst hji; exact hdue e he hbd
            · rw [if_neg hji] at hlj; exact hcl j hj hlj e he hbd
        unfold wpOp
        rw [Array.getElem?_eq_getElem hi']
        simp only
        split
        · rename_i hwd
          rw [if_pos hwd] at hG'
          exact Or.inl (oper_mono next hG')
        · rename_i hwd
          rw [if_neg hwd] at hG'
          obtain ⟨g', k1, k2, k3⟩ := hG'
          exact next _ _ ⟨g', k1, Bk.refl _ _, k2, k3⟩
      · -- the chain begins
        have hmi : i = m := by
          rcases Nat.lt_trichotomy i m with h3 | h3 | h3
          · omega
          · exact h3
          · exfalso
            have := h1 m (by omega) (hchain m i h3 hi' (by omega))
            rw [hno m (Nat.le_refl _)] at this; cases this
        subst hmi
        have hall : ∀ j, j < i → listed.getD j false = true := fun j hj => h1 j (by omega) (hchain j i hj hi' (Nat.le_refl _))
        rw [Fp_text hok hoff i (Nat.le_refl _) hall] at hrel
        have hls : ∀ x, x < ops.size → listed.getD x false = decide (x < i) := fun x hx => by
          by_cases hxi : x < i
          · rw [hall x hxi]; simp [hxi]
          · rw [hno x (by omega)]; simp [hxi]
        have hcnt : fuel + 1 = ops.size - i := by
          rw [← hc]
          have : ∀ n, n ≤ ops.size → cnt (fun i => listed.getD i false) n = n - i := by
            intro n
            induction n with
            | zero => intro _; simp [cnt]
            | succ n ihn =>
              intro hn'
              unfold cnt
              rw [ihn (by omega), hls n (by omega)]
              by_cases hni : n < i
              · rw [if_pos (by simpa using hni)]; omega
              · rw [if_neg (by simpa using hni)]; omega
          exact this _ (Nat.le_refl _)
        have := tail (fuel + 1) i listed (σs i) g a w (by omega) (Nat.le_refl _) hsz hls hT hrel hn hb hA
        exact this.2 i hi
/-- From m on, each operation comes behind all before it. -/
def chainOk (ops : Array Oper) (m : Nat) : Bool :=
  let b := Region.before ops
  decide (m ≤ ops.size) && (List.range ops.size).all fun j => decide (j < m) || (List.range j).all fun i => (b.getD j 0).testBit i
theorem ordOkT_of {ops : Array Oper} {L : List (List Ky × List Ky)} {m : Nat} (h1 : ordOk ops L = true) (h2 : chainOk ops m = true) : ordOkT ops L m = true := by
  unfold ordOk at h1
  unfold chainOk at h2
  unfold ordOkT
  simp only [List.all_eq_true, List.mem_range, Bool.and_eq_true, Bool.or_eq_true] at h1 h2 ⊢
  refine ⟨h2.1, fun j hj => ⟨⟨(h1 j hj).1.1, (h1 j hj).1.2⟩, fun i hi => ?_⟩⟩
  rcases (h1 j hj).2 i hi with h3 | h3
  · exact Or.inl h3
  · rcases h2.2 j hj with h4 | h4
    · exact Or.inr ⟨⟨h4, h3.1⟩, h3.2⟩
    · exact Or.inl (h4 i hi)
theorem drwOps_soundT {ops : Array Oper} {K : St → Prop} {m : Nat} (hm : m ≤ ops.size) : ∀ (os : List Oper) (i : Nat) (L : List (List Ky × List Ky)) (σs : Nat → St), os = (ops.toList.take m).drop i → i ≤ m → L.length = i →
    (∀ j (h : j < ops.size), j < i → Loc P ops ops[j] (L.getD j ([], [])).1 (L.getD j ([], [])).2 (σs j) (σs (j + 1))) → drwOps P ops os L (σs i) K →
    ∃ (L' : List (List Ky × List Ky)) (σs' : Nat → St), σs' 0 = σs 0 ∧ (∀ j (h : j < ops.size), j < m → Loc P ops ops[j] (L'.getD j ([], [])).1 (L'.getD j ([], [])).2 (σs' j) (σs' (j + 1))) ∧ ordOk ops L' = true ∧ K (σs' m)
  | [], i, L, σs, ho, hi, hl, hloc, h => by
    have hie : i = m := by
      have := congrArg List.length ho
      simp at this; omega
    subst hie
    exact ⟨L, σs, rfl, fun j hj hji => hloc j hj hji, h.1, h.2⟩
  | o :: os, i, L, σs, ho, hi, hl, hloc, h => by
    have hlm : i < m := by
      have := congrArg List.length ho
      simp at this; omega
    have hlt : i < ops.size := by omega
    have hcons : (ops.toList.take m).drop i = ops[i] :: (ops.toList.take m).drop (i + 1) := by
      rw [List.drop_eq_getElem_cons (by simp; omega)]
      simp
    rw [hcons] at ho
    obtain ⟨rfl, hos⟩ := List.cons.inj ho
    obtain ⟨R, W, σ', h1, h2⟩ := drwG_sound h
    have := drwOps_soundT hm os (i + 1) (L ++ [(R, W)]) (fun j => if j ≤ i then σs j else σ') hos (by omega) (by simp [hl]) (fun j hj hji => by
      by_cases hje : j = i
      · subst hje
        have hg : (L ++ [(R, W)]).getD j ([], []) = (R, W) := by simp [List.getD, ← hl]
        rw [hg, if_pos (Nat.le_refl _), if_neg (by omega)]
        exact h1
      · have hg : (L ++ [(R, W)]).getD j ([], []) = L.getD j ([], []) := by
          simp only [List.getD_eq_getElem?_getD]; rw [List.getElem?_append_left (by omega)]
        rw [hg, if_pos (by omega), if_pos (by omega)]
        exact hloc j hj (by omega)) (by rw [if_neg (by omega)]; exact h2)
    simpa using this
/-- What comes behind the first m operations of a drawn region: the rest, in the text's order. -/
def tailQ (P : Program) (ops : Array Oper) (m : Nat) (ks : List Fr) (Q : Exit → St → Prop) : Exit → St → Prop
  | .normal, σ => exo P ops (ops.toList.drop m) ks Q σ
  | _, _ => False
theorem tailQ_normal (ops : Array Oper) (m : Nat) (ks : List Fr) (Q : Exit → St → Prop) (σ : St) : tailQ P ops m ks Q .normal σ = exo P ops (ops.toList.drop m) ks Q σ := rfl
/-- A drawn region of which the operations from m on come one behind the other. -/
theorem drawnT (m : Nat) {id : Nat} {ops : Array Oper} {ks : List Fr} {Q : Exit → St → Prop} {σ : St} (hmx : P.follows .mixedOrders = true) (hch : chainOk ops m = true) (h : exd P ops (ops.toList.take m) [] [] (tailQ P ops m ks Q) σ) : ex P (.region id ops true) ks Q σ := by
  show DrawSem P id ops σ _
  intro n0 N g a w hR hn hd
  have hm : m ≤ ops.size := by unfold chainOk at hch; rw [Bool.and_eq_true] at hch; simpa using hch.1
  obtain ⟨L, σs, h0, hloc, hord, hK⟩ := drwOps_soundT hm (ops.toList.take m) 0 [] (fun _ => σ) rfl (Nat.zero_le _) rfl (fun j _ hj => by omega) h
  refine wp_region_any hmx ?_
  have hb : Below w.heap.size w { w with drawn := w.drawn + 1 } := ⟨rfl, rfl, rfl, Nat.le_refl _, fun _ _ => rfl⟩
  have hR' : Rel n0 N (σs 0) g a { w with drawn := w.drawn + 1 } := by
    rw [h0]
    exact hR.after hn hb (New.refl σ g (w.heap.size ≤ ·) _ hR.slc)
  have hF : Fp σs (fun i => L.getD i ([], [])) (fun i => (Array.replicate ops.size false).getD i false) m = σs 0 := by
    have hp : ∀ i, (Array.replicate ops.size false).getD i false = false := fun i => by
      simp only [Array.getD_eq_getD_getElem?, Array.getElem?_replicate]; split <;> rfl
    have : ∀ m, Fp σs (fun i => L.getD i ([], [])) (fun i => (Array.replicate ops.size false).getD i false) m = σs 0 := by
      intro m
      induction m with
      | zero => rfl
      | succ m ih => unfold Fp; rw [hp, if_neg (by simp)]; exact ih
    exact this _
  have hcnt : cnt (fun i => (Array.replicate ops.size false).getD i false) ops.size = ops.size := by
    have hp : ∀ i, (Array.replicate ops.size false).getD i false = false := fun i => by
      simp only [Array.getD_eq_getD_getElem?, Array.getElem?_replicate]; split <;> rfl
    have : ∀ m, cnt (fun i => (Array.replicate ops.size false).getD i false) m = m := by
      intro m
      induction m with
      | zero => rfl
      | succ m ih => unfold cnt; rw [hp, if_neg (by simp), ih]; omega
    exact this _
  refine drawn_allT (w0 := w) (A0 := (g.A0, g.R0)) (K := kont P ks Q .normal) hloc (ordOkT_of hord hch) hd hK (fun σ' g' a' w' kk k1 k2 k3 k4 => ⟨rfl, σ', g', kk, k1, k2, k3, (Prod.mk.inj k4).1, (Prod.mk.inj k4).2⟩) ops.size _ g a _ (by simp) hcnt (fun j h hl => ?_) (fun j _ => ?_) (by rw [hF]; exact hR') (hn.mono (Nat.le_refl _)) (Bk.of_below hb hn) rfl
  · simp only [Array.getD_eq_getD_getElem?, Array.getElem?_replicate] at hl
    split at hl <;> cases hl
  · simp only [Array.getD_eq_getD_getElem?, Array.getElem?_replicate]
    split <;> rfl
attribute [go_sem] tailQ_normal
end Go.Proofs.Ytfppgpojemdijaa
/-
  The walk over plain data: results of which the values are known; what a region knows from its start.
  Conditions: none.
-/
namespace Go.Proofs.Ytfppgpojemdijaa
set_option linter.unusedSimpArgs false
set_option linter.unusedVariables false
set_option linter.unusedSectionVars false
set_option maxRecDepth 4000
open Go.RowKit
variable {P : Program}
/-- What is returned is the call's own: whole owned slices, or cells of elements of owned slices, each once. -/
def PX (P : Program) (rs : List ResultVar) (res : List D) (σ : St) : Prop := ∃ pl, onSome (resList P σ rs) fun vs => gvA σ (fun _ => True) [] pl vs (res.map fun d => (true, d))
def PS (P : Program) (rs : List ResultVar) (res : List D) (e : Exit) (σ : St) : Prop := match e with
  | .normal => PF P rs res .normal σ ∨ PX P rs res σ
  | .ret => PF P rs res .ret σ ∨ PX P rs res σ
  | _ => False
theorem gds_of_gargs {w : World} {A : Nat → Prop} : ∀ {res : List D} {vs : List Value} {fp tp : List Nat}, GArgs w A (res.map fun d => (true, d)) vs fp tp → GDs w res vs fp tp
  | [], _, _, _, h => h
  | d :: ds, _, _, _, h => by
    obtain ⟨v, vs', f1, f2, t1, t2, rfl, rfl, rfl, h1, h2⟩ := h
    exact ⟨v, vs', f1, f2, t1, t2, rfl, rfl, rfl, h1, gds_of_gargs h2⟩
theorem px_own {n0 : Nat → Prop} {N : Nat} {σ : St} {g : Gh} {a : Act} {w : World} (hR : Rel n0 N σ g a w) {vs : List V} {res : List D} {pl : List (Nat × Nat × Nat)} (h : gvA σ (fun _ => True) [] pl vs (res.map fun d => (true, d))) {us : List Value} (hv : VRl σ g w vs us) :
    ∃ fp tp, GDs w res us fp tp ∧ fp.Nodup ∧ ∀ b ∈ fp, ∃ e, σ.On e ∧ b ∈ g.φ e := by
  obtain ⟨B, hB⟩ := hR.fam
  obtain ⟨s, k1, k2, k3, k4⟩ := gvA_sound hR hB h hv
  rw [List.append_nil] at k4
  have hsp : s.Pairwise okP := (List.pairwise_reverse.1 (k4 List.Pairwise.nil)).imp fun h => h.symm
  obtain ⟨tp, k2⟩ := k2 [] (by simp)
  refine ⟨_, tp, gds_of_gargs k2, bks_nodup hR hB k3 hsp, fun b hb => ?_⟩
  obtain ⟨x, hx, hm⟩ := List.mem_flatMap.1 hb
  exact ⟨x.1, k3 x hx, hB.sub x.1 x.2 b (k3 x hx) hm⟩
/-- What the walk begins with may be looked at anew. -/
theorem GC_ofW {f : FuncId} {fn : Func} {c : Code} {args : List (Bool × D)} {res : List D} (hc : Callable P f) (hf : P.funcs[f]? = some fn) (hb : fn.body = some c) (hd : dstOk fn.ntmps c = true) (hN : args.length ≤ fn.ntmps) (hs : smallG args)
    (h : ∀ (w : World) (vs : List Value) (fp tp : List Nat), GArgs w (fun b => b < w.heap.size ∧ b ∉ fp) args vs fp tp → ∀ (g : Gh) (a : Act), Rel (fun b => b < w.heap.size ∧ b ∉ fp) fn.ntmps (initG args) g a w → (a.tmps = (⟨vs⟩ : Array Value) ++ Array.replicate (fn.ntmps - vs.length) undef ∧ (g.A0, g.R0) = ((fun _ => True), RP.of fun b => b ∈ fp ∨ w.heap.size ≤ b)) →
      ∃ σ0, ex P c [] (PS P fn.results.toList res) σ0 ∧ Rel (fun b => b < w.heap.size ∧ b ∉ fp) fn.ntmps σ0 g a w) : GC P f args res := by
  refine ⟨hc, fun w vs fp tp hv hn => ?_⟩
  refine calls_of_wp hf hb ?_
  have hv' : GArgs w (fun b => b < w.heap.size ∧ True ∧ b ∉ fp) args vs fp tp := GArgs.keepA (fun b hb => ⟨hb.1, trivial, hb.2⟩) hv
  obtain ⟨g, hg, hR⟩ := Rel.start (A0 := fun _ => True) (R0 := RP.of fun b => b ∈ fp ∨ w.heap.size ≤ b) (N := fn.ntmps) hv' hn hs hN (fun _ _ => trivial) (fun b hb => ⟨trivial, Or.inl hb⟩) (fun b hb => ⟨trivial, by
    by_cases hlt : b < w.heap.size
    · exact Or.inl (Classical.byContradiction fun h => hb ⟨hlt, h⟩)
    · exact Or.inr (by omega)⟩)
  obtain ⟨σ0, hex, hR0⟩ := h w vs fp tp hv g _ hR ⟨rfl, hg⟩
  refine wp_mono (exec_sound (w0 := w) c σ0 _ hd hex g _ w hR0 (fun k hk => hk.1) (Bk.refl _ _) hg) fun e a' w' hq => ?_
  obtain ⟨σ', g', h1, h2, h3, h4, h5⟩ := hq
  have fin : ∀ {us : List Value} {v : Value}, (results fn a'.tmps).run P w' = .ok v w' → v = resVal us → (∃ fp' tp', GDs w' res us fp' tp' ∧ fp'.Nodup ∧ ∀ b ∈ fp', ∃ e, σ'.On e ∧ b ∈ g'.φ e) → ∃ v, (results fn a'.tmps).run P w' = .ok v w' ∧ ∃ us fp' tp', Ending.returned v = .returned (resVal us) ∧ GDs w' res us fp' tp' ∧ fp'.Nodup ∧ (∀ b ∈ fp', b ∈ fp ∨ w.heap.size ≤ b) ∧ Bk (fun k => k < w.heap.size ∧ k ∉ fp) w w' := fun {us v} r1 rv ⟨fp', tp', o1, o2, o3⟩ => by
    refine ⟨_, r1, us, fp', tp', by rw [rv], o1, o2, fun b hb => ?_, h4⟩
    obtain ⟨e, l, m⟩ := o3 b hb
    have := (h2.ebase e l b m).2
    rw [(Prod.mk.inj h5).2] at this
    exact this
  have key : (onSome (resList P σ' fn.results.toList) (fun vs => ownV σ' [] vs res) ∨ PX P fn.results.toList res σ') → ∃ v, (results fn a'.tmps).run P w' = .ok v w' ∧ ∃ us fp' tp', Ending.returned v = .returned (resVal us) ∧ GDs w' res us fp' tp' ∧ fp'.Nodup ∧ (∀ b ∈ fp', b ∈ fp ∨ w.heap.size ≤ b) ∧ Bk (fun k => k < w.heap.size ∧ k ∉ fp) w w' := fun hk => by
    rcases hk with hk | ⟨pl, hk⟩
    · obtain ⟨vs, hvs, hk⟩ := onSome_ex hk
      obtain ⟨us, r1, r2⟩ := results_run h2 fn hvs
      obtain ⟨used, fp', tp', o1, o2⟩ := ownV_sound h2 hk r2
      exact fin r1 rfl ⟨fp', tp', o1, o2.1, fun b hb => by obtain ⟨e, _, _, l, m⟩ := o2.2.1 b hb; exact ⟨e, l, m⟩⟩
    · obtain ⟨vs, hvs, hk⟩ := onSome_ex hk
      obtain ⟨us, r1, r2⟩ := results_run h2 fn hvs
      exact fin r1 rfl (px_own h2 hk r2)
  cases e with
  | normal => exact ⟨h2.defers, key h1⟩
  | ret => exact ⟨h2.defers, key h1⟩
  | exit _ => exact h1.elim
  | goto _ => exact h1.elim
  | panic _ => exact h1.elim
  | outgrown => exact h1.elim
theorem GC_ofS {f : FuncId} {fn : Func} {c : Code} {args : List (Bool × D)} {res : List D} (hc : Callable P f) (hf : P.funcs[f]? = some fn) (hb : fn.body = some c) (hd : dstOk fn.ntmps c = true) (hN : args.length ≤ fn.ntmps) (hs : smallG args)
    (h : ex P c [] (PS P fn.results.toList res) (initG args)) : GC P f args res :=
  GC_ofW hc hf hb hd hN hs fun w vs fp tp hv g a hR hg => ⟨_, h, hR⟩
theorem FC_ofS {f : FuncId} {fn : Func} {c : Code} {args res : List D} (hc : Callable P f) (hf : P.funcs[f]? = some fn) (hb : fn.body = some c) (hd : dstOk fn.ntmps c = true) (hN : (rd args).length ≤ fn.ntmps)
    (h : ex P c [] (PS P fn.results.toList res) (initG (rd args))) : FC P f args res := GC_ofS hc hf hb hd hN (smallG_rd args) h
/-- A drawn region that ends in a chain; the values in the elements of an owned slice are known from its start. -/
theorem drawnTP (e m : Nat) {id : Nat} {ops : Array Oper} {ks : List Fr} {Q : Exit → St → Prop} {σ : St} (hmx : P.follows .mixedOrders = true) (hch : chainOk ops m = true) (he : onSome (σ.ev e) fun y => y.deep = true ∧ y.on = true) (h : ∀ vs, exd P ops (ops.toList.take m) [] [] (tailQ P ops m ks Q) (σ.pinE e vs)) : ex P (.region id ops true) ks Q σ := by
  show DrawSem P id ops σ _
  intro n0 N g a w hR hn hd
  obtain ⟨⟨dp, sz, rows, gn, on⟩, he, e1, e2⟩ := onSome_ex he
  simp only at e1 e2
  subst e1 e2
  obtain ⟨vs, hv⟩ := (own_event hR he).pins
  have hr := hR.reown hn he hv
  have e0 : σ.pinE e vs = σ.inp [(e, pinRs vs 0 rows)] := by
    unfold St.pinE St.inp inpE inpE
    rw [he]; rfl
  rw [← e0] at hr
  exact (drawnT m hmx hch (h vs) : DrawSem P id ops _ _) n0 N g a w hr hn hd
section
variable {ks : List Fr} {Q : Exit → St → Prop} {σ : St} {ops : Array Oper} {os : List Oper} {ty : TypeId} {ps : String} {af : Array Edge}
/-- A call that returns fresh data; from there on the values in the elements of an owned slice are known. -/
theorem callFPe (e : Nat) {d : Nat} {x : Operand} {asx : Array Operand} {ts : Array TypeId} {f : FuncId} {ds res : List D} (h : FC P f ds res) (hp : onSome (calleeOf (σ.get P 0 x)) fun p => p.1 = f ∧ VDs σ (σ.gets P asx ts ++ p.2) ds ∧ freeE d 0 (resCells res) σ.ev)
    (he : onSome ((σ.callF d res).ev e) fun y => y.deep = true ∧ y.on = true) (k : ∀ vs, exo P ops os ks Q ((σ.callF d res).pinE e vs)) : exo P ops (⟨some d, .call ⟨.value x, asx, ts⟩, ty, ps, af, none⟩ :: os) ks Q σ := by
  obtain ⟨⟨f', cvs⟩, h1, rfl, h2, h3⟩ := onSome_ex hp
  obtain ⟨⟨dp, sz, rows, gn, on⟩, he, e1, e2⟩ := onSome_ex he
  simp only at e1 e2
  subst e1 e2
  exact exo_semX rfl rfl (StepSemX.pinned (sem_callF rfl rfl h h1 h2 h3) he k)
end
theorem or_true' (p : Prop) : (p ∨ True) = True := by simp
theorem true_or' (p : Prop) : (True ∨ p) = True := by simp
theorem getD_zero {α : Type} (x : α) (xs : List α) (d : α) : (x :: xs).getD 0 d = x := rfl
theorem getD_one {α : Type} (x y : α) (xs : List α) (d : α) : (x :: y :: xs).getD 1 d = y := rfl
attribute [go_sem] getD_zero getD_one
attribute [go_sem] Bool.false_and Bool.and_false Bool.and_self
attribute [go_sem] PS or_true' true_or'
section
variable (A B : List (List T)) (r : List T)
theorem getD_mid {k : Nat} (h : A.length = k) : (A ++ r :: B).getD k [] = r := by subst h; simp
theorem get_mid {k : Nat} (h : A.length = k) : (A ++ r :: B)[k]? = some r := by subst h; simp
theorem setRw_mid {k : Nat} (h : A.length = k) (o : Nat) (ts : List T) : setRw (A ++ r :: B) k o ts = A ++ setR r o ts :: B := by subst h; simp [setRw]
theorem setCell_mid {k : Nat} (h : A.length = k) (j : Nat) (t : T) : setCell (A ++ r :: B) k j t = A ++ r.set j t :: B := by subst h; simp [setCell]
end
theorem pinRs_cons (vs : Nat → Nat → Value) (i : Nat) (r : List T) (rs : List (List T)) : pinRs vs i (r :: rs) = pinR (vs i) 0 r :: pinRs vs (i + 1) rs := rfl
theorem pinR_cons (us : Nat → Value) (j : Nat) (c : T) (cs : List T) : pinR us j (c :: cs) = pinC (us j) c :: pinR us (j + 1) cs := rfl
theorem pinR_nil (us : Nat → Value) (j : Nat) : pinR us j [] = [] := rfl
theorem pinC_sl (v : Value) (sz : Nat) (rows : List (List T)) : pinC v (.sl sz rows) = .pin v (.sl sz rows) := rfl
theorem pinC_int (v : Value) (k : IntKind) (n : Int) : pinC v (.int k n) = .int k n := rfl
theorem pinC_bool (v : Value) (b : Bool) : pinC v (.bool b) = .bool b := rfl
theorem pinC_str (v : Value) (s : List UInt8) : pinC v (.str s) = .str s := rfl
theorem pinRs_nil (vs : Nat → Nat → Value) (i : Nat) : pinRs vs i [] = [] := rfl
theorem lt_add_some (n m : Nat) : (n < n + (m + 1)) = True := by simp
attribute [go_sem] PI lt_add_some pinRs_nil pinRs_cons pinR_cons pinR_nil pinC_sl pinC_int pinC_bool pinC_str pinRs_len List.length_append get_mid getD_mid setRw_mid setCell_mid
theorem nat_neg (n : Nat) : ((n : Int) < 0) = False := by simp
attribute [go_sem] nat_neg List.set_cons_succ List.set_cons_zero
end Go.Proofs.Ytfppgpojemdijaa
/-
  The walk over plain data: what was there before the call, kept through calls that write.
  Conditions: none.
-/
namespace Go.Proofs.Ytfppgpojemdijaa
set_option linter.unusedSimpArgs false
set_option linter.unusedVariables false
set_option linter.unusedSectionVars false
set_option maxRecDepth 4000
open Go.RowKit
variable {P : Program}
def D.toN : D → V
  | .one t => .one t.toN
  | .agg ts => .agg (ts.map T.toN)
def initNS : Nat → List D → Nat → V
  | _, [] => fun _ => .one .any
  | k, d :: ds => upd (initNS (k + 1) ds) k d.toN
/-- The state at a function's beginning: what was there stays as it is. -/
def initN (args : List D) : St := ⟨initNS 0 args, fun _ => none, fun _ => none⟩
theorem initNS_at : ∀ (ds : List D) (k i : Nat), initNS k ds (k + i) = match ds[i]? with | some d => d.toN | none => .one .any
  | [], k, i => by simp [initNS]
  | d :: ds, k, 0 => by simp [initNS, upd]
  | d :: ds, k, i + 1 => by
    unfold initNS
    rw [upd_ne _ _ (by omega), show k + (i + 1) = k + 1 + i by omega, initNS_at ds (k + 1) i]
    simp
theorem toN_cr {σ : St} {g : Gh} {w : World} {A : Nat → Prop} (hA : ∀ b, A b → Free σ g w b) {x : T} {v : Value} (h : RepV w A x v) : CR σ g w x.toN v := by
  cases x <;> first | exact RepV.keep (fun _ _ => rfl) (fun b hb => (hA b hb).1) _ v h | exact RepV.keep (fun _ _ => rfl) hA _ v h
theorem toN_crs {σ : St} {g : Gh} {w : World} {A : Nat → Prop} (hA : ∀ b, A b → Free σ g w b) : ∀ {ts : List T} {vs : List Value}, RepAll w A ts vs → CRs σ g w (ts.map T.toN) vs
  | [], vs, h => by unfold RepAll at h; exact h
  | t :: ts, vs, h => by
    unfold RepAll at h
    obtain ⟨v, vs', rfl, h1, h2⟩ := h
    exact ⟨v, vs', rfl, toN_cr hA h1, toN_crs hA h2⟩
theorem toN_vr {σ : St} {g : Gh} {w : World} {A : Nat → Prop} (hA : ∀ b, A b → Free σ g w b) {d : D} {v : Value} (h : RepD w A d v) : VR σ g w d.toN v := by
  cases d with
  | one t => exact toN_cr hA h
  | agg ts => obtain ⟨a, h0, h1⟩ := h; exact ⟨a, h0, toN_crs hA h1⟩
theorem RepDs.at {w : World} {A : Nat → Prop} : ∀ {ds : List D} {vs : List Value}, RepDs w A ds vs → ∀ (i : Nat) d, ds[i]? = some d → ∃ v, vs[i]? = some v ∧ RepD w A d v
  | [], _, _, i, d, h => by simp at h
  | d0 :: ds, vs, h, 0, d, hi => by
    obtain ⟨v, vs', rfl, h1, h2⟩ := h
    simp only [List.getElem?_cons_zero, Option.some.injEq] at hi
    subst hi; exact ⟨v, rfl, h1⟩
  | d0 :: ds, vs, h, i + 1, d, hi => by
    obtain ⟨v, vs', rfl, h1, h2⟩ := h
    simpa using RepDs.at h2 i d (by simpa using hi)
theorem repds_of_gargs {w : World} {A : Nat → Prop} : ∀ {ds : List D} {vs : List Value} {fp tp : List Nat}, GArgs w A (rd ds) vs fp tp → RepDs w A ds vs ∧ fp = [] ∧ tp = []
  | [], _, _, _, h => ⟨h.1, h.2.1, h.2.2⟩
  | d :: ds, _, _, _, h => by
    obtain ⟨v, vs', rfl, h1, h2⟩ := h
    obtain ⟨k1, k2, k3⟩ := repds_of_gargs h2
    exact ⟨⟨v, vs', rfl, h1, k1⟩, k2, k3⟩
theorem initN_rel {args : List D} {w : World} {vs : List Value} {N : Nat} {g : Gh} {a : Act} (hr : RepDs w (fun b => b < w.heap.size ∧ b ∉ ([] : List Nat)) args vs) (hR : Rel (fun b => b < w.heap.size ∧ b ∉ ([] : List Nat)) N (initG (rd args)) g a w)
    (hg : a.tmps = (⟨vs⟩ : Array Value) ++ Array.replicate (N - vs.length) undef ∧ (g.A0, g.R0) = ((fun _ => True), RP.of fun b => b ∈ ([] : List Nat) ∨ w.heap.size ≤ b)) : Rel (fun b => b < w.heap.size ∧ b ∉ ([] : List Nat)) N (initN args) g a w := by
  have hbx : ∀ (ds : List D) (k : Nat), initE k (rd ds) = fun _ => none := fun ds => by
    induction ds with
    | nil => intro k; rfl
    | cons d ds ih => intro k; exact ih (k + 1)
  have hG : ∀ b, (b < w.heap.size ∧ b ∉ ([] : List Nat)) → Free (initN args) g w b := fun b hb => by
    refine ⟨⟨fun k hk => absurd rfl hk, fun e x he _ => (by cases he), hb.1, by rw [(Prod.mk.inj hg.2).1]; trivial⟩, ?_⟩
    rintro e ⟨x, hx, _⟩
    cases hx
  refine hR.slots_of (σ' := initN args) rfl ?_ hR.defers hR.size fun i => ?_
  · show (fun _ => none) = initE 0 (rd args)
    rw [hbx]
  · have hm : Mv (initN args) (initN args) g g w w := Mv.of_eq g w rfl rfl
    show VR (initG (rd args)) g w (initNS 0 args i) _
    have hi := initNS_at args 0 i
    rw [Nat.zero_add] at hi
    rw [hi]
    cases hd : args[i]? with
    | none => trivial
    | some d =>
      obtain ⟨v, hv1, hv2⟩ := RepDs.at hr i d hd
      have hlt : i < vs.length := (List.getElem?_eq_some_iff.1 hv1).1
      have e : a.tmps.getD i (g.R0.ξ i) = v := by
        rw [hg.1]
        rw [Array.getD_eq_getD_getElem?, Array.getElem?_append_left (by simpa using hlt)]
        simp [hv1]
      rw [e]
      have hx := toN_vr hG hv2
      exact (Mv.of_eq (σ := initN args) (σ' := initG (rd args)) g w rfl (by show initE 0 (rd args) = fun _ => none; rw [hbx])).vr hx
theorem FC_ofN {f : FuncId} {fn : Func} {c : Code} {args res : List D} (hc : Callable P f) (hf : P.funcs[f]? = some fn) (hb : fn.body = some c) (hd : dstOk fn.ntmps c = true) (hN : (rd args).length ≤ fn.ntmps)
    (h : ex P c [] (PS P fn.results.toList res) (initN args)) : FC P f args res := by
  refine GC_ofW hc hf hb hd hN (smallG_rd args) fun w vs fp tp hv g a hR hg => ?_
  obtain ⟨hr, rfl, rfl⟩ := repds_of_gargs hv
  exact ⟨initN args, h, initN_rel hr hR hg⟩
attribute [go_sem] initN initNS D.toN T.toN
end Go.Proofs.Ytfppgpojemdijaa
