/-
  The walk over plain data: calls of functions that write into what they were given.
  Conditions: none.
-/
import Derived.Test.YtgfjbbbkploonaaSxAA
namespace Go.Proofs.Ytgfjbbbkploonaa
set_option linter.unusedSimpArgs false
set_option linter.unusedVariables false
open Go.RowKit
variable {P : Program}
theorem Rel.inp {n0 : Nat → Prop} {N : Nat} {σ : St} {g : Gh} {a : Act} {w w' : World} (hR : Rel n0 N σ g a w) (hn : LtK n0 w) {U : List (Nat × List (List T))} (hU : U.Pairwise (fun p q => p.1 ≠ q.1)) {fp fp' : List Nat}
    (hfp : ∀ p ∈ U, ∀ b ∈ g.φ p.1, b ∈ fp) (hfpU : ∀ b ∈ fp, ∃ p ∈ U, b ∈ g.φ p.1) (hbk : Bk (fun k => k < w.heap.size ∧ k ∉ fp) w w') (hfp' : ∀ b ∈ fp', b ∈ fp ∨ w.heap.size ≤ b)
    {φ' : Nat → List Nat} (j1 : ∀ e, (∀ p ∈ U, p.1 ≠ e) → φ' e = g.φ e)
    (j2 : ∀ p ∈ U, ∃ sz rows gn, σ.ev p.1 = some ⟨true, sz, rows, gn, true⟩ ∧ OwnV w' (.sl sz p.2) (g.ψ p.1 gn) (φ' p.1) ∧ (φ' p.1).Nodup ∧ ∀ b ∈ φ' p.1, b ∈ fp')
    (j3 : ∀ p ∈ U, ∀ q ∈ U, p.1 ≠ q.1 → ∀ b ∈ φ' p.1, b ∉ φ' q.1)
    (hv1 : ∀ i v, VR σ g w (σ.sl i) v → VR (σ.inp U) { g with φ := φ' } w' (σ.sl i) v)
    (hv2 : ∀ b cs vs, σ.bx b = some cs → CRs σ g w cs vs → CRs (σ.inp U) { g with φ := φ' } w' cs vs)
    (hv3 : ∀ e x, (∀ p ∈ U, p.1 ≠ e) → σ.ev e = some x → x.on = true → ∀ v fpx, EvR w (Fix σ g w) x v fpx → (∀ b ∈ fpx, w'.heap[b]? = w.heap[b]?) → EvR w' (Fix (σ.inp U) { g with φ := φ' } w') x v fpx)
    (hv4 : ∀ e x, σ.ev e = some x → x.on = false → ∀ v, RepV w (Fix σ g w) (.sl x.sz x.rows) v → RepV w' (Fix (σ.inp U) { g with φ := φ' } w') (.sl x.sz x.rows) v) :
    Rel n0 N (σ.inp U) { g with φ := φ' } a w' := by
  have hNd : (U.map (·.1)).Nodup := List.pairwise_map.2 hU
  have hin : ∀ p ∈ U, ∃ sz rows gn, σ.ev p.1 = some ⟨true, sz, rows, gn, true⟩ ∧ (σ.inp U).ev p.1 = some ⟨true, sz, p.2, gn, true⟩ ∧ OwnV w' (.sl sz p.2) (g.ψ p.1 gn) (φ' p.1) := fun p hp => by
    obtain ⟨sz, rows, gn, q1, q2, _⟩ := j2 p hp
    refine ⟨sz, rows, gn, q1, ?_, q2⟩
    show inpE U σ.ev p.1 = _
    rw [inpE_in hNd (show (p.1, p.2) ∈ U from hp), q1]; rfl
  have hout : ∀ e, (∀ p ∈ U, p.1 ≠ e) → (σ.inp U).ev e = σ.ev e := fun e h => inpE_out fun hm => by
    obtain ⟨p, hp, he⟩ := List.mem_map.1 hm
    exact h p hp he
  have hcase : ∀ e, (∃ p ∈ U, p.1 = e) ∨ ∀ p ∈ U, p.1 ≠ e := fun e => by
    by_cases h : ∃ p ∈ U, p.1 = e
    · exact Or.inl h
    · exact Or.inr fun p hp he => h ⟨p, hp, he⟩
  have hOU : ∀ p ∈ U, σ.On p.1 := fun p hp => by obtain ⟨sz, rows, gn, q1, _⟩ := hin p hp; exact ⟨_, q1, rfl⟩
  have hon : ∀ e, (∀ p ∈ U, p.1 ≠ e) → (σ.inp U).On e → σ.On e := fun e h ho => by
    obtain ⟨x, hx, ho⟩ := ho
    exact ⟨x, (hout e h).symm.trans hx, ho⟩
  have hold : ∀ b ∈ fp, b < w.heap.size := fun b hb => by
    obtain ⟨p, hp, hm⟩ := hfpU b hb
    obtain ⟨x, hx, ho⟩ := hOU p hp
    exact (hR.evs _ x hx ho).lt b hm
  have hbx : ∀ k, σ.bx k ≠ none → g.β k ∉ fp := fun k hk hm => by
    obtain ⟨p, hp, hm⟩ := hfpU _ hm
    exact hR.ebx p.1 k (hOU p hp) hk hm
  have happ : ∀ e, (∀ p ∈ U, p.1 ≠ e) → σ.On e → ∀ b ∈ g.φ e, b ∉ fp := fun e h ho b hb hm => by
    obtain ⟨p, hp, hm⟩ := hfpU b hm
    exact hR.apart e p.1 ho (hOU p hp) (Ne.symm (h p hp)) b hb hm
  have hlt : ∀ e, σ.On e → ∀ b ∈ g.φ e, b < w.heap.size := fun e ho b hb => by
    obtain ⟨x, hx, ho⟩ := ho
    exact (hR.evs e x hx ho).lt b hb
  have hb' : ∀ p ∈ U, ∀ b ∈ φ' p.1, b ∈ fp ∨ w.heap.size ≤ b := fun p hp b hb => by
    obtain ⟨_, _, _, _, _, _, q⟩ := j2 p hp
    exact hfp' b (q b hb)
  refine ⟨hR.defers, hR.size, hR.anew, fun i => hv1 i _ (hR.slots i), fun b cs hb => ?_, hR.base, hR.inj, fun e x he ho => ?_, fun e x he ho => ?_, hR.slc, fun e he b hb => ?_, fun e he b hb => ?_, fun e he => ?_, fun e e' h1 h2 hne b hb1 hb2 => ?_, fun e k he hk hm => ?_⟩
  · obtain ⟨vs, ty, k1, k2⟩ := hR.boxes b cs hb
    have hne : σ.bx b ≠ none := by rw [show σ.bx b = some cs from hb]; simp
    exact ⟨vs, ty, by rw [hbk.block _ ⟨hR.lt hne, hbx b hne⟩]; exact k1, hv2 b cs _ hb k2⟩
  · rcases hcase e with ⟨p, hp, rfl⟩ | h
    · obtain ⟨sz, rows, gn, q1, q2, q3⟩ := hin p hp
      rw [q2, Option.some.injEq] at he
      subst he
      unfold OwnV at q3
      obtain ⟨ao, cap, r1, r2, r3, r4⟩ := q3
      refine ⟨ao, cap, r1, r2, r3, ?_⟩
      rcases r4 with r4 | ⟨b, cells, ty, fps, r4, r5, r6, r7, r8⟩
      · exact Or.inl r4
      · exact Or.inr ⟨b, cells, ty, fps, r4, r5, r6, r7, by rw [if_pos rfl]; exact r8⟩
    · rw [hout e h] at he
      have hO : σ.On e := ⟨x, he, ho⟩
      show EvR w' _ x (g.ψ e x.gen) (φ' e)
      rw [j1 e h]
      exact hv3 e x h he ho _ _ (hR.evs e x he ho) fun b hb => hbk.block b ⟨hlt e hO b hb, happ e h hO b hb⟩
  · rcases hcase e with ⟨p, hp, rfl⟩ | h
    · obtain ⟨sz, rows, gn, q1, q2, q3⟩ := hin p hp
      rw [q2, Option.some.injEq] at he
      subst he
      cases ho
    · rw [hout e h] at he
      exact ⟨hv4 e x he ho _ (hR.offs e x he ho).1, (hR.offs e x he ho).2⟩
  · rcases hcase e with ⟨p, hp, rfl⟩ | h
    · rcases hb' p hp b hb with h1 | h1
      · obtain ⟨q, hq, hm⟩ := hfpU b h1
        exact hR.ebase q.1 (hOU q hq) b hm
      · exact hR.anew b (hn.new h1)
    · have hb : b ∈ g.φ e := j1 e h ▸ hb
      exact hR.ebase e (hon e h he) b hb
  · rcases hcase e with ⟨p, hp, rfl⟩ | h
    · rcases hb' p hp b hb with h1 | h1
      · obtain ⟨q, hq, hm⟩ := hfpU b h1
        exact hR.etop q.1 (hOU q hq) b hm
      · exact hn.new h1
    · have hb : b ∈ g.φ e := j1 e h ▸ hb
      exact hR.etop e (hon e h he) b hb
  · rcases hcase e with ⟨p, hp, rfl⟩ | h
    · obtain ⟨_, _, _, _, _, q, _⟩ := j2 p hp
      exact q
    · show (φ' e).Nodup
      rw [j1 e h]; exact hR.nodup e (hon e h he)
  · have hb1 : b ∈ φ' e := hb1
    have hb2 : b ∈ φ' e' := hb2
    rcases hcase e with ⟨p, hp, rfl⟩ | k1 <;> rcases hcase e' with ⟨q, hq, rfl⟩ | k2
    · exact j3 p hp q hq hne b hb1 hb2
    · rw [j1 e' k2] at hb2
      rcases hb' p hp b hb1 with h3 | h3
      · exact happ e' k2 (hon e' k2 h2) b hb2 h3
      · have := hlt e' (hon e' k2 h2) b hb2; omega
    · rw [j1 e k1] at hb1
      rcases hb' q hq b hb2 with h3 | h3
      · exact happ e k1 (hon e k1 h1) b hb1 h3
      · have := hlt e (hon e k1 h1) b hb1; omega
    · rw [j1 e k1] at hb1
      rw [j1 e' k2] at hb2
      exact hR.apart e e' (hon e k1 h1) (hon e' k2 h2) hne b hb1 hb2
  · have hm : g.β k ∈ φ' e := hm
    rcases hcase e with ⟨p, hp, rfl⟩ | h
    · rcases hb' p hp _ hm with h1 | h1
      · exact hbx k hk h1
      · have := hR.lt hk; omega
    · rw [j1 e h] at hm
      exact hR.ebx e k (hon e h he) hk hm

/-- Arguments that lean on no memory. -/
def T.nm : T → Bool
  | .fn _ [] => true
  | t => t.flat
def nmV : V → D → Prop
  | .one (.t x), .one y => x = y ∧ T.nm y = true
  | .one (.fn f []), .one (.fn g []) => f = g
  | _, _ => False
def nmVs : List V → List D → Prop
  | [], [] => True
  | v :: vs, d :: ds => nmV v d ∧ nmVs vs ds
  | _, _ => False
theorem flat_rep {w w' : World} {A A' : Nat → Prop} {x : T} {v : Value} (hf : x.flat = true) (h : RepV w A x v) : RepV w' A' x v := by
  cases x <;> simp only [T.flat, Bool.false_eq_true] at hf <;> unfold RepV at h ⊢ <;> exact h
theorem nmV_rep {σ : St} {g : Gh} {w : World} {x : V} {d : D} {v : Value} (h : nmV x d) (hv : VR σ g w x v) (A : Nat → Prop) : RepD w A d v := by
  unfold nmV at h
  split at h
  · obtain ⟨rfl, h⟩ := h
    unfold T.nm at h
    split at h
    · simp only [VR, CR] at hv
      unfold RepV at hv
      obtain ⟨vs, e, h2⟩ := hv
      unfold RepAll at h2
      subst h2
      show RepV _ _ _ _
      unfold RepV
      exact ⟨[], e, by unfold RepAll; rfl⟩
    · exact flat_rep h hv
  · subst h
    obtain ⟨e, _⟩ := hv
    show RepV _ _ _ _
    unfold RepV
    exact ⟨[], e, by unfold RepAll; rfl⟩
  · exact h.elim
theorem nmVs_rep {σ : St} {g : Gh} {w : World} (A : Nat → Prop) : ∀ {xs : List V} {ds : List D} {vs : List Value}, nmVs xs ds → VRl σ g w xs vs → RepDs w A ds vs
  | [], [], vs, _, h => h
  | x :: xs, d :: ds, vs, h, hv => by
    obtain ⟨v, vs', rfl, h1, h2⟩ := hv
    exact ⟨v, vs', rfl, nmV_rep h.1 h1 A, nmVs_rep A h.2 h2⟩
  | [], _ :: _, _, h, _ => h.elim
  | _ :: _, [], _, h, _ => h.elim
theorem VRl.split {σ : St} {g : Gh} {w : World} : ∀ {x1 x2 : List V} {vs : List Value}, VRl σ g w (x1 ++ x2) vs → ∃ u1 u2, vs = u1 ++ u2 ∧ VRl σ g w x1 u1 ∧ VRl σ g w x2 u2
  | [], _, vs, h => ⟨[], vs, rfl, rfl, h⟩
  | x :: xs, _, vs, h => by
    obtain ⟨v, vs', rfl, h1, h2⟩ := h
    obtain ⟨u1, u2, rfl, k1, k2⟩ := VRl.split h2
    exact ⟨v :: u1, u2, rfl, ⟨v, u1, rfl, h1, k1⟩, k2⟩
def inG (σ : St) : V → D → D → Prop
  | .one c, .one t, .one t' => inK σ [] [c] [t] [t']
  | .agg cs, .agg ts, .agg ts' => inK σ [] cs ts ts'
  | _, _, _ => False
def inUV : V → D → List (Nat × List (List T))
  | .one c, .one t' => inU [c] [t']
  | .agg cs, .agg ts' => inU cs ts'
  | _, _ => []
def D.fl : D → Bool
  | .one t => t.flat
  | .agg ts => ts.all T.flat
theorem flats_rep {w : World} {A : Nat → Prop} : ∀ {ts : List T} {vs : List Value} {fp tp : List Nat}, ts.all T.flat = true → GAll w ts vs fp tp → RepAll w A ts vs
  | [], vs, _, _, _, h => by unfold RepAll; exact h.1
  | t :: ts, vs, _, _, hf, h => by
    rw [List.all_cons, Bool.and_eq_true] at hf
    obtain ⟨v, vs', f1, f2, t2, rfl, _, _, h1, h2⟩ := h
    unfold RepAll
    exact ⟨v, vs', rfl, flat_rep hf.1 (OwnV.rep (A := fun _ => True) t v f1 h1 fun _ _ => trivial), flats_rep hf.2 h2⟩
theorem fls_rep {w : World} {A : Nat → Prop} : ∀ {ds : List D} {vs : List Value} {fp tp : List Nat}, ds.all D.fl = true → GDs w ds vs fp tp → RepDs w A ds vs
  | [], vs, _, _, _, h => h.1
  | .one t :: ds, vs, _, _, hf, h => by
    rw [List.all_cons, Bool.and_eq_true] at hf
    obtain ⟨v, vs', f1, f2, t1, t2, rfl, _, _, h1, h2⟩ := h
    exact ⟨v, vs', rfl, flat_rep hf.1 (OwnV.rep (A := fun _ => True) t v f1 h1.1 fun _ _ => trivial), fls_rep hf.2 h2⟩
  | .agg ts :: ds, vs, _, _, hf, h => by
    rw [List.all_cons, Bool.and_eq_true] at hf
    obtain ⟨v, vs', f1, f2, t1, t2, rfl, _, _, ⟨a, e, h1⟩, h2⟩ := h
    exact ⟨v, vs', rfl, ⟨a, e, flats_rep hf.1 h1⟩, fls_rep hf.2 h2⟩
/-- What is looked at stays as it is: either no memory is looked at but the call's own whole slices .. -/
def C.mOk : C → Bool
  | .t x => x.flat
  | .el _ _ => false
  | _ => true
def V.mOk : V → Bool
  | .one c => c.mOk
  | .agg cs => cs.all C.mOk
  | .tup xs => xs.all fun x => x.2.all C.mOk
def Deep (σ : St) : Prop := (∀ i, (σ.sl i).mOk = true) ∧ (∀ b cs, σ.bx b = some cs → cs.all C.mOk = true) ∧ ∀ e x, σ.ev e = some x → x.on = true ∧ x.deep = true
/-- .. or the slices that are turned hold flat cells alone. -/
def Shal (σ : St) (U : List (Nat × List (List T))) : Prop := ∀ p ∈ U, onSome (σ.ev p.1) fun x => flR x.rows = true
theorem OwnAt.flat {w : World} {cells : Array Value} : ∀ {r : List T} {o : Nat} {fps : List Nat}, r.all T.flat = true → OwnAt w cells o r fps → fps = []
  | [], _, _, _, h => by unfold OwnAt at h; exact h
  | t :: r, o, fps, hf, h => by
    rw [List.all_cons, Bool.and_eq_true] at hf
    unfold OwnAt at h
    obtain ⟨v, f1, f2, _, rfl, h1, h2⟩ := h
    rw [OwnAt.flat hf.2 h2, List.append_nil]
    have hf1 := hf.1
    cases t <;> simp only [T.flat, Bool.false_eq_true] at hf1 <;> unfold OwnV at h1
    · exact h1.2.2.2
    · exact h1.2
    · exact h1.2.2
theorem OwnRows.flat {w : World} {cells : Array Value} {sz : Nat} : ∀ {rows : List (List T)} {o : Nat} {fps : List Nat}, flR rows = true → OwnRows w cells o sz rows fps → fps = []
  | [], _, _, _, h => by unfold OwnRows at h; exact h
  | r :: rows, o, fps, hf, h => by
    unfold flR at hf
    rw [Bool.and_eq_true] at hf
    unfold OwnRows at h
    obtain ⟨_, f1, f2, rfl, h1, h2⟩ := h
    rw [OwnAt.flat hf.1 h1, OwnRows.flat hf.2 h2, List.append_nil]
section
variable {σ : St} {g g' : Gh} {w w' : World} {U : List (Nat × List (List T))}
theorem mOk_cr (hβ : g'.β = g.β) (hψ : g'.ψ = g.ψ) (hh : ∀ e n, σ.has e n → (σ.inp U).has e n) {c : C} {v : Value} (hc : c.mOk = true) (h : CR σ g w c v) : CR (σ.inp U) g' w' c v := by
  cases c with
  | t x => exact flat_rep hc h
  | nl s => exact h
  | ow e n => exact ⟨by rw [hψ]; exact h.1, hh e n h.2⟩
  | bx b o => exact ⟨by rw [hβ]; exact h.1, h.2⟩
  | el cs o => cases hc
  | eo e s sz i o => obtain ⟨b, n, c, k1, k2, k3, k4⟩ := h; exact ⟨b, n, c, by rw [hψ]; exact k1, k2, k3, hh e s k4⟩
  | fn f caps => exact ⟨by rw [hβ]; exact h.1, h.2⟩
  | cv u => exact h
  | any => trivial
theorem mOk_crs (hβ : g'.β = g.β) (hψ : g'.ψ = g.ψ) (hh : ∀ e n, σ.has e n → (σ.inp U).has e n) : ∀ {cs : List C} {vs : List Value}, cs.all C.mOk = true → CRs σ g w cs vs → CRs (σ.inp U) g' w' cs vs
  | [], _, _, h => h
  | c :: cs, vs, hc, h => by
    rw [List.all_cons, Bool.and_eq_true] at hc
    obtain ⟨v, vs', rfl, h1, h2⟩ := h
    exact ⟨v, vs', rfl, mOk_cr hβ hψ hh hc.1 h1, mOk_crs hβ hψ hh hc.2 h2⟩
theorem mOk_crt (hβ : g'.β = g.β) (hψ : g'.ψ = g.ψ) (hh : ∀ e n, σ.has e n → (σ.inp U).has e n) : ∀ {xs : List (Bool × List C)} {vs : List Value}, (xs.all fun x => x.2.all C.mOk) = true → CRt σ g w xs vs → CRt (σ.inp U) g' w' xs vs
  | [], _, _, h => h
  | x :: xs, vs, hc, h => by
    rw [List.all_cons, Bool.and_eq_true] at hc
    obtain ⟨v, vs', rfl, h1, h2⟩ := h
    refine ⟨v, vs', rfl, ?_, mOk_crt hβ hψ hh hc.2 h2⟩
    unfold CRx at h1 ⊢
    split at h1
    · rw [if_pos ‹_›]; obtain ⟨a, k1, k2⟩ := h1; exact ⟨a, k1, mOk_crs hβ hψ hh hc.1 k2⟩
    · rw [if_neg ‹_›]
      obtain ⟨c, k1, k2⟩ := h1
      refine ⟨c, k1, mOk_cr hβ hψ hh ?_ k2⟩
      have := hc.1
      rw [k1] at this
      simpa using this
theorem mOk_vr (hβ : g'.β = g.β) (hψ : g'.ψ = g.ψ) (hh : ∀ e n, σ.has e n → (σ.inp U).has e n) {x : V} {v : Value} (hc : x.mOk = true) (h : VR σ g w x v) : VR (σ.inp U) g' w' x v := by
  cases x with
  | one c => exact mOk_cr hβ hψ hh hc h
  | agg cs => obtain ⟨a, k1, k2⟩ := h; exact ⟨a, k1, mOk_crs hβ hψ hh hc k2⟩
  | tup xs => obtain ⟨a, k1, k2⟩ := h; exact ⟨a, k1, mOk_crt hβ hψ hh hc k2⟩
end
end Go.Proofs.Ytgfjbbbkploonaa
