/-
  The walk over plain data: operations that may run in any order that their edges leave open.
  Conditions: none.
-/
import Derived.Test.YtgfjbbbkploonaaSxP
namespace Go.Proofs.Ytgfjbbbkploonaa
set_option linter.unusedSimpArgs false
set_option linter.unusedVariables false
open Go.RowKit
variable {P : Program}

/-- A place of a state: a slot (0), a box (1), an owned slice (2). -/
abbrev Ky := Nat × Nat
def sameK (σ σ1 : St) (k : Ky) : Prop := match k.1 with
  | 0 => σ.sl k.2 = σ1.sl k.2
  | 1 => σ.bx k.2 = σ1.bx k.2
  | _ => σ.ev k.2 = σ1.ev k.2
theorem sameK.refl (σ : St) (k : Ky) : sameK σ σ k := by unfold sameK; split <;> rfl
theorem sameK.symm {σ σ1 : St} : ∀ {k : Ky}, sameK σ σ1 k → sameK σ1 σ k
  | (0, _), h => Eq.symm h
  | (1, _), h => Eq.symm h
  | (_ + 2, _), h => Eq.symm h
theorem sameK.trans {σ σ1 σ2 : St} : ∀ {k : Ky}, sameK σ σ1 k → sameK σ1 σ2 k → sameK σ σ2 k
  | (0, _), h, h' => Eq.trans h h'
  | (1, _), h, h' => Eq.trans h h'
  | (_ + 2, _), h, h' => Eq.trans h h'
theorem sameK.all {σ σ1 : St} (h : ∀ k, sameK σ σ1 k) : σ = σ1 := by
  obtain ⟨s, b, e⟩ := σ
  obtain ⟨s1, b1, e1⟩ := σ1
  simp only [St.mk.injEq]
  exact ⟨funext fun i => h (0, i), funext fun i => h (1, i), funext fun i => h (2, i)⟩
/-- One state, but for some places, where it is another. -/
def ptch (σ : St) (W : List Ky) (σ' : St) : St :=
  ⟨fun i => if (0, i) ∈ W then σ'.sl i else σ.sl i, fun b => if (1, b) ∈ W then σ'.bx b else σ.bx b, fun e => if (2, e) ∈ W then σ'.ev e else σ.ev e⟩
/- Places are named by 0, 1 and 2. -/
def okK (W : List Ky) : Bool := W.all fun k => k.1 < 3
theorem ptch_on {σ σ' : St} {W : List Ky} (hW : okK W = true) {k : Ky} (h : k ∈ W) : sameK (ptch σ W σ') σ' k := by
  obtain ⟨n, i⟩ := k
  have hn : n < 3 := by
    unfold okK at hW
    rw [List.all_eq_true] at hW
    simpa using hW _ h
  match n, hn with
  | 0, _ => show ite _ _ _ = _; rw [if_pos h]
  | 1, _ => show ite _ _ _ = _; rw [if_pos h]
  | 2, _ => show ite _ _ _ = _; rw [if_pos h]
theorem ptch_off {σ σ' : St} {W : List Ky} {n i : Nat} (hn : n < 3) (h : (n, i) ∉ W) : sameK (ptch σ W σ') σ (n, i) := by
  match n, hn with
  | 0, _ => show ite _ _ _ = _; rw [if_neg h]
  | 1, _ => show ite _ _ _ = _; rw [if_neg h]
  | 2, _ => show ite _ _ _ = _; rw [if_neg h]
theorem sameK.all3 {σ σ1 : St} (h : ∀ n i, n < 3 → sameK σ σ1 (n, i)) : σ = σ1 := by
  obtain ⟨s, b, e⟩ := σ
  obtain ⟨s1, b1, e1⟩ := σ1
  simp only [St.mk.injEq]
  exact ⟨funext fun i => h 0 i (by omega), funext fun i => h 1 i (by omega), funext fun i => h 2 i (by omega)⟩

/-- What an operation does, whatever a guard says. -/
def GStep (P : Program) (ops : Array Oper) (o : Oper) (σ σ' : St) : Prop :=
  ∀ n0 N g a w, Rel n0 N σ g a w → LtK n0 w → (∀ d, o.dst = some d → d < N) →
    if Region.wanted o (yielded ops a.tmps) = true then o.wp P a w (fun a' w' => ∃ g', Rel n0 N σ' g' a' w' ∧ Bk n0 w w' ∧ g'.A0 = g.A0 ∧ g'.R0 = g.R0) (fun _ _ _ => False)
    else ∃ g', Rel n0 N σ' g' (a.put o.dst undef) w ∧ g'.A0 = g.A0 ∧ g'.R0 = g.R0
/-- An operation looks at the places R, and turns the places W. -/
def Loc (P : Program) (ops : Array Oper) (o : Oper) (R W : List Ky) (σ σ' : St) : Prop :=
  okK W = true ∧ okK R = true ∧ (∀ k : Ky, k.1 < 3 → k ∉ W → sameK σ σ' k) ∧ ∀ σ1, (∀ k ∈ R, sameK σ σ1 k) → GStep P ops o σ1 (ptch σ1 W σ')
/-- Without a guard. -/
def LocS (P : Program) (o : Oper) (R W : List Ky) (σ σ' : St) : Prop :=
  okK W = true ∧ okK R = true ∧ (∀ k : Ky, k.1 < 3 → k ∉ W → sameK σ σ' k) ∧ ∀ σ1, (∀ k ∈ R, sameK σ σ1 k) → StepSem P o σ1 (ptch σ1 W σ')

section
variable (σs : Nat → St) (RW : Nat → List Ky × List Ky)
/-- The state when p has run. -/
def Fp (p : Nat → Bool) : Nat → St
  | 0 => σs 0
  | m + 1 => if p m = true then ptch (Fp p m) (RW m).2 (σs (m + 1)) else Fp p m
variable {σs RW} {n : Nat} (hok : ∀ i, i < n → okK (RW i).2 = true) (hoff : ∀ i, i < n → ∀ k : Ky, k.1 < 3 → k ∉ (RW i).2 → sameK (σs i) (σs (i + 1)) k)
include hok hoff
theorem Fp_text {p : Nat → Bool} : ∀ m, m ≤ n → (∀ j, j < m → p j = true) → Fp σs RW p m = σs m
  | 0, _, _ => rfl
  | m + 1, hm, h => by
    unfold Fp
    rw [if_pos (h m (by omega)), Fp_text m (by omega) fun j hj => h j (by omega)]
    refine sameK.all3 fun c i hc => ?_
    by_cases hk : (c, i) ∈ (RW m).2
    · exact ptch_on (hok m (by omega)) hk
    · exact (ptch_off hc hk).trans (hoff m (by omega) _ hc hk)
omit hoff in
theorem Fp_agree {p q : Nat → Bool} {c i : Nat} (hc : c < 3) : ∀ m, m ≤ n → (∀ j, j < m → (c, i) ∈ (RW j).2 → p j = q j) → sameK (Fp σs RW p m) (Fp σs RW q m) (c, i)
  | 0, _, _ => sameK.refl _ _
  | m + 1, hm, h => by
    have ih := Fp_agree (p := p) (q := q) hc m (by omega) fun j hj => h j (by omega)
    unfold Fp
    by_cases hk : (c, i) ∈ (RW m).2
    · rw [h m (by omega) hk]
      split
      · exact (ptch_on (hok m (by omega)) hk).trans (ptch_on (hok m (by omega)) hk).symm
      · exact ih
    · split
      · split
        · exact ((ptch_off hc hk).trans ih).trans (ptch_off hc hk).symm
        · exact (ptch_off hc hk).trans ih
      · split
        · exact ih.trans (ptch_off hc hk).symm
        · exact ih
omit hok hoff in
theorem Fp_stop {q : Nat → Bool} {i : Nat} (hq : ∀ j, i ≤ j → q j = false) : ∀ d, Fp σs RW q (i + d) = Fp σs RW q i
  | 0 => rfl
  | d + 1 => by
    rw [show i + (d + 1) = (i + d) + 1 by omega]
    show (if q (i + d) = true then _ else _) = _
    rw [hq (i + d) (by omega)]
    simp only [Bool.false_eq_true, if_false]
    exact Fp_stop hq d

variable (hR : ∀ i, i < n → okK (RW i).1 = true) {b : Nat → Nat → Bool} (hdis : ∀ i j, i < j → j < n → b j i = false → (∀ k ∈ (RW i).2, k ∉ (RW j).1 ∧ k ∉ (RW j).2) ∧ ∀ k ∈ (RW i).1, k ∉ (RW j).2)
  {p : Nat → Bool} {i : Nat} (hi : i < n) (hp : p i = false) (h1 : ∀ j, j < n → b i j = true → p j = true) (h2 : ∀ j, j < n → p j = true → b j i = true → p i = true)
include hR hdis hi hp h1 h2
/-- What an operation that is due looks at is as it is in the order of the text. -/
theorem Fp_read {k : Ky} (hk : k ∈ (RW i).1) : sameK (σs i) (Fp σs RW p n) k := by
  obtain ⟨c, x⟩ := k
  have hc : c < 3 := by
    have := hR i hi
    unfold okK at this
    rw [List.all_eq_true] at this
    simpa using this _ hk
  have e1 : Fp σs RW (fun j => decide (j < i)) i = σs i := Fp_text hok hoff i (by omega) fun j hj => by simpa using hj
  have e2 : Fp σs RW (fun j => decide (j < i)) n = Fp σs RW (fun j => decide (j < i)) i := by
    have := Fp_stop (σs := σs) (RW := RW) (q := fun j => decide (j < i)) (i := i) (fun j hj => by simp; omega) (n - i)
    rwa [show i + (n - i) = n by omega] at this
  rw [← e1, ← e2]
  refine Fp_agree hok hc n (Nat.le_refl _) fun j hj hw => ?_
  by_cases hji : j < i
  · have hb : b i j = true := by
      cases hbb : b i j with
      | true => rfl
      | false => exact absurd hk ((hdis j i hji hi hbb).1 _ hw).1
    rw [h1 j hj hb]; simpa using hji
  · have hfalse : p j = false := by
      by_cases hje : j = i
      · subst hje; exact hp
      · cases hpj : p j with
        | false => rfl
        | true =>
          have hb : b j i = true := by
            cases hbb : b j i with
            | true => rfl
            | false => exact absurd hw ((hdis i j (by omega) hj hbb).2 _ hk)
          rw [h2 j hj hpj hb] at hp; cases hp
    rw [hfalse]; simp; omega
omit hoff hR in
/-- What it leaves. -/
theorem Fp_write {p' : Nat → Bool} (hp' : ∀ j, p' j = if j = i then true else p j) : Fp σs RW p' n = ptch (Fp σs RW p n) (RW i).2 (σs (i + 1)) := by
  refine sameK.all3 fun c x hc => ?_
  by_cases hk : (c, x) ∈ (RW i).2
  · refine sameK.trans ?_ (ptch_on (hok i hi) hk).symm
    have key : ∀ d, i + 1 + d ≤ n → sameK (Fp σs RW p' (i + 1 + d)) (σs (i + 1)) (c, x) := by
      intro d
      induction d with
      | zero =>
        intro _
        show sameK (if p' i = true then _ else _) _ _
        rw [hp' i, if_pos rfl, if_pos rfl]
        exact ptch_on (hok i hi) hk
      | succ d ih =>
        intro hd
        rw [show i + 1 + (d + 1) = (i + 1 + d) + 1 by omega]
        show sameK (if p' (i + 1 + d) = true then _ else _) _ _
        split
        · rename_i hpp
          have hnk : (c, x) ∉ (RW (i + 1 + d)).2 := fun hw => by
            rw [hp', if_neg (by omega)] at hpp
            have hb : b (i + 1 + d) i = true := by
              cases hbb : b (i + 1 + d) i with
              | true => rfl
              | false => exact absurd hw ((hdis i (i + 1 + d) (by omega) (by omega) hbb).1 _ hk).2
            rw [h2 _ (by omega) hpp hb] at hp; cases hp
          exact (ptch_off hc hnk).trans (ih (by omega))
        · exact ih (by omega)
    have := key (n - (i + 1)) (by omega)
    rwa [show i + 1 + (n - (i + 1)) = n by omega] at this
  · refine sameK.trans (Fp_agree hok hc n (Nat.le_refl _) fun j hj hw => ?_) (ptch_off hc hk).symm
    have hji : j ≠ i := fun hje => hk (by subst hje; exact hw)
    rw [hp', if_neg hji]
end

/- How many have not run. -/
def cnt (p : Nat → Bool) : Nat → Nat
  | 0 => 0
  | m + 1 => (if p m = true then 0 else 1) + cnt p m
theorem cnt_zero {p : Nat → Bool} : ∀ n, cnt p n = 0 → ∀ j, j < n → p j = true
  | 0, _, j, hj => by omega
  | m + 1, h, j, hj => by
    unfold cnt at h
    by_cases hpm : p m = true
    · by_cases hjm : j = m
      · exact hjm ▸ hpm
      · exact cnt_zero m (by omega) j (by omega)
    · rw [if_neg hpm] at h; omega
theorem cnt_same {p q : Nat → Bool} : ∀ n, (∀ j, j < n → p j = q j) → cnt p n = cnt q n
  | 0, _ => rfl
  | m + 1, h => by unfold cnt; rw [h m (by omega), cnt_same m fun j hj => h j (by omega)]
theorem cnt_one {p q : Nat → Bool} {i : Nat} (hp : p i = false) (hq : ∀ j, q j = if j = i then true else p j) : ∀ n, i < n → cnt p n = cnt q n + 1
  | 0, h => by omega
  | m + 1, h => by
    unfold cnt
    by_cases him : i = m
    · subst him
      rw [hq i, if_pos rfl, hp, cnt_same (p := p) (q := q) i fun j hj => by rw [hq, if_neg (by omega)]]
      simp; omega
    · have hqm : q m = p m := by rw [hq, if_neg (fun h => him h.symm)]
      rw [hqm, cnt_one hp hq m (by omega)]
      omega

/-- The checks of an order. -/
def ordOk (ops : Array Oper) (L : List (List Ky × List Ky)) : Bool :=
  let b := Region.before ops
  (List.range ops.size).all fun j =>
    ((ops.getD j default).after.all fun e => !Region.binds .any e || decide (e.on < j)) &&
    ((List.range ops.size).all fun i => !(b.getD j 0).testBit i || (ops.getD j default).after.any fun e => Region.binds .any e && (e.on == i || (b.getD e.on 0).testBit i)) &&
    ((List.range j).all fun i => (b.getD j 0).testBit i || (((L.getD i ([], [])).2.all fun k => !(L.getD j ([], [])).1.contains k && !(L.getD j ([], [])).2.contains k) && (L.getD i ([], [])).1.all fun k => !(L.getD j ([], [])).2.contains k))

theorem drawn_all {ops : Array Oper} {σs : Nat → St} {L : List (List Ky × List Ky)} {n0 : Nat → Prop} {N : Nat} {w0 : World} {A0 : (Nat → Prop) × RP} {Q : Exit → Act → World → Prop}
    (hL : ∀ i (h : i < ops.size), Loc P ops ops[i] (L.getD i ([], [])).1 (L.getD i ([], [])).2 (σs i) (σs (i + 1))) (hord : ordOk ops L = true) (hdst : ∀ o ∈ ops, ∀ d, o.dst = some d → d < N)
    (hQ : ∀ g a w, Rel n0 N (σs ops.size) g a w → LtK n0 w → Bk n0 w0 w → (g.A0, g.R0) = A0 → Q .normal a w) :
    ∀ (fuel : Nat) (listed : Array Bool) (g : Gh) (a : Act) (w : World), listed.size = ops.size → cnt (fun i => listed.getD i false) ops.size = fuel →
      (∀ j (h : j < ops.size), listed.getD j false = true → ∀ e ∈ ops[j].after, Region.binds .any e = true → listed.getD e.on false = true) →
      Rel n0 N (Fp σs (fun i => L.getD i ([], [])) (fun i => listed.getD i false) ops.size) g a w → LtK n0 w → Bk n0 w0 w → (g.A0, g.R0) = A0 → wpAny P .any ops Q fuel listed a w := by
  have hok : ∀ i, i < ops.size → okK (L.getD i ([], [])).2 = true := fun i h => (hL i h).1
  have hRk : ∀ i, i < ops.size → okK (L.getD i ([], [])).1 = true := fun i h => (hL i h).2.1
  have hoff : ∀ i, i < ops.size → ∀ k : Ky, k.1 < 3 → k ∉ (L.getD i ([], [])).2 → sameK (σs i) (σs (i + 1)) k := fun i h => (hL i h).2.2.1
  have hget : ∀ j (h : j < ops.size), ops.getD j default = ops[j] := fun j h => by simp [Array.getD, h]
  unfold ordOk at hord
  simp only [List.all_eq_true, List.mem_range, Bool.and_eq_true] at hord
  have hlt : ∀ j (h : j < ops.size), ∀ e ∈ ops[j].after, Region.binds .any e = true → e.on < j := fun j h e he hb => by
    have := (hord j h).1.1
    rw [hget j h] at this
    have := (Array.all_eq_true_iff_forall_mem.1 this) e he
    simpa [hb] using this
  have hbef : ∀ j (h : j < ops.size), ∀ i, i < ops.size → ((Region.before ops).getD j 0).testBit i = true → ∃ e ∈ ops[j].after, Region.binds .any e = true ∧ (e.on = i ∨ ((Region.before ops).getD e.on 0).testBit i = true) := fun j h i hi hb => by
    have := (hord j h).1.2 i hi
    rw [hb, hget j h] at this
    simp only [Bool.not_true, Bool.false_or] at this
    obtain ⟨e, he, h1⟩ := Array.any_eq_true'.1 this
    simp only [Bool.and_eq_true, Bool.or_eq_true, beq_iff_eq] at h1
    exact ⟨e, he, h1.1, h1.2⟩
  have hdis : ∀ i j, i < j → j < ops.size → ((Region.before ops).getD j 0).testBit i = false → (∀ k ∈ (L.getD i ([], [])).2, k ∉ (L.getD j ([], [])).1 ∧ k ∉ (L.getD j ([], [])).2) ∧ ∀ k ∈ (L.getD i ([], [])).1, k ∉ (L.getD j ([], [])).2 := fun i j hij hj hb => by
    have := (hord j hj).2 i hij
    rw [hb] at this
    simp only [Bool.false_or, Bool.and_eq_true, List.all_eq_true, Bool.not_eq_true', List.contains_eq_mem, decide_eq_false_iff_not] at this
    exact ⟨fun k hk => this.1 k hk, fun k hk => this.2 k hk⟩
  intro fuel
  induction fuel with
  | zero =>
    intro listed g a w hsz hc hcl hrel hn hb hA
    have hall := cnt_zero _ hc
    refine ⟨?_, ?_⟩
    · unfold Region.ready
      rw [List.filter_eq_nil_iff]
      intro i hi
      have hi' := List.mem_range.1 hi
      have := hall i hi'
      simp only [Array.getD_eq_getD_getElem?] at this ⊢
      rw [Array.getElem?_eq_getElem (by omega)] at this ⊢
      simp only [Option.getD_some] at this ⊢
      simp [this]
    · refine hQ g a w ?_ hn hb hA
      rwa [Fp_text hok hoff ops.size (Nat.le_refl _) hall] at hrel
  | succ fuel ih =>
    intro listed g a w hsz hc hcl hrel hn hb hA
    have hbb : ∀ j (h : j < ops.size), listed.getD j false = true → ∀ i, i < ops.size → ((Region.before ops).getD j 0).testBit i = true → listed.getD i false = true := by
      intro j
      induction j using Nat.strongRecOn with
      | _ j ihj =>
        intro h hl i hi hbi
        obtain ⟨e, he, h1, h2⟩ := hbef j h i hi hbi
        have hle := hcl j h hl e he h1
        have hlt' := hlt j h e he h1
        rcases h2 with rfl | h2
        · exact hle
        · exact ihj e.on hlt' (by omega) hle i hi h2
    refine ⟨fun hr => ?_, fun i hi => ?_⟩
    · -- some operation is due
      exfalso
      have : ∀ j, j < ops.size → listed.getD j false = true := by
        intro j
        induction j using Nat.strongRecOn with
        | _ j ihj =>
          intro hj
          cases hl : listed.getD j false with
          | true => rfl
          | false =>
            exfalso
            have hmem : j ∈ Region.ready .any ops listed := by
              unfold Region.ready
              rw [List.mem_filter]
              refine ⟨List.mem_range.2 hj, ?_⟩
              have hl' : listed.getD j true = false := by
                simp only [Array.getD_eq_getD_getElem?] at hl ⊢
                rw [Array.getElem?_eq_getElem (by omega)] at hl ⊢
                exact hl
              rw [hl', Array.getElem?_eq_getElem hj]
              simp only [Bool.not_false, Bool.true_and, Option.map_some, Option.getD_some]
              rw [Array.all_eq_true_iff_forall_mem]
              intro e he
              cases hbd : Region.binds .any e with
              | false => rfl
              | true => simpa using ihj e.on (hlt j hj e he hbd) (by have := hlt j hj e he hbd; omega)
            rw [hr] at hmem
            exact absurd hmem (by simp)
      have hz : cnt (fun i => listed.getD i false) ops.size = 0 := by
        have : ∀ m, m ≤ ops.size → cnt (fun i => listed.getD i false) m = 0 := by
          intro m
          induction m with
          | zero => intro _; rfl
          | succ m ihm => intro hm; unfold cnt; rw [if_pos (this m (by omega)), ihm (by omega)]
        exact this _ (Nat.le_refl _)
      omega
    · unfold Region.ready at hi
      rw [List.mem_filter] at hi
      obtain ⟨hi1, hi2⟩ := hi
      have hi' := List.mem_range.1 hi1
      rw [Array.getElem?_eq_getElem hi'] at hi2
      simp only [Option.map_some, Option.getD_some, Bool.and_eq_true, Bool.not_eq_true'] at hi2
      obtain ⟨hl0, hafter⟩ := hi2
      have hl : listed.getD i false = false := by
        simp only [Array.getD_eq_getD_getElem?] at hl0 ⊢
        rw [Array.getElem?_eq_getElem (by omega)] at hl0 ⊢
        exact hl0
      have hdue : ∀ e ∈ ops[i].after, Region.binds .any e = true → listed.getD e.on false = true := fun e he hbd => by
        have := (Array.all_eq_true_iff_forall_mem.1 hafter) e he
        simpa [hbd] using this
      have h1 : ∀ j, j < ops.size → ((Region.before ops).getD i 0).testBit j = true → listed.getD j false = true := fun j hj hbj => by
        obtain ⟨e, he, k1, k2⟩ := hbef i hi' j hj hbj
        have hle := hdue e he k1
        have hlt' := hlt i hi' e he k1
        rcases k2 with rfl | k2
        · exact hle
        · exact hbb e.on (by omega) hle j hj k2
      have h2 : ∀ j, j < ops.size → listed.getD j false = true → ((Region.before ops).getD j 0).testBit i = true → listed.getD i false = true := fun j hj hlj hbj => hbb j hj hlj i hi' hbj
      have hset : ∀ j, (listed.setIfInBounds i true).getD j false = if j = i then true else listed.getD j false := fun j => by
        simp only [Array.getD_eq_getD_getElem?, Array.getElem?_setIfInBounds]
        by_cases hji : j = i
        · subst hji; rw [if_pos rfl, if_pos (by omega), if_pos rfl]; rfl
        · rw [if_neg (fun h => hji h.symm), if_neg hji]
      obtain ⟨_, _, _, hstep⟩ := hL i hi'
      have hG := hstep _ (fun k hk => Fp_read (σs := σs) (RW := fun i => L.getD i ([], [])) (b := fun j i => ((Region.before ops).getD j 0).testBit i) (p := fun i => listed.getD i false) hok hoff hRk hdis hi' hl h1 h2 hk)
      have hw := Fp_write (σs := σs) (RW := fun i => L.getD i ([], [])) (b := fun j i => ((Region.before ops).getD j 0).testBit i) (p := fun i => listed.getD i false) hok hdis hi' hl h1 h2 (p' := fun j => (listed.setIfInBounds i true).getD j false) hset
      have hcnt := cnt_one (p := fun i => listed.getD i false) (q := fun j => (listed.setIfInBounds i true).getD j false) hl hset ops.size hi'
      have hG' := hG n0 N g a w hrel hn (hdst _ (Array.getElem_mem hi'))
      rw [← hw] at hG'
      have next : ∀ a' w', (∃ g', Rel n0 N (Fp σs (fun i => L.getD i ([], [])) (fun j => (listed.setIfInBounds i true).getD j false) ops.size) g' a' w' ∧ Bk n0 w w' ∧ g'.A0 = g.A0 ∧ g'.R0 = g.R0) → wpAny P .any ops Q fuel (listed.setIfInBounds i true) a' w' := by
        rintro a' w' ⟨g', k1, k2, k3, k4⟩
        refine ih _ g' a' w' (by simpa using hsz) (by omega) (fun j hj hlj e he hbd => ?_) k1 (hn.mono k2.size) (hb.trans k2) (by rw [k3, k4]; exact hA)
        rw [hset] at hlj ⊢
        by_cases heo : e.on = i
        · rw [if_pos heo]
        · rw [if_neg heo]
          by_cases hji : j = i
          · subst hji; exact hdue e he hbd
          · rw [if_neg hji] at hlj; exact hcl j hj hlj e he hbd
      unfold wpOp
      rw [Array.getElem?_eq_getElem hi']
      simp only
      split
      · rename_i hwd
        rw [if_pos hwd] at hG'
        exact Or.inl (oper_mono next hG')
      · rename_i hwd
        rw [if_neg hwd] at hG'
        obtain ⟨g', k1, k2, k3⟩ := hG'
        exact next _ _ ⟨g', k1, Bk.refl _ _, k2, k3⟩
end Go.Proofs.Ytgfjbbbkploonaa
