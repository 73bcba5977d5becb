/-
  The walk over plain data, and contracts of functions of the program and of its laws.
  Conditions: those that each theorem names.
-/
import Derived.Test.YtmhbmpbgpjljeaaGreatQT4
import Derived.MapKept
import Derived.OrdersIn
import Derived.Laws.IdiomRangeMap
namespace Go.Proofs.YtmhbmpbgpjljeaaGreat
set_option linter.unusedSimpArgs false
set_option linter.unusedVariables false
set_option linter.unusedSectionVars false
set_option maxRecDepth 4000
open Go.RowKit
variable {P : Program}
inductive AF
 | d (b : Bool) (x : D)
 | p (j : Nat)
 | fn (g : FuncId) (js : List Nat)
def AF.ds : List AF -> List (Bool × D)
 | [] => []
 | .d b x :: l => (b, x) :: AF.ds l
 | .p _ :: l => AF.ds l
 | .fn _ _ :: l => AF.ds l
def zjz (b : Nat) : Value := .pointer (some ⟨b, 0, none⟩)
def AF.vals (bs : Nat -> Nat) : List AF -> List Value -> List Value
 | [], _ => []
 | .d _ _ :: l, v :: vs => v :: AF.vals bs l vs
 | .d _ _ :: _, [] => []
 | .p j :: l, vs => zjz (bs j) :: AF.vals bs l vs
 | .fn g js :: l, vs => .func (.func g) #[] ⟨js.map fun j => zjz (bs j)⟩ :: AF.vals bs l vs
def AF.okJ (n : Nat) : List AF -> Bool
 | [] => true
 | .d _ _ :: l => AF.okJ n l
 | .p j :: l => decide (j < n) && AF.okJ n l
 | .fn _ js :: l => js.all (fun j => decide (j < n)) && AF.okJ n l
abbrev Bxs := List (List (Bool × T))
def zeg (w : World) (bs : Nat -> Nat) : Nat -> List (List Value) -> Bxs -> Prop
 | _, [], [] => True
 | j, vs :: bvs, b :: bx => vs.length = b.length /\ (∃ ty, w.heap[bs j]? = some (.cells ⟨vs⟩ ty (0, 0))) /\ zeg w bs (j + 1) bvs bx
 | _, _, _ => False
theorem zeg.keep {w w' : World} {bs bs' : Nat -> Nat} : ∀ {j : Nat} {bvs : List (List Value)} {bx : Bxs}, (∀ i, i < bx.length -> w'.heap[bs' (j + i)]? = w.heap[bs (j + i)]?) -> zeg w bs j bvs bx -> zeg w' bs' j bvs bx
 | _, [], [], _, h => h
 | j, _ :: _, _ :: _, hk, h => ⟨h.1, by have := hk 0 (by simp); rw [Nat.add_zero] at this; rw [this]; exact h.2.1, zeg.keep (fun i hi => by have := hk (i + 1) (by simpa using hi); rw [show j + (i + 1) = j + 1 + i by omega] at this; exact this) h.2.2⟩
 | _, [], _ :: _, _, h => h.elim
 | _, _ :: _, [], _, h => h.elim
theorem zeg.lt {w : World} {bs : Nat -> Nat} : ∀ {j : Nat} {bvs : List (List Value)} {bx : Bxs}, zeg w bs j bvs bx -> ∀ i, i < bx.length -> bs (j + i) < w.heap.size
 | _, [], [], _, i, hi => by simp at hi
 | j, _ :: _, _ :: _, h, 0, hi => by obtain ⟨ty, h⟩ := h.2.1; exact (Array.getElem?_eq_some_iff.1 h).1
 | j, _ :: _, _ :: _, h, i + 1, hi => by rw [show j + (i + 1) = j + 1 + i by omega]; exact zeg.lt h.2.2 i (by simpa using hi)
 | _, [], _ :: _, h, _, _ => h.elim
 | _, _ :: _, [], h, _, _ => h.elim
def PC (P : Program) (f : FuncId) (bx : Bxs) (l : List AF) (bx' : Bxs) (res : List (Bool × D)) : Prop := za1 P f /\ bx'.length = bx.length /\ ∀ (w : World) (bs : Nat -> Nat) (bvs : List (List Value)) (dvs : List Value) (fp tp : List Nat) (A : Nat -> Prop),
 (∀ i j, i < bx.length -> j < bx.length -> bs i = bs j -> i = j) -> (∀ j, j < bx.length -> bs j ∉ fp) -> zeg w bs 0 bvs bx →
 zar w (fun k => (k < w.heap.size /\ k ∉ fp /\ ∀ j, j < bx.length -> k ≠ bs j) /\ A k) (AF.ds l ++ bxA bx.flatten) (dvs ++ bvs.flatten) fp tp -> fp.Nodup -> dvs.length = (AF.ds l).length →
 Calls P f ⟨AF.vals bs l dvs⟩ w fun e w' => ∃ us bvs' fp' tp', e = .returned (zbz us) /\ zeg w' bs 0 bvs' bx' /\ us.length = res.length ∧
  zar w' (fun k => (k < w'.heap.size /\ k ∉ fp' /\ ∀ j, j < bx.length -> k ≠ bs j) /\ (A k \/ w.heap.size <= k \/ k ∈ fp)) (res ++ bxA bx'.flatten) (us ++ bvs'.flatten) fp' tp' /\ fp'.Nodup /\ (∀ b ∈ fp', b ∈ fp \/ w.heap.size <= b) ∧
  Bk (fun k => k < w.heap.size /\ k ∉ fp /\ ∀ j, j < bx.length -> k ≠ bs j) w w'
def c1P (k : Nat) : Bool × T -> C
 | (true, t) => owC k 0 t
 | (false, t) => t.toN
def zsl : Nat -> List (Bool × T) -> List C
 | _, [] => []
 | k, p :: ps => c1P k p :: zsl (k + 1) ps
def zja : Nat -> Nat -> Bxs -> Nat -> Option (List C)
 | _, _, [] => fun _ => none
 | j, k, b :: bs => upd (zja (j + 1) (k + b.length) bs) (1000000 + j) (some (zsl k b))
def zcc : Nat -> Nat -> List AF -> Nat -> V
 | _, _, [] => fun _ => .one .any
 | i, k, .d b x :: l => upd (zcc (i + 1) (k + 1) l) i (gVN k (b, x))
 | i, k, .p j :: l => upd (zcc (i + 1) k l) i (.one (.bx (1000000 + j) 0))
 | i, k, .fn g js :: l => upd (zcc (i + 1) k l) i (.one (.fn g (js.map (1000000 + ·))))
def zg7 : Nat -> Bxs -> (Nat -> V) -> Nat -> V
 | _, [], f => f
 | j, _ :: bs, f => upd (zg7 (j + 1) bs f) (1000000 + j) (.one (.bx (1000000 + j) 0))
def zf9 (l : List AF) (bx : Bxs) : St := ⟨zg7 0 bx (zcc 0 0 l), zja 0 (AF.ds l).length bx, zge 0 (AF.ds l ++ bxA bx.flatten)⟩
theorem qjb (k : Nat) (p : Bool × T) : gVN k (p.1, .one p.2) = .one (c1P k p) := by obtain ⟨b, t⟩ := p; cases b <;> rfl
theorem zo6 : ∀ (bx : Bxs) (j : Nat) (f : Nat -> V) (i : Nat), ((∃ q, q < bx.length /\ i = 1000000 + (j + q)) /\ zg7 j bx f i = .one (.bx i 0)) \/ ((∀ q, q < bx.length -> i ≠ 1000000 + (j + q)) /\ zg7 j bx f i = f i)
 | [], j, f, i => Or.inr ⟨fun q hq => by simp at hq, rfl⟩
 | b :: bx, j, f, i => by
  by_cases hi : i = 1000000 + j
  ·subst hi
   exact Or.inl ⟨⟨0, by simp, rfl⟩, by unfold zg7; rw [zag]⟩
  ·unfold zg7
   rw [zak _ _ hi]
   rcases zo6 bx (j + 1) f i with ⟨⟨q, h1, h2⟩, h3⟩ | ⟨h1, h2⟩
   ·exact Or.inl ⟨⟨q + 1, by simp; omega, by omega⟩, h3⟩
   ·refine Or.inr ⟨fun q hq => ?_, h2⟩
    cases q with
    | zero => exact hi
    | succ q => have := h1 q (by simpa using hq); omega
theorem znw : ∀ (bx : Bxs) (j k b : Nat), zja j k bx b ≠ none ↔ ∃ q, q < bx.length /\ b = 1000000 + (j + q)
 | [], j, k, b => ⟨fun h => absurd rfl h, fun ⟨q, hq, _⟩ => by simp at hq⟩
 | c :: bx, j, k, b => by
  unfold zja
  by_cases hi : b = 1000000 + j
  ·subst hi; rw [zag]; exact ⟨fun _ => ⟨0, by simp, rfl⟩, fun _ => by simp⟩
  ·rw [zak _ _ hi, znw bx (j + 1) _ b]
   refine ⟨fun ⟨q, h1, h2⟩ => ⟨q + 1, by simp; omega, by omega⟩, fun ⟨q, h1, h2⟩ => ?_⟩
   cases q with
   | zero => exact absurd h2 hi
   | succ q => exact ⟨q, by simpa using h1, by omega⟩
theorem zky {σ : St} {g : Gh} {w : World} : ∀ {b : List (Bool × T)} {vs : List Value} {k : Nat}, vs.length = b.length -> (∀ i p v, b[i]? = some p -> vs[i]? = some v -> CR σ g w (c1P (k + i) p) v) -> CRs σ g w (zsl k b) vs
 | [], vs, _, hl, _ => List.length_eq_zero_iff.1 hl
 | p :: b, [], _, hl, _ => by simp at hl
 | p :: b, v :: vs, k, hl, h => ⟨v, vs, rfl, by simpa using h 0 p v rfl rfl, zky (by simpa using hl) fun i q u h1 h2 => by
   have := h (i + 1) q u (by simpa using h1) (by simpa using h2)
   rw [show k + (i + 1) = k + 1 + i by omega] at this
   exact this⟩
theorem zox {σ : St} {g : Gh} {w : World} {bs : Nat -> Nat} : ∀ (bx : Bxs) (bvs : List (List Value)) (j k : Nat), zeg w bs j bvs bx -> (∀ i p v, bx.flatten[i]? = some p -> bvs.flatten[i]? = some v -> CR σ g w (c1P (k + i) p) v) →
  ∀ b cs, zja j k bx b = some cs -> ∃ q vs ty, q < bx.length /\ b = 1000000 + (j + q) /\ w.heap[bs (j + q)]? = some (.cells ⟨vs⟩ ty (0, 0)) /\ CRs σ g w cs vs
 | [], _, _, _, _, _, b, cs, h => by cases h
 | c :: bx, [], _, _, h0, _, _, _, _ => h0.elim
 | c :: bx, vs :: bvs, j, k, h0, hc, b, cs, h => by
  obtain ⟨h1, ⟨ty, h2⟩, h3⟩ := h0
  unfold zja at h
  by_cases hi : b = 1000000 + j
  ·subst hi
   rw [zag] at h
   cases h
   refine ⟨0, vs, ty, by simp, rfl, h2, zky h1 fun i p v e1 e2 => hc i p v ?_ ?_⟩
   ·rw [List.flatten_cons, List.getElem?_append_left (List.getElem?_eq_some_iff.1 e1).1]; exact e1
   ·rw [List.flatten_cons, List.getElem?_append_left (List.getElem?_eq_some_iff.1 e2).1]; exact e2
  ·rw [zak _ _ hi] at h
   obtain ⟨q, vs', ty', k1, k2, k3, k4⟩ := zox bx bvs (j + 1) (k + c.length) h3 (fun i p v e1 e2 => by
    have := hc (c.length + i) p v (by rw [List.flatten_cons, List.getElem?_append_right (by omega), show c.length + i - c.length = i by omega]; exact e1) (by rw [List.flatten_cons, List.getElem?_append_right (by omega), show c.length + i - vs.length = i by omega]; exact e2)
    rw [show k + (c.length + i) = k + c.length + i by omega] at this
    exact this) b cs h
   exact ⟨q + 1, vs', ty', by simp; omega, by omega, by rw [show j + (q + 1) = j + 1 + q by omega]; exact k3, k4⟩
theorem zez : ∀ (l : List AF) (i0 k i : Nat), l.length <= i -> zcc i0 k l (i0 + i) = .one .any
 | [], _, _, _, _ => rfl
 | a :: l, i0, k, 0, h => by simp at h
 | .d b x :: l, i0, k, i + 1, h => by unfold zcc; rw [zak _ _ (by omega), show i0 + (i + 1) = i0 + 1 + i by omega]; exact zez l _ _ i (by simpa using h)
 | .p j :: l, i0, k, i + 1, h => by unfold zcc; rw [zak _ _ (by omega), show i0 + (i + 1) = i0 + 1 + i by omega]; exact zez l _ _ i (by simpa using h)
 | .fn g js :: l, i0, k, i + 1, h => by unfold zcc; rw [zak _ _ (by omega), show i0 + (i + 1) = i0 + 1 + i by omega]; exact zez l _ _ i (by simpa using h)
theorem zgg {σ : St} {g : Gh} {w : World} {bs : Nat -> Nat} {n : Nat} (hb : ∀ j, j < n -> σ.bx (1000000 + j) ≠ none /\ g.β (1000000 + j) = bs j) : ∀ (l : List AF) (i0 k : Nat) (dvs : List Value), AF.okJ n l = true -> dvs.length = (AF.ds l).length -> (∀ i d v, (AF.ds l)[i]? = some d -> dvs[i]? = some v -> VR σ g w (gVN (k + i) d) v) →
  ∀ i, i < l.length -> ∃ v, (AF.vals bs l dvs)[i]? = some v /\ VR σ g w (zcc i0 k l (i0 + i)) v
 | [], _, _, _, _, _, _, i, hi => by simp at hi
 | .d b x :: l, i0, k, [], _, hl, _, i, hi => by simp [AF.ds] at hl
 | .d b x :: l, i0, k, v :: dvs, ho, hl, h, i, hi => by
  cases i with
  | zero => exact ⟨v, rfl, by unfold zcc; show VR σ g w (upd _ i0 _ i0) v; rw [zag]; simpa using h 0 (b, x) v rfl rfl⟩
  | succ i =>
   obtain ⟨u, k1, k2⟩ := zgg hb l (i0 + 1) (k + 1) dvs ho (by simpa [AF.ds] using hl) (fun i d v h1 h2 => by
    have := h (i + 1) d v (by simpa [AF.ds] using h1) (by simpa using h2)
    rw [show k + (i + 1) = k + 1 + i by omega] at this
    exact this) i (by simpa using hi)
   exact ⟨u, by unfold AF.vals; simpa using k1, by unfold zcc; rw [zak _ _ (by omega), show i0 + (i + 1) = i0 + 1 + i by omega]; exact k2⟩
 | .p j :: l, i0, k, dvs, ho, hl, h, i, hi => by
  unfold AF.okJ at ho
  rw [Bool.and_eq_true, decide_eq_true_eq] at ho
  cases i with
  | zero => exact ⟨_, rfl, by unfold zcc; show VR σ g w (upd _ i0 _ i0) _; rw [zag]; exact ⟨by rw [(hb j ho.1).2]; rfl, (hb j ho.1).1⟩⟩
  | succ i =>
   obtain ⟨u, k1, k2⟩ := zgg hb l (i0 + 1) k dvs ho.2 hl h i (by simpa using hi)
   exact ⟨u, by unfold AF.vals; simpa using k1, by unfold zcc; rw [zak _ _ (by omega), show i0 + (i + 1) = i0 + 1 + i by omega]; exact k2⟩
 | .fn f js :: l, i0, k, dvs, ho, hl, h, i, hi => by
  unfold AF.okJ at ho
  rw [Bool.and_eq_true, List.all_eq_true] at ho
  cases i with
  | zero =>
   refine ⟨_, rfl, ?_⟩
   unfold zcc
   show VR σ g w (upd _ i0 _ i0) _
   rw [zag]
   refine ⟨?_, fun b hb' => ?_⟩
   ·rw [List.map_map]
    congr 2
    refine List.map_congr_left fun j hj => ?_
    show zjz (bs j) = .pointer (some ⟨g.β (1000000 + j), 0, none⟩)
    rw [(hb j (by simpa using ho.1 j hj)).2]
    rfl
   ·obtain ⟨j, hj, rfl⟩ := List.mem_map.1 hb'
    exact (hb j (by simpa using ho.1 j hj)).1
  | succ i =>
   obtain ⟨u, k1, k2⟩ := zgg hb l (i0 + 1) k dvs ho.2 hl h i (by simpa using hi)
   exact ⟨u, by unfold AF.vals; simpa using k1, by unfold zcc; rw [zak _ _ (by omega), show i0 + (i + 1) = i0 + 1 + i by omega]; exact k2⟩
theorem AF.vals_len (bs : Nat -> Nat) : ∀ (l : List AF) (dvs : List Value), dvs.length = (AF.ds l).length -> (AF.vals bs l dvs).length = l.length
 | [], _, _ => rfl
 | .d _ _ :: l, [], h => by simp [AF.ds] at h
 | .d _ _ :: l, v :: vs, h => by simp [AF.vals, AF.vals_len bs l vs (by simpa [AF.ds] using h)]
 | .p _ :: l, vs, h => by simp [AF.vals, AF.vals_len bs l vs h]
 | .fn _ _ :: l, vs, h => by simp [AF.vals, AF.vals_len bs l vs h]
def T.fs : T -> Bool
 | .sl _ _ => true
 | t => t.flat
def gFS : List (Bool × D) -> Bool
 | [] => true
 | (false, _) :: ds => gFS ds
 | (true, .one t) :: ds => t.fs && gFS ds
 | (true, .agg ts) :: ds => ts.all T.fs && gFS ds
theorem zt8 : ∀ {ds : List (Bool × D)}, gFS ds = true -> ∀ (i : Nat) d, ds[i]? = some (true, d) -> match d with | .one t => t.fs = true | .agg ts => ts.all T.fs = true
 | [], _, i, d, h => by simp at h
 | (false, x) :: ds, hg, 0, d, h => by simp at h
 | (false, x) :: ds, hg, i + 1, d, h => zt8 (ds := ds) hg i d (by simpa using h)
 | (true, .one t) :: ds, hg, 0, d, h => by
  simp only [List.getElem?_cons_zero, Option.some.injEq, Prod.mk.injEq, true_and] at h
  subst h
  exact ((Bool.and_eq_true _ _).mp hg).1
 | (true, .agg t) :: ds, hg, 0, d, h => by
  simp only [List.getElem?_cons_zero, Option.some.injEq, Prod.mk.injEq, true_and] at h
  subst h
  exact ((Bool.and_eq_true _ _).mp hg).1
 | (true, .one t) :: ds, hg, i + 1, d, h => zt8 (ds := ds) ((Bool.and_eq_true _ _).mp hg).2 i d (by simpa using h)
 | (true, .agg t) :: ds, hg, i + 1, d, h => zt8 (ds := ds) ((Bool.and_eq_true _ _).mp hg).2 i d (by simpa using h)
theorem zsv {σ σ' : St} {g g' : Gh} {w : World} (he : σ'.ev = σ.ev) (hψ : g'.ψ = g.ψ) {k j : Nat} {t : T} {v : Value} (ht : t.fs = true) (h : CR σ g w (owC k j t) v) : CR σ' g' w (owC k j t) v := by
 cases t
 case sl => exact ⟨by rw [hψ]; exact h.1, by obtain ⟨x, h1, h2⟩ := h.2; exact ⟨x, by rw [he]; exact h1, h2⟩⟩
 all_goals exact ze4 (A := Fix σ g w) (w := w) ht h
theorem znh {σ σ' : St} {g g' : Gh} {w : World} (he : σ'.ev = σ.ev) (hψ : g'.ψ = g.ψ) {k : Nat} : ∀ {ts : List T} {j : Nat} {vs : List Value}, ts.all T.fs = true -> CRs σ g w (zls k j ts) vs -> CRs σ' g' w (zls k j ts) vs
 | [], _, _, _, h => h
 | t :: ts, j, vs, ht, h => by
  rw [List.all_cons, Bool.and_eq_true] at ht
  obtain ⟨v, vs', rfl, h1, h2⟩ := h
  exact ⟨v, vs', rfl, zsv he hψ ht.1 h1, znh he hψ ht.2 h2⟩
theorem zk5 (d : Nat) : ∀ (ts : List T) (j : Nat) (f : Nat -> Option Ev), (∀ e x, f e = some x -> x.deep = true /\ x.on = true) -> ∀ e x, owE d j ts f e = some x -> x.deep = true /\ x.on = true
 | [], _, f, h, e, x, hx => h e x hx
 | t :: ts, j, f, h, e, x, hx => zk5 d ts (j + 1) _ (fun e x hx => by
   cases t <;> first | exact h e x hx | skip
   rename_i sz rows
   by_cases he : e = d * 32 + j
   ·subst he; simp only [zqw, zag, Option.some.injEq] at hx; subst hx; exact ⟨rfl, rfl⟩
   ·simp only [zqw, zak _ _ he] at hx; exact h e x hx) e x hx
theorem ze0 : ∀ (ds : List (Bool × D)) (k e : Nat) (x : Ev), zge k ds e = some x -> x.deep = true /\ x.on = true
 | [], _, _, _, h => by cases h
 | (false, _) :: ds, k, e, x, h => ze0 ds (k + 1) e x h
 | (true, .one t) :: ds, k, e, x, h => zk5 k [t] 0 _ (fun e x hx => ze0 ds (k + 1) e x hx) e x h
 | (true, .agg ts) :: ds, k, e, x, h => zk5 k ts 0 _ (fun e x hx => ze0 ds (k + 1) e x hx) e x h
theorem znt {w : World} {l : List AF} {bx : Bxs} {bs : Nat -> Nat} {bvs : List (List Value)} {dvs : List Value} {fp tp : List Nat} {A : Nat -> Prop} {N : Nat} (hinj : ∀ i j, i < bx.length -> j < bx.length -> bs i = bs j -> i = j) (hbf : ∀ j, j < bx.length -> bs j ∉ fp) (hbx : zeg w bs 0 bvs bx)
  (hv : zar w (fun k => (k < w.heap.size /\ k ∉ fp /\ ∀ j, j < bx.length -> k ≠ bs j) /\ A k) (AF.ds l ++ bxA bx.flatten) (dvs ++ bvs.flatten) fp tp) (hn : fp.Nodup) (hl : dvs.length = (AF.ds l).length) (hj : AF.okJ bx.length l = true) (hN : l.length <= N) (hN2 : N <= 1000000) (hs : zcj (AF.ds l ++ bxA bx.flatten)) (hfs : gFS (AF.ds l ++ bxA bx.flatten) = true)
  {ξ : Nat -> Value} (h1 : ∀ i, i < 1000000 -> ξ i = undef) (h2 : ∀ i b, ξ i ≠ .bool b) (h3 : ∀ j, j < bx.length -> ξ (1000000 + j) = zjz (bs j)) :
  ∃ g, (g.A0, g.R0) = (fun b => A b \/ w.heap.size <= b \/ b ∈ fp \/ ∃ j, j < bx.length /\ b = bs j, ⟨fun b => b ∈ fp \/ w.heap.size <= b \/ ∃ j, j < bx.length /\ b = bs j, ξ, h1, h2⟩) ∧
   Rel (fun b => b < w.heap.size /\ b ∉ fp /\ ∀ j, j < bx.length -> b ≠ bs j) N (zf9 l bx) g { tmps := (⟨AF.vals bs l dvs⟩ : Array Value) ++ Array.replicate (N - (AF.vals bs l dvs).length) undef, defers := [] } w := by
 have hv' : zar w (fun b => b < w.heap.size /\ (A b /\ ∀ j, j < bx.length -> b ≠ bs j) /\ b ∉ fp) (AF.ds l ++ bxA bx.flatten) (dvs ++ bvs.flatten) fp tp := zar.keepA (fun b hb => ⟨hb.1.1, ⟨hb.2, hb.1.2.2⟩, hb.1.2.1⟩) hv
 obtain ⟨g, hg, hR⟩ := Rel.start (N := (AF.ds l ++ bxA bx.flatten).length) (A0 := fun b => A b \/ w.heap.size <= b \/ b ∈ fp \/ ∃ j, j < bx.length /\ b = bs j) (R0 := ⟨fun b => b ∈ fp \/ w.heap.size <= b \/ ∃ j, j < bx.length /\ b = bs j, ξ, h1, h2⟩) hv' hn hs (Nat.le_refl _) (fun b hb => Or.inl hb.1) (fun b hb => ⟨Or.inr (Or.inr (Or.inl hb)), Or.inl hb⟩) (fun b hb => by
  by_cases hlt : b < w.heap.size
  ·have hm : b ∈ fp := Classical.byContradiction fun h => hb ⟨hlt, h⟩
   exact ⟨Or.inr (Or.inr (Or.inl hm)), Or.inl hm⟩
  ·exact ⟨Or.inr (Or.inl (by omega)), Or.inr (Or.inl (by omega))⟩)
 have hg1 : g.A0 = _ := (Prod.mk.inj hg).1
 have hg2 : g.R0 = _ := (Prod.mk.inj hg).2
 refine ⟨{ g with β := fun k => bs (k - 1000000) }, hg, ?_⟩
 have hlen : (dvs ++ bvs.flatten).length = (AF.ds l ++ bxA bx.flatten).length := zar.len hv
 have hbne : ∀ b, (zf9 l bx).bx b ≠ none ↔ ∃ q, q < bx.length /\ b = 1000000 + q := fun b => by
  have := znw bx 0 (AF.ds l).length b
  simp only [Nat.zero_add] at this
  exact this
 have hblt : ∀ q, q < bx.length -> bs q < w.heap.size := fun q hq => by have := hbx.lt q hq; rwa [Nat.zero_add] at this
 have hdeep : ∀ e x, (zf9 l bx).ev e = some x -> x.deep = true /\ x.on = true := fun e x hx => ze0 _ _ e x hx
 have hφ : ∀ e, (zf9 l bx).On e -> ∀ b ∈ g.φ e, ¬ (b < w.heap.size /\ b ∉ fp) := fun e he b hb => hR.etop e he b hb
 have hfree : ∀ b, ((b < w.heap.size /\ b ∉ fp /\ ∀ j, j < bx.length -> b ≠ bs j) /\ A b) -> zb0 (zf9 l bx) { g with β := fun k => bs (k - 1000000) } w b := fun b hb => by
  refine ⟨⟨fun k hk => ?_, fun e x hx ho hh => hφ e ⟨x, hx, ho⟩ b (List.mem_of_mem_head? hh) ⟨hb.1.1, hb.1.2.1⟩, hb.1.1, ?_⟩, fun e he hm => hφ e he b hm ⟨hb.1.1, hb.1.2.1⟩⟩
  ·obtain ⟨q, hq, rfl⟩ := (hbne k).1 hk
   show bs (1000000 + q - 1000000) ≠ b
   rw [show 1000000 + q - 1000000 = q by omega]
   exact fun e => hb.1.2.2 q hq e.symm
  ·show g.A0 b
   rw [hg1]
   exact Or.inl hb.2
 have hat : ∀ (i : Nat) d v, (AF.ds l ++ bxA bx.flatten)[i]? = some d -> (dvs ++ bvs.flatten)[i]? = some v -> VR (zf9 l bx) { g with β := fun k => bs (k - 1000000) } w (gVN i d) v := fun i d v hd hv1 => by
  obtain ⟨b, d⟩ := d
  cases b with
  | false =>
   obtain ⟨u, e1, e2⟩ := zar.atR hv i d hd
   rw [e1] at hv1
   cases hv1
   exact qav hfree e2
  | true =>
   have h0 := hR.slots i
   have hj0 := zk4 (AF.ds l ++ bxA bx.flatten) 0 i
   rw [Nat.zero_add, hd] at hj0
   have h0' : VR (zd1 (AF.ds l ++ bxA bx.flatten)) g w (zgy 0 (AF.ds l ++ bxA bx.flatten) i) _ := h0
   rw [hj0] at h0'
   have hlt : i < (dvs ++ bvs.flatten).length := (List.getElem?_eq_some_iff.1 hv1).1
   have e : ((⟨dvs ++ bvs.flatten⟩ : Array Value) ++ Array.replicate ((AF.ds l ++ bxA bx.flatten).length - (dvs ++ bvs.flatten).length) undef).getD i (g.R0.ξ i) = v := by
    rw [Array.getD_eq_getD_getElem?, Array.getElem?_append_left (by simpa using hlt)]
    simp only [List.getElem?_toArray, hv1, Option.getD_some]
   rw [e] at h0'
   have hf := zt8 hfs i d hd
   cases d with
   | one t => exact zsv (σ := zd1 (AF.ds l ++ bxA bx.flatten)) (σ' := zf9 l bx) (g := g) (g' := { g with β := fun k => bs (k - 1000000) }) rfl rfl hf h0'
   | agg ts => obtain ⟨a, e1, e2⟩ := h0'; exact ⟨a, e1, znh (σ := zd1 (AF.ds l ++ bxA bx.flatten)) (σ' := zf9 l bx) (g := g) (g' := { g with β := fun k => bs (k - 1000000) }) rfl rfl hf e2⟩
 have hvl := AF.vals_len bs l dvs hl
 refine ⟨rfl, by simp; omega, fun b hb => ?_, fun i => ?_, fun b cs hb => ?_, fun b hb => ?_, fun b b' hb hb' he => ?_, fun e x he ho => ?_, fun e x he ho => ?_, hR.slc, fun e he b hb => ?_, fun e he b hb => ?_, fun e he => hR.nodup e he, fun e e' h1 h2 hne => hR.apart e e' h1 h2 hne, fun e k he hk hm => ?_⟩
 ·show g.A0 b /\ g.R0 b
  rw [hg1, hg2]
  show (A b \/ _) /\ (b ∈ fp \/ _)
  by_cases hlt : b < w.heap.size
  ·by_cases hm : b ∈ fp
   ·exact ⟨Or.inr (Or.inr (Or.inl hm)), Or.inl hm⟩
   ·have : ∃ j, j < bx.length /\ b = bs j := Classical.byContradiction fun hh => hb ⟨hlt, hm, fun j hj e => hh ⟨j, hj, e⟩⟩
    exact ⟨Or.inr (Or.inr (Or.inr this)), Or.inr (Or.inr this)⟩
  ·exact ⟨Or.inr (Or.inl (by omega)), Or.inr (Or.inl (by omega))⟩
 ·show VR _ _ _ (zg7 0 bx (zcc 0 0 l) i) _
  rcases zo6 bx 0 (zcc 0 0 l) i with ⟨⟨q, h4, rfl⟩, h5⟩ | ⟨_, h5⟩
  ·rw [h5, Nat.zero_add, Array.getD_eq_getD_getElem?, Array.getElem?_eq_none (by simp; omega)]
   refine ⟨?_, (hbne _).2 ⟨q, h4, rfl⟩⟩
   show (none : Option Value).getD (g.R0.ξ (1000000 + q)) = .pointer (some ⟨bs (1000000 + q - 1000000), 0, none⟩)
   rw [hg2, show 1000000 + q - 1000000 = q by omega]
   exact h3 q h4
  ·rw [h5]
   by_cases hi : i < l.length
   ·obtain ⟨u, e1, e2⟩ := zgg (σ := zf9 l bx) (g := { g with β := fun k => bs (k - 1000000) }) (w := w) (bs := bs) (n := bx.length) (fun j hj => ⟨(hbne _).2 ⟨j, hj, rfl⟩, by show bs (1000000 + j - 1000000) = bs j; rw [show 1000000 + j - 1000000 = j by omega]⟩) l 0 0 dvs hj hl (fun i d v e1 e2 => by
     rw [Nat.zero_add]
     exact hat i d v (by rw [List.getElem?_append_left (List.getElem?_eq_some_iff.1 e1).1]; exact e1) (by rw [List.getElem?_append_left (List.getElem?_eq_some_iff.1 e2).1]; exact e2)) i hi
    rw [Nat.zero_add] at e2
    rw [Array.getD_eq_getD_getElem?, Array.getElem?_append_left (by simp; omega)]
    simp only [List.getElem?_toArray, e1, Option.getD_some]
    exact e2
   ·have := zez l 0 0 i (by omega)
    rw [Nat.zero_add] at this
    rw [this]
    trivial
 ·obtain ⟨q, vs, ty, k1, k2, k3, k4⟩ := zox (σ := zf9 l bx) (g := { g with β := fun k => bs (k - 1000000) }) bx bvs 0 (AF.ds l).length hbx (fun i p v e1 e2 => by
   have := hat ((AF.ds l).length + i) (p.1, .one p.2) v (by rw [List.getElem?_append_right (by omega), show (AF.ds l).length + i - (AF.ds l).length = i by omega]; unfold bxA; rw [List.getElem?_map, e1]; rfl) (by rw [List.getElem?_append_right (by omega), show (AF.ds l).length + i - dvs.length = i by omega]; exact e2)
   rw [qjb] at this
   exact this) b cs hb
  rw [Nat.zero_add] at k2 k3
  subst k2
  exact ⟨⟨vs⟩, ty, by show w.heap[bs (1000000 + q - 1000000)]? = _; rw [show 1000000 + q - 1000000 = q by omega]; exact k3, k4⟩
 ·obtain ⟨q, hq, rfl⟩ := (hbne b).1 hb
  intro h
  have h := h.2.2 q hq
  exact h (show bs (1000000 + q - 1000000) = bs q by rw [show 1000000 + q - 1000000 = q by omega])
 ·obtain ⟨q, hq, rfl⟩ := (hbne b).1 hb
  obtain ⟨q', hq', rfl⟩ := (hbne b').1 hb'
  have he : bs (1000000 + q - 1000000) = bs (1000000 + q' - 1000000) := he
  rw [show 1000000 + q - 1000000 = q by omega, show 1000000 + q' - 1000000 = q' by omega] at he
  rw [hinj q q' hq hq' he]
 ·obtain ⟨ao, cap, e1, e2, e3, e4⟩ := hR.evs e x he ho
  refine ⟨ao, cap, e1, e2, e3, ?_⟩
  rcases e4 with e4 | ⟨b, cells, ty, fps, j1, j2, j3, j4, j5⟩
  ·exact Or.inl e4
  ·rw [if_pos (hdeep e x he).1] at j5
   exact Or.inr ⟨b, cells, ty, fps, j1, j2, j3, j4, by rw [if_pos (hdeep e x he).1]; exact j5⟩
 ·rw [(hdeep e x he).2] at ho; cases ho
 ·exact hR.ebase e he b hb
 ·exact fun h => hφ e he b hb ⟨h.1, h.2.1⟩
 ·obtain ⟨q, hq, rfl⟩ := (hbne k).1 hk
  have hm : bs (1000000 + q - 1000000) ∈ g.φ e := hm
  rw [show 1000000 + q - 1000000 = q by omega] at hm
  exact hφ e he _ hm ⟨hblt q hq, hbf q hq⟩
def bxE (σ : St) : Nat -> Bxs -> (List V -> Prop) -> Prop
 | _, [], K => K []
 | j, b :: bs, K => σ.sl (1000000 + j) = .one (.bx (1000000 + j) 0) /\ zan (σ.bx (1000000 + j)) fun cs => cs.length = b.length /\ bxE σ (j + 1) bs fun vs => K (cs.map .one ++ vs)
theorem CRs.ones {σ : St} {g : Gh} {w : World} : ∀ {cs : List C} {vs : List Value}, CRs σ g w cs vs -> VRl σ g w (cs.map .one) vs
 | [], _, h => h
 | c :: cs, _, h => by obtain ⟨v, vs', rfl, h1, h2⟩ := h; exact ⟨v, vs', rfl, h1, CRs.ones h2⟩
theorem zjj {n0 : Nat -> Prop} {N : Nat} {σ : St} {g : Gh} {a : Act} {w : World} {bs : Nat -> Nat} (hR : Rel n0 N σ g a w) (hN : N <= 1000000) : ∀ {bx : Bxs} {j : Nat} {K : List V -> Prop}, (∀ q, q < bx.length -> g.R0.ξ (1000000 + (j + q)) = zjz (bs (j + q))) -> bxE σ j bx K →
  ∃ vs bvs, K vs /\ zeg w bs j bvs bx /\ VRl σ g w vs bvs.flatten /\ ∀ q, q < bx.length -> σ.bx (1000000 + (j + q)) ≠ none /\ g.β (1000000 + (j + q)) = bs (j + q)
 | [], j, K, _, h => ⟨[], [], h, trivial, rfl, fun q hq => by simp at hq⟩
 | b :: bx, j, K, hξ, h => by
  obtain ⟨h1, h2⟩ := h
  obtain ⟨cs, h3, h4, h5⟩ := zal h2
  obtain ⟨vs, bvs, k1, k2, k3, k4⟩ := zjj hR hN (bx := bx) (j := j + 1) (fun q hq => by have := hξ (q + 1) (by simpa using hq); rw [show j + (q + 1) = j + 1 + q by omega] at this; exact this) h5
  have h0 := hR.slots (1000000 + j)
  rw [h1, Array.getD_eq_getD_getElem?, Array.getElem?_eq_none (by rw [hR.size]; omega)] at h0
  have hx := hξ 0 (by simp)
  rw [Nat.add_zero] at hx
  have h0 : CR σ g w (.bx (1000000 + j) 0) (g.R0.ξ (1000000 + j)) := h0
  rw [hx] at h0
  have hβ : g.β (1000000 + j) = bs j := by
   have := h0.1
   unfold zjz at this
   simp only [Value.pointer.injEq, Option.some.injEq] at this
   injection this with e
   exact e.symm
  obtain ⟨us, ty, j1, j2⟩ := hR.boxes _ cs h3
  rw [hβ] at j1
  refine ⟨_, us.toList :: bvs, k1, ⟨by rw [j2.len, h4], ⟨ty, j1⟩, k2⟩, VRl.append j2.ones k3, fun q hq => ?_⟩
  cases q with
  | zero => exact ⟨h0.2, hβ⟩
  | succ q => rw [show j + (q + 1) = j + 1 + q by omega]; exact k4 q (by simpa using hq)
def PB0 (P : Program) (rs : List ResultVar) (res : List (Bool × D)) (bx : Bxs) (pl : List (Nat × Nat × Nat)) (σ : St) : Prop := zan (zbe P σ rs) fun vs => bxE σ 0 bx fun cs => gvA σ (fun _ => True) [] pl (vs ++ cs) (res ++ bxA bx.flatten)
def PB (P : Program) (rs : List ResultVar) (res : List (Bool × D)) (bx : Bxs) (e : Exit) (σ : St) : Prop := match e with
 | .normal => PB0 P rs res bx [] σ \/ ∃ pl, PB0 P rs res bx pl σ
 | .ret => PB0 P rs res bx [] σ \/ ∃ pl, PB0 P rs res bx pl σ
 | _ => False
theorem zfq {σ : St} : ∀ {rs : List ResultVar} {vs : List V}, zbe P σ rs = some vs -> vs.length = rs.length
 | [], vs, h => by cases h; rfl
 | r :: rs, vs, h => by
  unfold zbe at h
  cases h1 : zus P σ r with
  | none => rw [h1] at h; cases h
  | some v =>
   rw [h1] at h
   simp only [Option.bind_some] at h
   cases h2 : zbe P σ rs with
   | none => rw [h2] at h; cases h
   | some us => rw [h2] at h; cases h; simp [zfq h2]
theorem VRl.len {σ : St} {g : Gh} {w : World} : ∀ {xs : List V} {vs : List Value}, VRl σ g w xs vs -> vs.length = xs.length
 | [], _, h => by rw [show _ = [] from h]; rfl
 | x :: xs, _, h => by obtain ⟨v, vs', rfl, _, h2⟩ := h; simp [VRl.len h2]
theorem PC_of {f : FuncId} {fn : Func} {c : Code} {bx bx' : Bxs} {l : List AF} {res : List (Bool × D)} (hc : za1 P f) (hf : P.funcs[f]? = some fn) (hb : fn.body = some c) (hd : zcf fn.ntmps c = true) (hN : l.length <= fn.ntmps) (hN2 : fn.ntmps <= 1000000) (hbl : bx'.length = bx.length) (hj : AF.okJ bx.length l = true) (hs : zcj (AF.ds l ++ bxA bx.flatten)) (hfs : gFS (AF.ds l ++ bxA bx.flatten) = true) (hrl : fn.results.toList.length = res.length)
  (h : ex P c [] (PB P fn.results.toList res bx') (zf9 l bx)) : PC P f bx l bx' res := by
 refine ⟨hc, hbl, fun w bs bvs dvs fp tp A hinj hbf hbx hv hn hl => ?_⟩
 refine calls_of_wp hf hb ?_
 obtain ⟨g, hg, hR⟩ := znt (N := fn.ntmps) hinj hbf hbx hv hn hl hj hN hN2 hs hfs (ξ := fun i => if 1000000 <= i then zjz (bs (i - 1000000)) else undef) (fun i hi => if_neg (by omega)) (fun i b => by
  by_cases h : 1000000 <= i
  ·rw [if_pos h]; exact fun e => by cases e
  ·rw [if_neg h]; exact fun e => by cases e) (fun j hj => by
  rw [if_pos (by omega), show 1000000 + j - 1000000 = j by omega])
 refine wp_mono (zbf (w0 := w) c (zf9 l bx) _ hd h g _ w hR (fun k hk => hk.1) (Bk.refl _ _) hg) fun e a' w' hq => ?_
 obtain ⟨σ', g', h1, h2, h3, h4, h5⟩ := hq
 have hξ : ∀ q, q < bx'.length -> g'.R0.ξ (1000000 + (0 + q)) = zjz (bs (0 + q)) := fun q hq => by
  rw [(Prod.mk.inj h5).2, Nat.zero_add]
  show (if 1000000 <= 1000000 + q then zjz (bs (1000000 + q - 1000000)) else undef) = _
  rw [if_pos (by omega), show 1000000 + q - 1000000 = q by omega]
 have key : (∃ pl, PB0 P fn.results.toList res bx' pl σ') -> ∃ v, (results fn a'.tmps).run P w' = .ok v w' /\ ∃ us bvs' fp' tp', Ending.returned v = .returned (zbz us) /\ zeg w' bs 0 bvs' bx' /\ us.length = res.length ∧
   zar w' (fun k => (k < w'.heap.size /\ k ∉ fp' /\ ∀ j, j < bx.length -> k ≠ bs j) /\ (A k \/ w.heap.size <= k \/ k ∈ fp)) (res ++ bxA bx'.flatten) (us ++ bvs'.flatten) fp' tp' /\ fp'.Nodup /\ (∀ b ∈ fp', b ∈ fp \/ w.heap.size <= b) /\ Bk (fun k => k < w.heap.size /\ k ∉ fp /\ ∀ j, j < bx.length -> k ≠ bs j) w w' := by
  rintro ⟨pl, hk⟩
  obtain ⟨vs, hvs, hk⟩ := zal hk
  obtain ⟨us, r1, r2⟩ := zbn h2 fn hvs
  obtain ⟨cs, bvs', k0, b1, b2, b3⟩ := zjj (bs := bs) h2 hN2 hξ hk
  obtain ⟨B, hB⟩ := h2.fam
  obtain ⟨s, k1, ⟨tp', k2⟩, k3, k4⟩ := ze2 h2 hB k0 (VRl.append r2 b2)
  rw [List.append_nil] at k4
  have hsp : s.Pairwise okP := (List.pairwise_reverse.1 (k4 List.Pairwise.nil)).imp fun h => h.symm
  have hin : ∀ b ∈ bks B s, ∃ e, σ'.On e /\ b ∈ g'.φ e := fun b hb => by
   obtain ⟨x, hx, hm⟩ := List.mem_flatMap.1 hb
   exact ⟨x.1, k3 x hx, hB.sub x.1 x.2 b (k3 x hx) hm⟩
  have hbβ : ∀ j, j < bx.length -> σ'.bx (1000000 + j) ≠ none /\ g'.β (1000000 + j) = bs j := fun j hj => by
   have := b3 j (by omega)
   rwa [Nat.zero_add] at this
  have hA : ∀ b, zb0 σ' g' w' b -> (b < w'.heap.size /\ b ∉ bks B s /\ ∀ j, j < bx.length -> b ≠ bs j) /\ (A b \/ w.heap.size <= b \/ b ∈ fp) := fun b hb => by
   have hnb : ∀ j, j < bx.length -> b ≠ bs j := fun j hj e => hb.1.1 _ (hbβ j hj).1 (by rw [(hbβ j hj).2, e])
   refine ⟨⟨hb.1.2.2.1, fun hm => ?_, hnb⟩, ?_⟩
   ·obtain ⟨e, ho, hm⟩ := hin b hm
    exact hb.2 e ho hm
   ·have h0 := hb.1.2.2.2
    rw [(Prod.mk.inj h5).1] at h0
    rcases h0 with h0 | h0 | h0 | ⟨j, hj, h0⟩
    ·exact Or.inl h0
    ·exact Or.inr (Or.inl h0)
    ·exact Or.inr (Or.inr h0)
    ·exact absurd h0 (hnb j hj)
  refine ⟨_, r1, us, bvs', bks B s, tp', rfl, b1, by rw [r2.len, <- hrl]; exact zfq hvs, zar.keepA hA k2, zdq h2 hB k3 hsp, fun b hb => ?_, h4⟩
  obtain ⟨e, ho, hm⟩ := hin b hb
  have h0 := (h2.ebase e ho b hm).2
  rw [(Prod.mk.inj h5).2] at h0
  rcases h0 with h0 | h0 | ⟨j, hj, h0⟩
  ·exact Or.inl h0
  ·exact Or.inr h0
  ·have := h2.ebx e _ ho (hbβ j hj).1
   rw [(hbβ j hj).2] at this
   exact absurd (h0 ▸ hm) this
 have key' : ∀ {Y : Prop}, (PB0 P fn.results.toList res bx' [] σ' \/ ∃ pl, PB0 P fn.results.toList res bx' pl σ') -> ((∃ pl, PB0 P fn.results.toList res bx' pl σ') -> Y) -> Y := fun h k => h.elim (fun h => k ⟨[], h⟩) k
 cases e with
 | normal => exact ⟨h2.defers, key' h1 key⟩
 | ret => exact ⟨h2.defers, key' h1 key⟩
 | exit _ => exact h1.elim
 | goto _ => exact h1.elim
 | panic _ => exact h1.elim
 | outgrown => exact h1.elim
end Go.Proofs.YtmhbmpbgpjljeaaGreat
namespace Go.Proofs.YtmhbmpbgpjljeaaGreat
set_option linter.unusedSimpArgs false
set_option linter.unusedVariables false
set_option linter.unusedSectionVars false
set_option maxRecDepth 4000
open Go.RowKit
variable {P : Program}
structure KeptB (W : List Nat) (σ τ : St) : Prop where
 sl : ∀ i, τ.sl i = .one .any \/ (τ.sl i = σ.sl i /\ (τ.sl i).okU τ)
 bx : ∀ b cs, b ∉ W -> τ.bx b = some cs -> σ.bx b = some cs /\ qe7 τ cs
 bxW : ∀ b ∈ W, σ.bx b ≠ none /\ τ.bx b ≠ none
 ev : ∀ e x, τ.ev e = some x -> σ.ev e = some x /\ x.on = true /\ x.deep = true
theorem Rel.givenB {W : List Nat} {n0 : Nat -> Prop} {N : Nat} {σ τ : St} {g g' : Gh} {a : Act} {w w' : World} (hR : Rel n0 N σ g a w) (hn0 : LtK n0 w) (hK : KeptB W σ τ) {fp : List Nat} (hfp : ∀ b ∈ fp, ∃ e, σ.On e /\ τ.ev e = none /\ b ∈ g.φ e) (hbk : Bk (fun k => k < w.heap.size /\ k ∉ fp /\ ∀ b ∈ W, k ≠ g.β b) w w')
  {ev' : Nat -> Option Ev} {F : List Nat} (hn : New τ g (fun b => b ∈ fp \/ w.heap.size <= b) w' ev' g' F) (hW : ∀ b ∈ W, ∀ cs, τ.bx b = some cs -> ∃ vs ty, w'.heap[g.β b]? = some (.cells vs ty (0, 0)) /\ CRs ⟨τ.sl, τ.bx, ev'⟩ g' w' cs vs.toList) : Rel n0 N ⟨τ.sl, τ.bx, ev'⟩ g' a w' := by
 have hOnσ : ∀ e, τ.On e -> σ.On e := fun e ⟨x, hx, ho⟩ => ⟨x, (hK.ev e x hx).1, ho⟩
 have hlt : ∀ e, σ.On e -> ∀ b ∈ g.φ e, b < w.heap.size := fun e ⟨x, hx, ho⟩ => (hR.evs e x hx ho).lt
 have hbne : ∀ b, τ.bx b ≠ none -> σ.bx b ≠ none := fun b hb => by
  by_cases hbW : b ∈ W
  ·exact (hK.bxW b hbW).1
  obtain ⟨cs, hcs⟩ := Option.ne_none_iff_exists'.1 hb
  rw [(hK.bx b cs hbW hcs).1]; simp
 have hfR : ∀ b ∈ fp, g.A0 b /\ g.R0 b /\ ¬ n0 b := fun b hb => by
  obtain ⟨e, ho, _, hm⟩ := hfp b hb
  obtain ⟨k1, k2⟩ := hR.ebase e ho b hm
  exact ⟨k1, k2, hR.etop e ho b hm⟩
 have hNB : ∀ b, (b ∈ fp \/ w.heap.size <= b) -> g.A0 b /\ g.R0 b /\ ¬ n0 b := fun b hb => by
  rcases hb with hb | hb
  ·exact hfR b hb
  ·have hnn := hn0.new hb
   exact ⟨(hR.anew b hnn).1, (hR.anew b hnn).2, hnn⟩
 have hβfp : ∀ b, τ.bx b ≠ none -> ¬ (g.β b ∈ fp \/ w.heap.size <= g.β b) := fun b hb h => by
  rcases h with h | h
  ·obtain ⟨e, ho, _, hm⟩ := hfp _ h
   exact hR.ebx e b ho (hbne b hb) hm
  ·have := hR.lt (hbne b hb); omega
 have hφfp : ∀ e, τ.On e -> ∀ b ∈ g.φ e, ¬ (b ∈ fp \/ w.heap.size <= b) := fun e ho b hb h => by
  rcases h with h | h
  ·obtain ⟨e', ho', hno, hm⟩ := hfp b h
   refine hR.apart e e' (hOnσ e ho) ho' (fun hee => ?_) b hb hm
   subst hee
   obtain ⟨x, hx, _⟩ := ho
   rw [hx] at hno; cases hno
  ·have := hlt e (hOnσ e ho) b hb; omega
 have hon : ∀ e, St.On ⟨τ.sl, τ.bx, ev'⟩ e -> τ.ev e ≠ none -> τ.On e := fun e ⟨x, hx, ho⟩ hee => ⟨x, (hn.old e hee).1.symm.trans hx, ho⟩
 have hkeep : ∀ b, b < w.heap.size -> b ∉ fp -> (∀ k ∈ W, b ≠ g.β k) -> w'.heap[b]? = w.heap[b]? := fun b h1 h2 h3 => hbk.block b ⟨h1, h2, h3⟩
 have hrn : ∀ b, zb0 σ g w b -> w'.heap[b]? = w.heap[b]? /\ zb0 ⟨τ.sl, τ.bx, ev'⟩ g' w' b := fun b hb => by
  obtain ⟨hf, hr⟩ := hb
  have hnb : ∀ e, St.On ⟨τ.sl, τ.bx, ev'⟩ e -> b ∉ g'.φ e := fun e ho hm => by
   by_cases hee : τ.ev e = none
   ·obtain ⟨x, hx, _⟩ := ho
    rcases ((hn.new e x hee hx).2.2.1 b hm).1 with h | h
    ·obtain ⟨e', ho', _, hm'⟩ := hfp b h
     exact hr e' ho' hm'
    ·have := hf.2.2.1; omega
   ·rw [(hn.old e hee).2.2] at hm
    exact hr e (hOnσ e (hon e ho hee)) hm
  refine ⟨hkeep b hf.2.2.1 (fun hm => by obtain ⟨e', ho', _, hm'⟩ := hfp b hm; exact hr e' ho' hm') (fun k hk e => hf.1 k (hK.bxW k hk).1 e.symm), ⟨fun k hk => by rw [hn.β]; exact hf.1 k (hbne k hk), fun e x hx hon' hh => hnb e ⟨x, hx, hon'⟩ (List.mem_of_mem_head? hh), Nat.lt_of_lt_of_le hf.2.2.1 hbk.size, by rw [hn.A0]; exact hf.2.2.2⟩, hnb⟩
 have hψ : ∀ e, τ.ev e ≠ none -> ev' e = τ.ev e /\ g'.ψ e = g.ψ e := fun e he => ⟨(hn.old e he).1, (hn.old e he).2.1⟩
 refine ⟨by rw [hR.defers], hR.size, by rw [hn.A0, hn.R0]; exact hR.anew, fun i => ?_, fun b cs hb => ?_, fun b hb => by rw [hn.β]; exact hR.base b (hbne b hb), fun b b' h1 h2 h3 => by rw [hn.β] at h3; exact hR.inj b b' (hbne b h1) (hbne b' h2) h3, fun e x he ho => ?_, fun e x he ho => ?_, hn.slc, fun e he b hb => ?_, fun e he b hb => ?_, fun e he => ?_, fun e e' h1 h2 hne b hb1 hb2 => ?_, fun e k he hk hm => ?_⟩
 ·rcases hK.sl i with h | ⟨h, hok⟩
  ·rw [show (⟨τ.sl, τ.bx, ev'⟩ : St).sl i = .one .any from h]; trivial
  ·rw [hn.R0]
   show VR _ g' w' (τ.sl i) _
   have hs := hR.slots i
   rw [<- h] at hs
   exact qga hn.β hψ hrn hok hs
 ·by_cases hbW : b ∈ W
  ·rw [hn.β]; exact hW b hbW cs hb
  obtain ⟨hb1, hb2⟩ := hK.bx b cs hbW hb
  obtain ⟨vs, ty, k1, k2⟩ := hR.boxes b cs hb1
  have hne : τ.bx b ≠ none := by rw [show τ.bx b = some cs from hb]; simp
  have hnf := hβfp b hne
  exact ⟨vs, ty, by rw [hn.β, hkeep _ (hR.lt (hbne b hne)) (fun h => hnf (Or.inl h)) (fun k hk e => hbW (hR.inj b k (hbne b hne) (hK.bxW k hk).1 e ▸ hk))]; exact k1, zi5 hn.β hψ hrn hb2 k2⟩
 ·by_cases hee : τ.ev e = none
  ·obtain ⟨⟨k1, _, k0⟩, k2, k3, k4⟩ := hn.new e x hee he
   rw [k0]
   unfold zao at k2
   obtain ⟨ao, cap, j1, j2, j3, j4⟩ := k2
   refine ⟨ao, cap, j1, j2, j3, ?_⟩
   rcases j4 with j4 | ⟨b, cells, ty, fps, j4, j5, j6, j7, j8⟩
   ·exact Or.inl j4
   ·exact Or.inr ⟨b, cells, ty, fps, j4, j5, j6, j7, by rw [if_pos k1]; exact j8⟩
  ·obtain ⟨o1, o2, o3⟩ := hn.old e hee
   have hx : τ.ev e = some x := o1.symm.trans he
   obtain ⟨k1, k2, k3⟩ := hK.ev e x hx
   have hE := hR.evs e x k1 k2
   have hno := hφfp e ⟨x, hx, k2⟩
   have hl := hlt e ⟨x, k1, k2⟩
   have hkp : ∀ b ∈ g.φ e, w'.heap[b]? = w.heap[b]? := fun b hb => hkeep b (hl b hb) (fun h => hno b hb (Or.inl h)) fun k' hk' e => hR.ebx _ k' ⟨x, k1, k2⟩ (hK.bxW k' hk').1 (e ▸ hb)
   rw [o2, o3]
   obtain ⟨ao, cap, r1, r2, r3, r4⟩ := hE
   refine ⟨ao, cap, r1, r2, r3, ?_⟩
   rcases r4 with r4 | ⟨b, cells, ty, fps, r4, r5, r6, r7, r8⟩
   ·exact Or.inl r4
   ·rw [if_pos k3] at r8
    exact Or.inr ⟨b, cells, ty, fps, r4, r5, by rw [hkp b (by rw [r5]; simp)]; exact r6, r7, by rw [if_pos k3]; exact zah.keep cells 0 x.sz x.rows fps r8 fun b' hb' => hkp b' (by rw [r5]; simp [hb'])⟩
 ·by_cases hee : τ.ev e = none
  ·rw [(hn.new e x hee he).1.2.1] at ho; cases ho
  ·have hx : τ.ev e = some x := (hn.old e hee).1.symm.trans he
   rw [(hK.ev e x hx).2.1] at ho; cases ho
 ·rw [hn.A0, hn.R0]
  by_cases hee : τ.ev e = none
  ·obtain ⟨x, hx, _⟩ := he
   have := hNB b ((hn.new e x hee hx).2.2.1 b hb).1
   exact ⟨this.1, this.2.1⟩
  ·rw [(hn.old e hee).2.2] at hb
   exact hR.ebase e (hOnσ e (hon e he hee)) b hb
 ·by_cases hee : τ.ev e = none
  ·obtain ⟨x, hx, _⟩ := he
   exact (hNB b ((hn.new e x hee hx).2.2.1 b hb).1).2.2
  ·rw [(hn.old e hee).2.2] at hb
   exact hR.etop e (hOnσ e (hon e he hee)) b hb
 ·by_cases hee : τ.ev e = none
  ·obtain ⟨x, hx, _⟩ := he
   exact (hn.new e x hee hx).2.2.2
  ·rw [(hn.old e hee).2.2]
   exact hR.nodup e (hOnσ e (hon e he hee))
 ·by_cases hee : τ.ev e = none
  ·obtain ⟨x, hx, _⟩ := h1
   by_cases hee' : τ.ev e' = none
   ·obtain ⟨x', hx', _⟩ := h2
    exact hn.apart e e' hee hee' (by rw [show ev' e = some x from hx]; simp) (by rw [show ev' e' = some x' from hx']; simp) hne b hb1 hb2
   ·rw [(hn.old e' hee').2.2] at hb2
    exact hφfp e' (hon e' h2 hee') b hb2 ((hn.new e x hee hx).2.2.1 b hb1).1
  ·rw [(hn.old e hee).2.2] at hb1
   by_cases hee' : τ.ev e' = none
   ·obtain ⟨x', hx', _⟩ := h2
    exact hφfp e (hon e h1 hee) b hb1 ((hn.new e' x' hee' hx').2.2.1 b hb2).1
   ·rw [(hn.old e' hee').2.2] at hb2
    exact hR.apart e e' (hOnσ e (hon e h1 hee)) (hOnσ e' (hon e' h2 hee')) hne b hb1 hb2
 ·rw [hn.β] at hm
  by_cases hee : τ.ev e = none
  ·obtain ⟨x, hx, _⟩ := he
   exact hβfp k hk ((hn.new e x hee hx).2.2.1 _ hm).1
  ·rw [(hn.old e hee).2.2] at hm
   exact hR.ebx e k (hOnσ e (hon e he hee)) (hbne k hk) hm
def mtK (W : List Nat) : List AF -> List V -> (List V -> Prop) -> Prop
 | [], [], K => K []
 | .d _ _ :: l, v :: vs, K => mtK W l vs fun u => K (v :: u)
 | .p j :: l, .one (.bx b o) :: vs, K => W[j]? = some b /\ o = 0 /\ mtK W l vs K
 | .fn g js :: l, .one (.fn g' bs) :: vs, K => g' = g /\ js.map (fun j => W[j]?) = bs.map some /\ mtK W l vs K
 | _, _, _ => False
theorem qat {g : Gh} {W : List Nat} {bs : Nat -> Nat} (hb : ∀ j b, W[j]? = some b -> bs j = g.β b) : ∀ (js bs' : List Nat), js.map (fun j => W[j]?) = bs'.map some -> bs'.map (fun b => Value.pointer (some ⟨g.β b, 0, none⟩)) = js.map fun j => zjz (bs j)
 | [], [], _ => rfl
 | [], _ :: _, e => by cases e
 | _ :: _, [], e => by cases e
 | j :: js, b :: bs', e => by
  simp only [List.map_cons, List.cons.injEq] at e
  rw [List.map_cons, List.map_cons, qat hb js bs' e.2, hb j b e.1]
  rfl
theorem zgj {σ : St} {g : Gh} {w : World} {W : List Nat} {bs : Nat -> Nat} (hb : ∀ j b, W[j]? = some b -> bs j = g.β b) : ∀ {l : List AF} {xs : List V} {K : List V -> Prop} {vs : List Value}, mtK W l xs K -> VRl σ g w xs vs →
  ∃ us dvs, K us /\ VRl σ g w us dvs /\ dvs.length = (AF.ds l).length /\ vs = AF.vals bs l dvs
 | [], [], K, vs, h, hv => ⟨[], [], h, rfl, rfl, hv⟩
 | .d _ _ :: l, x :: xs, K, vs, h, hv => by
  obtain ⟨v, vs', rfl, h1, h2⟩ := hv
  obtain ⟨us, dvs, k1, k2, k3, k4⟩ := zgj hb (l := l) h h2
  exact ⟨x :: us, v :: dvs, k1, ⟨v, dvs, rfl, h1, k2⟩, by simp [AF.ds, k3], by rw [k4]; rfl⟩
 | .p j :: l, .one (.bx b o) :: xs, K, vs, h, hv => by
  obtain ⟨v, vs', rfl, h1, h2⟩ := hv
  obtain ⟨e1, rfl, h⟩ := h
  obtain ⟨us, dvs, k1, k2, k3, k4⟩ := zgj hb (l := l) h h2
  refine ⟨us, dvs, k1, k2, k3, ?_⟩
  have h1 : CR σ g w (.bx b 0) v := h1
  rw [k4, h1.1, <- hb j b e1]
  rfl
 | .fn f js :: l, .one (.fn f' bs') :: xs, K, vs, h, hv => by
  obtain ⟨v, vs', rfl, h1, h2⟩ := hv
  obtain ⟨rfl, e1, h⟩ := h
  obtain ⟨us, dvs, k1, k2, k3, k4⟩ := zgj hb (l := l) h h2
  refine ⟨us, dvs, k1, k2, k3, ?_⟩
  have h1 : CR σ g w (.fn f' bs') v := h1
  rw [k4, h1.1]
  rw [qat hb js bs' e1]
  rfl
 | .d _ _ :: _, [], _, _, h, _ => h.elim
 | .p _ :: _, [], _, _, h, _ => h.elim
 | .fn _ _ :: _, [], _, _, h, _ => h.elim
 | [], _ :: _, _, _, h, _ => h.elim
 | .p _ :: _, .agg _ :: _, _, _, h, _ => h.elim
 | .p _ :: _, .tup _ :: _, _, _, h, _ => h.elim
 | .fn _ _ :: _, .agg _ :: _, _, _, h, _ => h.elim
 | .fn _ _ :: _, .tup _ :: _, _, _, h, _ => h.elim
 | .p _ :: _, .one (.t _) :: _, _, _, h, _ => h.elim
 | .p _ :: _, .one (.nl _) :: _, _, _, h, _ => h.elim
 | .p _ :: _, .one (.ow _ _) :: _, _, _, h, _ => h.elim
 | .p _ :: _, .one (.el _ _) :: _, _, _, h, _ => h.elim
 | .p _ :: _, .one (.eo _ _ _ _ _) :: _, _, _, h, _ => h.elim
 | .p _ :: _, .one (.fn _ _) :: _, _, _, h, _ => h.elim
 | .p _ :: _, .one (.cv _) :: _, _, _, h, _ => h.elim
 | .p _ :: _, .one .any :: _, _, _, h, _ => h.elim
 | .p _ :: _, .one (.rn _) :: _, _, _, h, _ => h.elim
 | .p _ :: _, .one (.er _ _) :: _, _, _, h, _ => h.elim
 | .fn _ _ :: _, .one (.t _) :: _, _, _, h, _ => h.elim
 | .fn _ _ :: _, .one (.nl _) :: _, _, _, h, _ => h.elim
 | .fn _ _ :: _, .one (.ow _ _) :: _, _, _, h, _ => h.elim
 | .fn _ _ :: _, .one (.el _ _) :: _, _, _, h, _ => h.elim
 | .fn _ _ :: _, .one (.eo _ _ _ _ _) :: _, _, _, h, _ => h.elim
 | .fn _ _ :: _, .one (.bx _ _) :: _, _, _, h, _ => h.elim
 | .fn _ _ :: _, .one (.cv _) :: _, _, _, h, _ => h.elim
 | .fn _ _ :: _, .one .any :: _, _, _, h, _ => h.elim
 | .fn _ _ :: _, .one (.rn _) :: _, _, _, h, _ => h.elim
 | .fn _ _ :: _, .one (.er _ _) :: _, _, _, h, _ => h.elim
def qgl (σ : St) : List Nat -> Bxs -> (List V -> Prop) -> Prop
 | [], [], K => K []
 | k :: W, b :: bx, K => zan (σ.bx k) fun cs => cs.length = b.length /\ qgl σ W bx fun l => K (cs.map .one ++ l)
 | _, _, _ => False
theorem zkn {n0 : Nat -> Prop} {N : Nat} {σ : St} {g : Gh} {a : Act} {w : World} (hR : Rel n0 N σ g a w) {bs : Nat -> Nat} : ∀ {W : List Nat} {bx : Bxs} {j : Nat} {K : List V -> Prop}, (∀ i b, W[i]? = some b -> bs (j + i) = g.β b) -> qgl σ W bx K →
  ∃ l bvs, K l /\ VRl σ g w l bvs.flatten /\ zeg w bs j bvs bx /\ W.length = bx.length /\ ∀ b ∈ W, σ.bx b ≠ none
 | [], [], j, K, _, h => ⟨[], [], h, rfl, trivial, rfl, fun b hb => by simp at hb⟩
 | k :: W, b :: bx, j, K, hb, h => by
  obtain ⟨cs, h1, h2, h3⟩ := zal h
  obtain ⟨l, bvs, k1, k2, k3, k4, k5⟩ := zkn hR (W := W) (bx := bx) (j := j + 1) (fun i b hi => by have := hb (i + 1) b (by simpa using hi); rw [show j + (i + 1) = j + 1 + i by omega] at this; exact this) h3
  obtain ⟨us, ty, j1, j2⟩ := hR.boxes k cs h1
  have hk := hb 0 k rfl
  rw [Nat.add_zero] at hk
  refine ⟨_, us.toList :: bvs, k1, VRl.append j2.ones k2, ⟨by rw [j2.len, h2], ⟨ty, by rw [hk]; exact j1⟩, k3⟩, by simp [k4], fun x hx => ?_⟩
  rcases List.mem_cons.1 hx with rfl | hx
  ·rw [h1]; simp
  ·exact k5 x hx
 | [], _ :: _, _, _, _, h => h.elim
 | _ :: _, [], _, _, _, h => h.elim
theorem zv7 {σ : St} {K K' : List V -> Prop} (hK : ∀ l, K l -> K' l) : ∀ {W : List Nat} {bx : Bxs}, qgl σ W bx K -> qgl σ W bx K' := fun {W} => by
 induction W generalizing K K' with
 | nil => intro bx h; cases bx with
  | nil => exact hK _ h
  | cons _ _ => exact h.elim
 | cons k W ih => intro bx h; cases bx with
  | nil => exact h.elim
  | cons b bx =>
   obtain ⟨cs, h1, h2, h3⟩ := zal h
   show zan (σ.bx k) _
   rw [h1]
   exact ⟨h2, ih (fun l => hK _) h3⟩
theorem qcq {W : List Nat} : ∀ {l : List AF} {xs : List V} {K K' : List V -> Prop}, (∀ u, K u -> K' u) -> mtK W l xs K -> mtK W l xs K' := fun {l} => by
 induction l with
 | nil => intro xs K K' hK h; cases xs with
  | nil => exact hK _ h
  | cons _ _ => exact h.elim
 | cons a l ih => intro xs K K' hK h; cases xs with
  | nil => cases a <;> exact h.elim
  | cons x xs =>
   cases a with
   | d b y => exact ih (fun u => hK _) h
   | p j =>
    cases x with
    | one c => cases c <;> first | exact h.elim | exact ⟨h.1, h.2.1, ih hK h.2.2⟩
    | agg _ => exact h.elim
    | tup _ => exact h.elim
   | fn g js =>
    cases x with
    | one c => cases c <;> first | exact h.elim | exact ⟨h.1, h.2.1, ih hK h.2.2⟩
    | agg _ => exact h.elim
    | tup _ => exact h.elim
def zia (d : Nat) : Nat -> List Nat -> Bxs -> (Nat -> Option (List C)) -> (Nat -> Option (List C))
 | m, k :: W, b :: bx, f => upd (zia d (m + b.length) W bx f) k (some (mC d m b))
 | _, _, _, f => f
theorem ztz (d : Nat) : ∀ (W : List Nat) (bx : Bxs) (m : Nat) (f : Nat -> Option (List C)) (b : Nat), b ∉ W -> zia d m W bx f b = f b
 | [], _, _, _, _, _ => by unfold zia; rfl
 | k :: W, [], _, _, _, _ => by unfold zia; rfl
 | k :: W, c :: bx, m, f, b, hb => by
  unfold zia
  rw [zak _ _ (fun e => hb (by simp [e]))]
  exact ztz d W bx _ f b fun h => hb (by simp [h])
theorem zxn (d : Nat) : ∀ (W : List Nat) (bx : Bxs) (m : Nat) (f : Nat -> Option (List C)) (b : Nat), W.length = bx.length -> b ∈ W -> zia d m W bx f b ≠ none
 | [], _, _, _, _, _, hb => by simp at hb
 | k :: W, [], _, _, _, hl, _ => by simp at hl
 | k :: W, c :: bx, m, f, b, hl, hb => by
  unfold zia
  by_cases h : b = k
  ·subst h; rw [zag]; simp
  ·rw [zak _ _ h]
   exact zxn d W bx _ f b (by simpa using hl) ((List.mem_cons.1 hb).resolve_left h)
theorem zkz {σ : St} {g : Gh} {w : World} {bs : Nat -> Nat} (d : Nat) {β : Nat -> Nat} : ∀ (W : List Nat) (bx : Bxs) (bvs : List (List Value)) (j m : Nat) (f : Nat -> Option (List C)), (∀ i b, W[i]? = some b -> bs (j + i) = β b) -> zeg w bs j bvs bx -> CRs σ g w (mC d m bx.flatten) bvs.flatten -> W.length = bx.length →
  ∀ b ∈ W, ∀ cs, zia d m W bx f b = some cs -> ∃ vs ty, w.heap[β b]? = some (.cells vs ty (0, 0)) /\ CRs σ g w cs vs.toList
 | [], _, _, _, _, _, _, _, _, _, b, hb, _, _ => by simp at hb
 | k :: W, [], _, _, _, _, _, _, _, hl, _, _, _, _ => by simp at hl
 | k :: W, c :: bx, [], _, _, _, _, h0, _, _, _, _, _, _ => h0.elim
 | k :: W, c :: bx, vs :: bvs, j, m, f, hβ, h0, hc, hl, b, hb, cs, hs => by
  obtain ⟨h1, ⟨ty, h2⟩, h3⟩ := h0
  rw [List.flatten_cons, List.flatten_cons, zer] at hc
  obtain ⟨v1, v2, e, c1, c2⟩ := hc.split
  obtain ⟨e1, e2⟩ := List.append_inj e (by rw [c1.len, zm5, h1])
  subst e1 e2
  unfold zia at hs
  by_cases h : b = k
  ·subst h
   rw [zag] at hs
   cases hs
   have := hβ 0 b rfl
   rw [Nat.add_zero] at this
   exact ⟨⟨vs⟩, ty, by rw [<- this]; exact h2, c1⟩
  ·rw [zak _ _ h] at hs
   exact zkz d W bx bvs (j + 1) (m + c.length) f (fun i b hi => by have := hβ (i + 1) b (by simpa using hi); rw [show j + (i + 1) = j + 1 + i by omega] at this; exact this) h3 c2 (by simpa using hl) b ((List.mem_cons.1 hb).resolve_left h) cs hs
def St.callP (σ : St) (d : Nat) (W : List Nat) (bx' : Bxs) (res : List (Bool × D)) : St := { sl := upd σ.sl d (zqp (mD d 0 res)), bx := zia d (zbv res).length W bx' σ.bx, ev := mE d 0 (zbv res ++ bx'.flatten) σ.ev }
theorem CRs.split_flat {σ : St} {g : Gh} {w w' : World} {A : Nat -> Prop} {d m : Nat} {l : List (Bool × T)} {c : Bxs} {us vs : List Value} (h : CRs σ g w (mC d 0 (l ++ c.flatten)) (us ++ vs)) (hl : us.length = l.length) : CRs σ g w (mC d 0 l) us /\ CRs σ g w (mC d l.length c.flatten) vs := by
 rw [zer] at h
 obtain ⟨v1, v2, e, c1, c2⟩ := h.split
 obtain ⟨e1, e2⟩ := List.append_inj e (by rw [c1.len, zm5, hl])
 subst e1 e2
 rw [Nat.zero_add] at c2
 exact ⟨c1, c2⟩
theorem zar.one_vals {w : World} {A : Nat -> Prop} : ∀ {ds : List (Bool × D)} {vs : List Value} {fp tp : List Nat}, zar w A ds vs fp tp -> (vs.flatMap fun u => u.cells.toList).length = (zbv ds).length := fun {ds vs fp tp} h => by
 obtain ⟨tp', h'⟩ := h.flat
 rw [zar.len h']
 unfold bxA
 rw [List.length_map]
theorem qag {W : List Nat} {o : Oper} {σ : St} {τs : Nat -> V} {τe : Nat -> Option Ev} {τb : Nat -> Option (List C)} {x : Operand} {asx : Array Operand} {ts : Array TypeId} {f : FuncId} {cvs : List V} {d : Nat} {bx bx' : Bxs} {l : List AF} {res : List (Bool × D)} {ps : List (Nat × Nat × Nat)} (ho : o.op = .call ⟨.value x, asx, ts⟩) (hd : o.dst = some d)
  (h : PC P f bx l bx' res) (hc : zav (σ.get P 0 x) = some (f, cvs)) (hK : KeptB W σ ⟨τs, zia d (zbv res).length W bx' τb, τe⟩) (hWn : W.Nodup)
  (hv : mtK W l (σ.gets P asx ts ++ cvs) fun us => qgl σ W bx fun cs => gvA σ (fun u => ∀ s ∈ u, τe s.1 = none) [] ps (us ++ cs) (AF.ds l ++ bxA bx.flatten)) (hf : mF d 0 (zbv res ++ bx'.flatten) τe) : zae P o σ (St.callP ⟨τs, τb, τe⟩ d W bx' res) := by
 intro n0 N g a w hR hn hdN
 obtain ⟨vs, h1, h2⟩ := zct hR ho hc h.1
 unfold Oper.wp
 rw [h1]
 obtain ⟨B, hB⟩ := hR.fam
 let bs : Nat -> Nat := fun j => g.β (W.getD j 0)
 have hbs : ∀ j b, W[j]? = some b -> bs j = g.β b := fun j b hj => by show g.β (W.getD j 0) = _; rw [List.getD_eq_getElem?_getD, hj]; rfl
 obtain ⟨us, dvs, a1, a2, a3, rfl⟩ := zgj hbs hv h2
 obtain ⟨cs, bvs, b1, b2, b3, b4, b5⟩ := zkn hR (bs := bs) (j := 0) (fun i b hi => by rw [Nat.zero_add]; exact hbs i b hi) a1
 obtain ⟨s, k1, ⟨tp, k2⟩, k3, k4⟩ := ze2 hR hB b1 (VRl.append a2 b2)
 rw [List.append_nil] at k1 k4
 have hsp : s.Pairwise okP := (List.pairwise_reverse.1 (k4 List.Pairwise.nil)).imp fun h => h.symm
 have hnd := zdq hR hB k3 hsp
 have hfp : ∀ b ∈ bks B s, ∃ e, σ.On e /\ τe e = none /\ b ∈ g.φ e := fun b hb => by
  obtain ⟨x, hx, hm⟩ := List.mem_flatMap.1 hb
  exact ⟨x.1, k3 x hx, k1 x (List.mem_reverse.2 hx), hB.sub x.1 x.2 b (k3 x hx) hm⟩
 have hfn : ∀ b, zb0 σ g w b -> b ∉ bks B s := fun b hb hm => by obtain ⟨e, h1, _, h3⟩ := hfp b hm; exact hb.2 e h1 h3
 have hWj : ∀ j, j < bx.length -> ∃ b, W[j]? = some b /\ b ∈ W /\ bs j = g.β b := fun j hj => by
  have hlt : j < W.length := by omega
  exact ⟨W[j], List.getElem?_eq_getElem hlt, List.getElem_mem hlt, hbs j _ (List.getElem?_eq_getElem hlt)⟩
 have hWb : ∀ b ∈ W, ∃ j, j < bx.length /\ bs j = g.β b := fun b hb => by
  obtain ⟨j, hj, rfl⟩ := List.getElem_of_mem hb
  exact ⟨j, by omega, hbs j _ (List.getElem?_eq_getElem hj)⟩
 have hinj : ∀ i j, i < bx.length -> j < bx.length -> bs i = bs j -> i = j := fun i j hi hj he => by
  obtain ⟨b, e1, e2, e3⟩ := hWj i hi
  obtain ⟨c, f1, f2, f3⟩ := hWj j hj
  have : b = c := hR.inj b c (b5 b e2) (b5 c f2) (by rw [<- e3, <- f3]; exact he)
  subst this
  have hi' : i < W.length := by omega
  have hj' : j < W.length := by omega
  rw [List.getElem?_eq_getElem hi'] at e1
  rw [List.getElem?_eq_getElem hj'] at f1
  exact (List.getElem_inj hWn).1 ((Option.some.inj e1).trans (Option.some.inj f1).symm)
 have hbf : ∀ j, j < bx.length -> bs j ∉ bks B s := fun j hj hm => by
  obtain ⟨b, _, e2, e3⟩ := hWj j hj
  obtain ⟨e, h1, _, h3⟩ := hfp _ hm
  exact hR.ebx e b h1 (b5 b e2) (e3 ▸ h3)
 have hfb : ∀ b, zb0 σ g w b -> ∀ j, j < bx.length -> b ≠ bs j := fun b hb j hj e => by
  obtain ⟨c, _, e2, e3⟩ := hWj j hj
  exact hb.1.1 c (b5 c e2) (by rw [<- e3, e])
 refine (h.2.2 w bs bvs dvs (bks B s) tp (zb0 σ g w) hinj hbf b3 (zar.keepA (fun b hb => ⟨⟨hb.1.2.2.1, hfn b hb, hfb b hb⟩, hb⟩) k2) hnd a3).mono ?_
 rintro e w' ⟨us', bvs', fp', tp', rfl, hbx', hlu, o1, o2, o3, hbk⟩
 obtain ⟨v1, v2, f1, f2, t1, t2, ev, ef, et, p1, p2⟩ := zar.split o1
 obtain ⟨rfl, rfl⟩ := List.append_inj ev (by rw [hlu, zar.len p1])
 subst ef
 obtain ⟨t1', p1'⟩ := p1.flat
 have pp := zar.append p1' p2
 rw [<- zcv] at pp
 have hnew := New.refl ⟨τs, zia d (zbv res).length W bx' τb, τe⟩ g (fun b => b ∈ bks B s \/ w.heap.size <= b) w' hR.slc
 obtain ⟨g', q1, q2, q3⟩ := New.mix (τ := ⟨τs, zia d (zbv res).length W bx' τb, τe⟩) (g := g) (NB := fun b => b ∈ bks B s \/ w.heap.size <= b) (w' := w') d (zbv res ++ bx'.flatten) _ (f1 ++ f2) _ 0 τe g [] hnew hf pp o2 (fun b hb' => ⟨o3 b hb', by simp⟩)
 have hbk' : Bk (fun k => k < w.heap.size /\ k ∉ bks B s /\ ∀ b ∈ W, k ≠ g.β b) w w' := ⟨hbk.os, hbk.tape, hbk.output, hbk.size, fun k hk => hbk.block k ⟨hk.1, hk.2.1, fun j hj e => by
  obtain ⟨c, _, e2, e3⟩ := hWj j hj
  exact hk.2.2 c e2 (by rw [<- e3, e])⟩⟩
 have hfree : ∀ k, ((k < w'.heap.size /\ k ∉ f1 ++ f2 /\ ∀ j, j < bx.length -> k ≠ bs j) /\ (zb0 σ g w k \/ w.heap.size <= k \/ k ∈ bks B s)) -> zb0 ⟨τs, zia d (zbv res).length W bx' τb, mE d 0 (zbv res ++ bx'.flatten) τe⟩ g' w' k := fun k hk => by
  have hOnσ : ∀ e, St.On ⟨τs, zia d (zbv res).length W bx' τb, τe⟩ e -> σ.On e := fun e ⟨x, hx, ho⟩ => ⟨x, (hK.ev e x hx).1, ho⟩
  have hno : ∀ e, St.On ⟨τs, zia d (zbv res).length W bx' τb, mE d 0 (zbv res ++ bx'.flatten) τe⟩ e -> k ∉ g'.φ e := fun e ho' hm => by
   by_cases hee : τe e = none
   ·obtain ⟨x, hx, _⟩ := ho'
    have := ((q1.new e x hee hx).2.2.1 k hm).2
    rw [List.nil_append] at this
    exact hk.1.2.1 this
   ·rw [(q1.old e hee).2.2] at hm
    obtain ⟨x, hx, hon⟩ := ho'
    have ho2 : St.On ⟨τs, zia d (zbv res).length W bx' τb, τe⟩ e := ⟨x, (q1.old e hee).1.symm.trans hx, hon⟩
    rcases hk.2 with h | h | h
    ·exact h.2 e (hOnσ e ho2) hm
    ·obtain ⟨y, hy, hyo⟩ := hOnσ e ho2
     have := (hR.evs e y hy hyo).lt k hm; omega
    ·obtain ⟨e', h1, h2, h3⟩ := hfp k h
     refine hR.apart e e' (hOnσ e ho2) h1 (fun ee => ?_) k hm h3
     subst ee
     obtain ⟨y, hy, _⟩ := ho2
     have hy : τe e = some y := hy
     rw [h2] at hy; cases hy
  have hbne : ∀ b, zia d (zbv res).length W bx' τb b ≠ none -> σ.bx b ≠ none := fun b hb => by
   by_cases hbW : b ∈ W
   ·exact (hK.bxW b hbW).1
   obtain ⟨cs, hcs⟩ := Option.ne_none_iff_exists'.1 hb
   rw [(hK.bx b cs hbW hcs).1]; simp
  refine ⟨⟨fun j hj e => ?_, fun e x hx hon hh => hno e ⟨x, hx, hon⟩ (List.mem_of_mem_head? hh), hk.1.1, ?_⟩, hno⟩
  ·have hj' := hbne j hj
   rw [q1.β] at e
   rcases hk.2 with h | h | h
   ·exact h.1.1 j hj' e
   ·have := hR.lt hj'; omega
   ·obtain ⟨e', h1, _, h3⟩ := hfp k h
    exact hR.ebx e' j h1 hj' (e ▸ h3)
  ·rw [q1.A0]
   rcases hk.2 with h | h | h
   ·exact h.1.2.2.2
   ·exact (hR.anew k (hn.new h)).1
   ·obtain ⟨e', h1, _, h3⟩ := hfp k h
    exact (hR.ebase e' h1 k h3).1
 have hcr := q3 ⟨τs, zia d (zbv res).length W bx' τb, mE d 0 (zbv res ++ bx'.flatten) τe⟩ w' rfl fun t v h => zai.keep (fun _ _ => rfl) hfree t v h
 obtain ⟨hc1, hc2⟩ := hcr.split_flat (A := fun _ => True) (w' := w') (m := 0) (zar.one_vals p1)
 have hR' := hR.givenB hn hK (fun b hb => by obtain ⟨e, x1, x2, x3⟩ := hfp b hb; exact ⟨e, x1, x2, x3⟩) hbk' q1 (zkz d W bx' bvs' 0 (zbv res).length τb (fun i b hi => by rw [Nat.zero_add]; exact hbs i b hi) hbx' hc2 (by rw [h.2.1]; omega))
 have hBk : Bk n0 w w' := ⟨hbk.os, hbk.tape, hbk.output, hbk.size, fun k hk => hbk.block k ⟨hn k hk, fun hm => by
  obtain ⟨e, h1, _, h3⟩ := hfp k hm
  exact hR.etop e h1 k h3 hk, fun j hj e => by
  obtain ⟨c, _, e2, e3⟩ := hWj j hj
  exact hR.base c (b5 c e2) (by rw [<- e3, <- e]; exact hk)⟩⟩
 refine ⟨g', ?_, hBk, q1.A0, q1.R0⟩
 have hp := hR'.put (some d) (x := zqp (mD d 0 res)) (v := zbz us') (zep (zy2 d 0 p1 hc1) (zx0 d res 0)) (fun i hi => by cases hi; exact hdN d hd)
 rw [hd]
 exact hp
end Go.Proofs.YtmhbmpbgpjljeaaGreat
namespace Go.Proofs.YtmhbmpbgpjljeaaGreat
set_option linter.unusedSimpArgs false
set_option linter.unusedVariables false
set_option linter.unusedSectionVars false
set_option maxRecDepth 4000
open Go.RowKit
variable {P : Program}
def subN : List Nat -> List Nat -> Prop
 | [], _ => True
 | x :: xs, l => noK x l = false /\ subN xs l
theorem zyh : ∀ {x : Nat} {l : List Nat}, noK x l = false -> x ∈ l
 | _, [], h => by cases h
 | x, y :: l, h => by
  unfold noK at h
  by_cases e : x = y
  ·simp [e]
  ·rw [if_neg e] at h; exact List.mem_cons_of_mem _ (zyh h)
theorem zid : ∀ {xs l : List Nat}, subN xs l -> ∀ x ∈ xs, x ∈ l
 | [], _, _, x, hx => by simp at hx
 | y :: xs, l, h, x, hx => by
  rcases List.mem_cons.1 hx with rfl | hx
  ·exact zyh h.1
  ·exact zid h.2 x hx
theorem zik {σ : St} : ∀ (L : List Nat) (i : Nat), (i ∈ L -> ze6 (σ.lL L) i = σ.sl i) /\ (i ∉ L -> ze6 (σ.lL L) i = .one .any)
 | [], i => ⟨fun h => by simp at h, fun _ => rfl⟩
 | j :: L, i => by
  show (_ -> (if i = j then σ.sl j else ze6 (σ.lL L) i) = _) /\ (_ -> (if i = j then σ.sl j else ze6 (σ.lL L) i) = _)
  by_cases h : i = j
  ·subst h; rw [if_pos rfl]; exact ⟨fun _ => rfl, fun h => by simp at h⟩
  ·rw [if_neg h]
   exact ⟨fun hm => (zik L i).1 ((List.mem_cons.1 hm).resolve_left h), fun hm => (zik L i).2 fun h' => hm (List.mem_cons_of_mem _ h')⟩
theorem zdx {α : Type} (f : Nat -> α) : ∀ (L : List Nat) (i : Nat), (i ∈ L -> tbl (L.map fun b => (b, f b)) i = some (f i)) /\ (i ∉ L -> tbl (L.map fun b => (b, f b)) i = none)
 | [], i => ⟨fun h => by simp at h, fun _ => rfl⟩
 | j :: L, i => by
  show (_ -> (if i = j then some (f j) else tbl (L.map fun b => (b, f b)) i) = _) /\ (_ -> (if i = j then some (f j) else tbl (L.map fun b => (b, f b)) i) = _)
  by_cases h : i = j
  ·subst h; rw [if_pos rfl]; exact ⟨fun _ => rfl, fun h => by simp at h⟩
  ·rw [if_neg h]
   exact ⟨fun hm => (zdx f L i).1 ((List.mem_cons.1 hm).resolve_left h), fun hm => (zdx f L i).2 fun h' => hm (List.mem_cons_of_mem _ h')⟩
def blank (W : List Nat) (f : Nat -> Option (List C)) : Nat -> Option (List C)
 | b => if noK b W = true then f b else some []
theorem qb7 (W : List Nat) (f : Nat -> Option (List C)) (b : Nat) : blank W f b = if noK b W = true then f b else some [] := rfl
def St.wB (σ : St) (W : List Nat) : St := ⟨σ.sl, blank W σ.bx, σ.ev⟩
def St.BW (σ : St) (L W : List Nat) : List Nat := dif W ((σ.wB W).KB L)
def St.EW (σ : St) (L W : List Nat) : List Nat := (σ.wB W).KE L
def St.hW (σ : St) (L W : List Nat) : St := ⟨ze6 (σ.lL L), tbl (σ.lB (σ.BW L W)), tbl (σ.lE (σ.EW L W))⟩
section
variable {ks : List Fr} {Q : Exit -> St -> Prop} {σ : St} {ops : Array Oper} {os : List Oper} {ty : TypeId} {ps : String} {af : Array Edge} {d : Nat} {x : Operand} {asx : Array Operand} {ts : Array TypeId} {f : FuncId} {bx bx' : Bxs} {l : List AF} {res : List (Bool × D)}
theorem zr3 (L A W : List Nat) (pl : List (Nat × Nat × Nat)) (h : PC P f bx l bx' res) (hWn : W.Nodup) (hWl : W.length = bx'.length) (hw : wkK σ (A ++ L))
  (hk : subN (σ.BW L W) (σ.KB (A ++ L)) /\ subN W (σ.KB (A ++ L)) /\ subN (σ.EW L W) (σ.KE (A ++ L)) /\ okL ⟨ze6 (σ.lL L), zia d (zbv res).length W bx' (tbl (σ.lB (σ.BW L W))), tbl (σ.lE (σ.EW L W))⟩ (σ.lL L) /\ okB ⟨ze6 (σ.lL L), zia d (zbv res).length W bx' (tbl (σ.lB (σ.BW L W))), tbl (σ.lE (σ.EW L W))⟩ (σ.lB (σ.BW L W)) /\ okE (σ.lE (σ.EW L W)))
  (hp : zan (zav ((σ.hL (A ++ L)).get P 0 x)) fun p => p.1 = f /\ mtK W l ((σ.hL (A ++ L)).gets P asx ts ++ p.2) fun us => qgl (σ.hL (A ++ L)) W bx fun cs => gvA (σ.hL (A ++ L)) (zvj (σ.lE (σ.EW L W))) [] pl (us ++ cs) (AF.ds l ++ bxA bx.flatten))
  (hf : mF d 0 (zbv res ++ bx'.flatten) (tbl (σ.lE (σ.EW L W))))
  (k : exo P ops os ks Q ((σ.hW L W).callP d W bx' res)) : exo P ops (⟨some d, .call ⟨.value x, asx, ts⟩, ty, ps, af, none⟩ :: os) ks Q σ := by
 obtain ⟨⟨f', cvs⟩, h1, rfl, h2⟩ := zal hp
 obtain ⟨k1, k2, k3, k4, k5, k6⟩ := hk
 have hK : KeptB W (σ.hL (A ++ L)) ⟨ze6 (σ.lL L), zia d (zbv res).length W bx' (tbl (σ.lB (σ.BW L W))), tbl (σ.lE (σ.EW L W))⟩ := by
  refine ⟨fun i => ?_, fun b cs hb hcs => ?_, fun b hb => ⟨?_, zxn d W bx' _ _ b hWl hb⟩, fun e x he => ?_⟩
  ·by_cases hi : i ∈ L
   ·refine Or.inr ⟨?_, zqc k4 i⟩
    show ze6 (σ.lL L) i = ze6 (σ.lL (A ++ L)) i
    rw [(zik L i).1 hi, (zik (A ++ L) i).1 (List.mem_append_right _ hi)]
   ·exact Or.inl ((zik L i).2 hi)
  ·have hcs : zia d (zbv res).length W bx' (tbl (σ.lB (σ.BW L W))) b = some cs := hcs
   rw [ztz d W bx' _ _ b hb] at hcs
   by_cases hm : b ∈ σ.BW L W
   ·refine ⟨?_, zqt k5 b cs hcs⟩
    have e1 := (zdx (fun b => (σ.bx b).getD []) (σ.BW L W) b).1 hm
    have e2 := (zdx (fun b => (σ.bx b).getD []) (σ.KB (A ++ L)) b).1 (zid k1 b hm)
    have e1 : tbl (σ.lB (σ.BW L W)) b = some ((σ.bx b).getD []) := e1
    rw [e1] at hcs
    cases hcs
    exact e2
   ·have e1 := (zdx (fun b => (σ.bx b).getD []) (σ.BW L W) b).2 hm
    have e1 : tbl (σ.lB (σ.BW L W)) b = none := e1
    rw [e1] at hcs; cases hcs
  ·have e2 := (zdx (fun b => (σ.bx b).getD []) (σ.KB (A ++ L)) b).1 (zid k2 b hb)
   have e2 : (σ.hL (A ++ L)).bx b = some ((σ.bx b).getD []) := e2
   rw [e2]; simp
  ·have he : tbl (σ.lE (σ.EW L W)) e = some x := he
   by_cases hm : e ∈ σ.EW L W
   ·refine ⟨?_, zpl k6 e x he⟩
    have e1 := (zdx (fun e => (σ.ev e).getD ⟨false, 0, [], 0, false⟩) (σ.EW L W) e).1 hm
    have e2 := (zdx (fun e => (σ.ev e).getD ⟨false, 0, [], 0, false⟩) (σ.KE (A ++ L)) e).1 (zid k3 e hm)
    have e1 : tbl (σ.lE (σ.EW L W)) e = some ((σ.ev e).getD ⟨false, 0, [], 0, false⟩) := e1
    rw [e1] at he
    cases he
    exact e2
   ·have e1 := (zdx (fun e => (σ.ev e).getD ⟨false, 0, [], 0, false⟩) (σ.EW L W) e).2 hm
    have e1 : tbl (σ.lE (σ.EW L W)) e = none := e1
    rw [e1] at he; cases he
 refine zce rfl rfl (zae.pre (wkK_wk hw) (qag (P := P) (o := ⟨some d, .call ⟨.value x, asx, ts⟩, ty, ps, af, none⟩) rfl rfl h h1 hK hWn (ps := pl) ?_ hf)) k
 exact qcq (fun us hu => zv7 (fun cs hc => zf1 (fun u hu => zjq hu) hc) hu) h2
end
def zve : Option (Nat × Ev × List (Nat × Ev)) -> List Ky
 | some (e, _, _) => [(2, e)]
 | none => []
def stoW : Option (Nat × Ev × List (Nat × Ev)) -> List (Nat × Ev)
 | some (e, y, cons) => (e, y) :: zsr cons
 | none => []
theorem qc9 {σ σ1 : St} {t : TypeId} {x y : Operand} (h : ∀ k ∈ zaq [x, y] ++ (rK [(σ.get P t y).cells] ++ zve (zph P σ t x y)), zaw σ σ1 k) {r : Nat × Ev × List (Nat × Ev)} (hr : zph P σ t x y = some r) : zph P σ1 t x y = some r := by
 have e1 : σ1.get P 0 x = σ.get P 0 x := zcb (l := [x, y]) (fun k hk => h k (by simp [hk])) (by simp) 0
 have e2 : σ1.get P t y = σ.get P t y := zcb (l := [x, y]) (fun k hk => h k (by simp [hk])) (by simp) t
 have e3 : zse σ1 (σ.get P t y).cells = zse σ (σ.get P t y).cells := zl7 fun k hk => h k (by simp [rK, hk])
 rw [hr] at h
 rw [<- hr]
 unfold zph at hr ⊢
 rw [e1, e2]
 split at hr
 ·rename_i e g sz i o hx
  obtain ⟨z, hz, hr⟩ := Option.bind_eq_some_iff.1 hr
  obtain ⟨n, hn, hr⟩ := Option.bind_eq_some_iff.1 hr
  split at hr
  ·obtain ⟨q, _, hr⟩ := Option.map_eq_some_iff.1 hr
   subst hr
   have e4 : σ1.ev e = σ.ev e := Eq.symm (h (2, e) (by simp [zve]))
   simp only [e4, e3]
  ·cases hr
 ·cases hr
section
variable {ks : List Fr} {Q : Exit -> St -> Prop} {σ : St} {ops : Array Oper} {os : List Oper} {L : List (List Ky × List Ky)} {ty : TypeId} {ps : String} {af : Array Edge} {ds : Option Nat} {x y : Operand} {t : TypeId}
theorem qcd (r : Option (Nat × Ev × List (Nat × Ev))) : okK (zve r) = true := by
 cases r with
 | none => rfl
 | some r => rfl
theorem qi2 (h : zan (zph P σ t x y) fun r => (r.2.2.map (·.1)).Nodup /\ ∀ p ∈ r.2.2, p.1 ≠ r.1)
  (k : exd P ops os (L ++ [(zaq [x, y] ++ (rK [(σ.get P t y).cells] ++ zve (zph P σ t x y)), dK ds ++ eK (stoW (zph P σ t x y)))]) ks Q ((σ.apdO (zph P σ t x y)).put ds (.one .any))) : exdS P ops ⟨ds, .store t x y, ty, ps, af, none⟩ os L ks Q σ := by
 obtain ⟨⟨e, z, cons⟩, h1, h2, h3⟩ := zal h
 refine ⟨_, _, _, ?_, k⟩
 have hloc : ∀ σ1, (∀ k ∈ zaq [x, y] ++ (rK [(σ.get P t y).cells] ++ zve (zph P σ t x y)), zaw σ σ1 k) -> zph P σ1 t x y = some (e, z, cons) := fun σ1 hs => qc9 hs h1
 rw [h1]
 show zh3 P _ _ (dK ds ++ eK ((e, z) :: zsr cons)) σ ((σ.apd e cons z).put ds _)
 rw [zc9]
 rw [h1] at hloc
 refine zh3.of (o := ⟨ds, _, ty, ps, af, none⟩) (l := (e, z) :: zsr cons) (zbd (zbq _) (zbd (zxh _) (qcd _))) fun σ1 hs => ?_
 have hh := hloc σ1 hs
 have hs2 := zt7 (σ := σ1) (ty := ty) (ps := ps) (af := af) (ds := ds) (x := x) (y := y) (t := t) (P := P) (by rw [hh]; exact ⟨h2, h3⟩)
 rw [hh] at hs2
 have hs2 : zae P ⟨ds, .store t x y, ty, ps, af, none⟩ σ1 ((σ1.apd e cons z).put ds (.one .any)) := hs2
 rw [zc9] at hs2
 exact hs2
end
attribute [go_sem] zve stoW AF.ds c1P zsl zja zcc zg7 zf9 bxE PB PB0 mtK qgl zia St.callP subN qb7 St.wB St.BW St.EW St.hW bxA List.flatten_cons List.flatten_nil
end Go.Proofs.YtmhbmpbgpjljeaaGreat
namespace Go.Proofs.YtmhbmpbgpjljeaaGreat
set_option linter.unusedSimpArgs false
set_option linter.unusedVariables false
set_option linter.unusedSectionVars false
set_option maxRecDepth 4000
open Go.RowKit
variable {P : Program}
section
variable {ks : List Fr} {Q : Exit -> St -> Prop} {σ : St} {ops : Array Oper} {os : List Oper} {L : List (List Ky × List Ky)} {ty : TypeId} {ps : String} {af : Array Edge} {d : Nat} {x : Operand} {asx : Array Operand} {ts : Array TypeId} {f : FuncId} {bx bx' : Bxs} {l : List AF} {res : List (Bool × D)}
theorem zov {ds0 res0 : List D} {gR : List Ky} (h : FC P f ds0 res0) (hp : zan (zav (σ.get P 0 x)) fun p => p.1 = f /\ VDs σ (σ.gets P asx ts ++ p.2) ds0 /\ zgr d 0 (za0 res0) σ.ev)
  (k : exd P ops os (L ++ [(gR ++ (zaq (x :: asx.toList) ++ (vsK σ (σ.gets P asx ts ++ qhz (zav (σ.get P 0 x))) ++ eK (owL d 0 (za0 res0)))), dK (some d) ++ eK (owL d 0 (za0 res0)))]) ks Q (σ.callF d res0)) :
  zpg P ops ⟨some d, .call ⟨.value x, asx, ts⟩, ty, ps, af, none⟩ os L gR ks Q σ := by
 obtain ⟨⟨f', cvs⟩, h1, rfl, h2, h3⟩ := zal hp
 rw [h1] at k
 exact qhm _ _ _ _ _ _ rfl (zni rfl rfl h h1 h2 h3) k
end
end Go.Proofs.YtmhbmpbgpjljeaaGreat
namespace Go.Proofs.YtmhbmpbgpjljeaaGreat
set_option linter.unusedSimpArgs false
set_option linter.unusedVariables false
set_option linter.unusedSectionVars false
set_option maxRecDepth 4000
open Go.RowKit
variable {P : Program}
def zs5 (ops : Array Oper) (L : List (List Ky × List Ky)) (m : Nat) : Bool :=
 let b := Region.before ops
 decide (m <= ops.size) && (List.range ops.size).all fun j =>
  ((ops.getD j default).after.all fun e => !Region.binds .any e || decide (e.on < j)) &&
  ((List.range ops.size).all fun i => !(b.getD j 0).testBit i || (ops.getD j default).after.any fun e => Region.binds .any e && (e.on == i || (b.getD e.on 0).testBit i)) &&
  ((List.range j).all fun i => (decide (i = 0) && decide (m <= j)) || ((b.getD j 0).testBit i || (decide (j < m) && ((L.getD i ([], [])).2.all fun k => !(L.getD j ([], [])).1.contains k && !(L.getD j ([], [])).2.contains k) && (L.getD i ([], [])).1.all fun k => !(L.getD j ([], [])).2.contains k)))
theorem zvi {ops : Array Oper} {σs : Nat -> St} {L : List (List Ky × List Ky)} {n0 : Nat -> Prop} {N : Nat} {w0 : World} {A0 : (Nat -> Prop) × RP} {Q : Exit -> Act -> World -> Prop} {K : St -> Prop} {m : Nat}
  (hm0 : 0 < m) (hL : ∀ i (h : i < ops.size), i < m -> Loc P ops ops[i] (L.getD i ([], [])).1 (L.getD i ([], [])).2 (σs i) (σs (i + 1))) (hord : zs5 ops L m = true) (hdst : ∀ o ∈ ops, ∀ d, o.dst = some d -> d < N)
  (hT : zbc P ops (ops.toList.drop m) (σs m) K) (hQ : ∀ σ g a w, K σ -> Rel n0 N σ g a w -> LtK n0 w -> Bk n0 w0 w -> (g.A0, g.R0) = A0 -> Q .normal a w) :
  ∀ (fuel : Nat) (listed : Array Bool) (g : Gh) (a : Act) (w : World), listed.size = ops.size -> cnt (fun i => listed.getD i false) ops.size = fuel →
   (∀ j (h : j < ops.size), listed.getD j false = true -> ∀ e ∈ ops[j].after, Region.binds .any e = true -> listed.getD e.on false = true) -> (∀ j, m <= j -> listed.getD j false = false) -> listed.getD 0 false = true →
   Rel n0 N (Fp σs (fun i => L.getD i ([], [])) (fun i => listed.getD i false) m) g a w -> LtK n0 w -> Bk n0 w0 w -> (g.A0, g.R0) = A0 -> wpAny P .any ops Q fuel listed a w := by
 have hget : ∀ j (h : j < ops.size), ops.getD j default = ops[j] := fun j h => by simp [Array.getD, h]
 unfold zs5 at hord
 rw [Bool.and_eq_true] at hord
 obtain ⟨hm, hord⟩ := hord
 have hm : m <= ops.size := by simpa using hm
 have hok : ∀ i, i < m -> okK (L.getD i ([], [])).2 = true := fun i h => (hL i (by omega) h).1
 have hRk : ∀ i, i < m -> okK (L.getD i ([], [])).1 = true := fun i h => (hL i (by omega) h).2.1
 have hoff : ∀ i, i < m -> ∀ k : Ky, k.1 < 3 -> k ∉ (L.getD i ([], [])).2 -> zaw (σs i) (σs (i + 1)) k := fun i h => (hL i (by omega) h).2.2.1
 simp only [List.all_eq_true, List.mem_range, Bool.and_eq_true] at hord
 have hlt : ∀ j (h : j < ops.size), ∀ e ∈ ops[j].after, Region.binds .any e = true -> e.on < j := fun j h e he hb => by
  have := (hord j h).1.1
  rw [hget j h] at this
  have := (Array.all_eq_true_iff_forall_mem.1 this) e he
  simpa [hb] using this
 have hbef : ∀ j (h : j < ops.size), ∀ i, i < ops.size -> ((Region.before ops).getD j 0).testBit i = true -> ∃ e ∈ ops[j].after, Region.binds .any e = true /\ (e.on = i \/ ((Region.before ops).getD e.on 0).testBit i = true) := fun j h i hi hb => by
  have := (hord j h).1.2 i hi
  rw [hb, hget j h] at this
  simp only [Bool.not_true, Bool.false_or] at this
  obtain ⟨e, he, h1⟩ := Array.any_eq_true'.1 this
  simp only [Bool.and_eq_true, Bool.or_eq_true, beq_iff_eq] at h1
  exact ⟨e, he, h1.1, h1.2⟩
 have hdis : ∀ i j, i < j -> j < m -> ((Region.before ops).getD j 0).testBit i = false -> (∀ k ∈ (L.getD i ([], [])).2, k ∉ (L.getD j ([], [])).1 /\ k ∉ (L.getD j ([], [])).2) /\ ∀ k ∈ (L.getD i ([], [])).1, k ∉ (L.getD j ([], [])).2 := fun i j hij hj hb => by
  have := (hord j (by omega)).2 i hij
  rw [show decide (m <= j) = false from decide_eq_false (by omega), Bool.and_false, Bool.false_or] at this
  rw [hb] at this
  simp only [Bool.false_or, Bool.and_eq_true, List.all_eq_true, Bool.not_eq_true', List.contains_eq_mem, decide_eq_false_iff_not] at this
  exact ⟨fun k hk => this.1.2 k hk, fun k hk => this.2 k hk⟩
 have hchain : ∀ i j, i ≠ 0 -> i < j -> j < ops.size -> m <= j -> ((Region.before ops).getD j 0).testBit i = true := fun i j hi0 hij hj hmj => by
  have := (hord j hj).2 i hij
  rw [show decide (i = 0) = false from decide_eq_false hi0, Bool.false_and, Bool.false_or] at this
  cases hb : ((Region.before ops).getD j 0).testBit i with
  | true => rfl
  | false =>
   rw [hb] at this
   simp only [Bool.false_or, Bool.and_eq_true, decide_eq_true_eq] at this
   omega
 have hclosed : ∀ listed : Array Bool, (∀ j (h : j < ops.size), listed.getD j false = true -> ∀ e ∈ ops[j].after, Region.binds .any e = true -> listed.getD e.on false = true) -> ∀ j (h : j < ops.size), listed.getD j false = true -> ∀ i, i < ops.size -> ((Region.before ops).getD j 0).testBit i = true -> listed.getD i false = true := by
  intro listed hcl j
  induction j using Nat.strongRecOn with
  | _ j ihj =>
   intro h hl i hi hbi
   obtain ⟨e, he, h1, h2⟩ := hbef j h i hi hbi
   have hle := hcl j h hl e he h1
   have hlt' := hlt j h e he h1
   rcases h2 with rfl | h2
   ·exact hle
   ·exact ihj e.on hlt' (by omega) hle i hi h2
 have hready : ∀ (listed : Array Bool), listed.size = ops.size -> ∀ i, i ∈ Region.ready .any ops listed -> ∃ hi : i < ops.size, listed.getD i false = false /\ ∀ e ∈ ops[i].after, Region.binds .any e = true -> listed.getD e.on false = true := fun listed hsz i hi => by
  unfold Region.ready at hi
  rw [List.mem_filter] at hi
  obtain ⟨hi1, hi2⟩ := hi
  have hi' := List.mem_range.1 hi1
  rw [Array.getElem?_eq_getElem hi'] at hi2
  simp only [Option.map_some, Option.getD_some, Bool.and_eq_true, Bool.not_eq_true'] at hi2
  obtain ⟨hl0, hafter⟩ := hi2
  refine ⟨hi', ?_, fun e he hbd => ?_⟩
  ·simp only [Array.getD_eq_getD_getElem?] at hl0 ⊢
   rw [Array.getElem?_eq_getElem (by omega)] at hl0 ⊢
   exact hl0
  ·have := (Array.all_eq_true_iff_forall_mem.1 hafter) e he
   simpa [hbd] using this
 have hsome : ∀ (listed : Array Bool), listed.size = ops.size -> Region.ready .any ops listed = [] -> cnt (fun i => listed.getD i false) ops.size = 0 := fun listed hsz hr => by
  have : ∀ j, j < ops.size -> listed.getD j false = true := by
   intro j
   induction j using Nat.strongRecOn with
   | _ j ihj =>
    intro hj
    cases hl : listed.getD j false with
    | true => rfl
    | false =>
     exfalso
     have hmem : j ∈ Region.ready .any ops listed := by
      unfold Region.ready
      rw [List.mem_filter]
      refine ⟨List.mem_range.2 hj, ?_⟩
      have hl' : listed.getD j true = false := by
       simp only [Array.getD_eq_getD_getElem?] at hl ⊢
       rw [Array.getElem?_eq_getElem (by omega)] at hl ⊢
       exact hl
      rw [hl', Array.getElem?_eq_getElem hj]
      simp only [Bool.not_false, Bool.true_and, Option.map_some, Option.getD_some]
      rw [Array.all_eq_true_iff_forall_mem]
      intro e he
      cases hbd : Region.binds .any e with
      | false => rfl
      | true => simpa using ihj e.on (hlt j hj e he hbd) (by have := hlt j hj e he hbd; omega)
     rw [hr] at hmem
     exact absurd hmem (by simp)
  have : ∀ k, k <= ops.size -> cnt (fun i => listed.getD i false) k = 0 := by
   intro k
   induction k with
   | zero => intro _; rfl
   | succ k ihk => intro hk; unfold cnt; rw [if_pos (this k (by omega)), ihk (by omega)]
  exact this _ (Nat.le_refl _)
 have hset : ∀ (listed : Array Bool) (i : Nat), i < listed.size -> ∀ j, (listed.setIfInBounds i true).getD j false = if j = i then true else listed.getD j false := fun listed i hi j => by
  simp only [Array.getD_eq_getD_getElem?, Array.getElem?_setIfInBounds]
  by_cases hji : j = i
  ·subst hji; rw [if_pos rfl, if_pos hi, if_pos rfl]; rfl
  ·rw [if_neg (fun h => hji h.symm), if_neg hji]
 have hnone : ∀ (listed : Array Bool), listed.size = ops.size -> (∀ j, j < ops.size -> listed.getD j false = true) -> Region.ready .any ops listed = [] := fun listed hsz hall => by
  unfold Region.ready
  rw [List.filter_eq_nil_iff]
  intro i hi
  have hi' := List.mem_range.1 hi
  have := hall i hi'
  simp only [Array.getD_eq_getD_getElem?] at this ⊢
  rw [Array.getElem?_eq_getElem (by omega)] at this ⊢
  simp only [Option.getD_some] at this ⊢
  simp [this]
 have tail : ∀ (k j : Nat) (listed : Array Bool) (σ : St) (g : Gh) (a : Act) (w : World), j + k = ops.size -> m <= j -> listed.size = ops.size -> (∀ i, i < ops.size -> listed.getD i false = decide (i < j)) -> zbc P ops (ops.toList.drop j) σ K -> Rel n0 N σ g a w -> LtK n0 w -> Bk n0 w0 w -> (g.A0, g.R0) = A0 -> wpAny P .any ops Q k listed a w := by
  intro k
  induction k with
  | zero =>
   intro j listed σ g a w hjk hmj hsz hls h hrel hn hb hA
   have : ops.toList.drop j = [] := List.drop_of_length_le (by simp; omega)
   rw [this] at h
   exact ⟨hnone listed hsz fun i hi => by rw [hls i hi]; simp; omega, hQ σ g a w h hrel hn hb hA⟩
  | succ k ih =>
   intro j listed σ g a w hjk hmj hsz hls h hrel hn hb hA
   have hj : j < ops.size := by omega
   refine ⟨fun hr => ?_, fun i hi => ?_⟩
   ·exfalso
    have hz : listed.getD j false = true := zdc _ (hsome listed hsz hr) j hj
    rw [hls j hj] at hz
    simp at hz
   ·obtain ⟨hi', hl, hdue⟩ := hready listed hsz i hi
    have hij : i = j := by
     rcases Nat.lt_trichotomy i j with h1 | h1 | h1
     ·rw [hls i hi'] at hl; simp at hl; omega
     ·exact h1
     ·exfalso
      obtain ⟨e, he, k1, k2⟩ := hbef i hi' j hj (hchain j i (by omega) h1 hi' (by omega))
      have hle := hdue e he k1
      have hel := hlt i hi' e he k1
      rw [hls e.on (by omega)] at hle
      have hle : e.on < j := by simpa using hle
      rcases k2 with k2 | k2
      ·omega
      ·have : ∀ x, x < ops.size -> ∀ y, y < ops.size -> ((Region.before ops).getD x 0).testBit y = true -> y < x := by
        intro x
        induction x using Nat.strongRecOn with
        | _ x ihx =>
         intro hx y hy hbxy
         obtain ⟨e', he', q1, q2⟩ := hbef x hx y hy hbxy
         have := hlt x hx e' he' q1
         rcases q2 with rfl | q2
         ·exact this
         ·have := ihx e'.on this (by omega) y hy q2; omega
       have := this e.on (by omega) j hj k2
       omega
    subst hij
    have hcons : ops.toList.drop i = ops[i] :: ops.toList.drop (i + 1) := by
     rw [List.drop_eq_getElem_cons (by simpa using hi')]; rfl
    rw [hcons] at h
    refine zrf hi' (K := fun σ' => zbc P ops (ops.toList.drop (i + 1)) σ' K) h hrel hn (hdst _ (Array.getElem_mem hi')) fun σ' a' w' hh hK => ?_
    obtain ⟨g', k1, k2, k3, k4⟩ := hh
    refine ih (i + 1) _ σ' g' a' w' (by omega) (by omega) (by simpa using hsz) (fun x hx => ?_) hK k1 (hn.mono k2.size) (hb.trans k2) (by rw [k3, k4]; exact hA)
    rw [hset listed i (by omega), hls x hx]
    by_cases hxi : x = i
    ·subst hxi; simp
    ·rw [if_neg hxi]
     congr 1
     simp only [eq_iff_iff]
     omega
 intro fuel
 induction fuel with
 | zero =>
  intro listed g a w hsz hc hcl hno hz0 hrel hn hb hA
  have hall := zdc _ hc
  have hme : m = ops.size := by
   rcases Nat.lt_or_ge m ops.size with h | h
   ·have h1 := hall m h
    rw [hno m (Nat.le_refl _)] at h1; cases h1
   ·omega
  refine ⟨hnone listed hsz hall, ?_⟩
  rw [zdf hok hoff m (Nat.le_refl _) fun j hj => hall j (by omega)] at hrel
  have hd : ops.toList.drop m = [] := List.drop_of_length_le (by simp; omega)
  rw [hd] at hT
  exact hQ _ g a w hT hrel hn hb hA
 | succ fuel ih =>
  intro listed g a w hsz hc hcl hno hz0 hrel hn hb hA
  have hbb := hclosed listed hcl
  refine ⟨fun hr => ?_, fun i hi => ?_⟩
  ·exfalso
   have := hsome listed hsz hr
   omega
  ·obtain ⟨hi', hl, hdue⟩ := hready listed hsz i hi
   have h1 : ∀ j, j < ops.size -> ((Region.before ops).getD i 0).testBit j = true -> listed.getD j false = true := fun j hj hbj => by
    obtain ⟨e, he, k1, k2⟩ := hbef i hi' j hj hbj
    have hle := hdue e he k1
    have hlt' := hlt i hi' e he k1
    rcases k2 with rfl | k2
    ·exact hle
    ·exact hbb e.on (by omega) hle j hj k2
   by_cases him : i < m
   ·have h2 : ∀ j, j < m -> listed.getD j false = true -> ((Region.before ops).getD j 0).testBit i = true -> listed.getD i false = true := fun j hj hlj hbj => hbb j (by omega) hlj i hi' hbj
    have hset' := hset listed i (by omega)
    obtain ⟨_, _, _, hstep⟩ := hL i hi' him
    have hG := hstep _ (fun k hk => zla (σs := σs) (RW := fun i => L.getD i ([], [])) (b := fun j i => ((Region.before ops).getD j 0).testBit i) (p := fun i => listed.getD i false) hok hoff hRk hdis him hl (fun j hj hb => h1 j (by omega) hb) h2 hk)
    have hw := zh0 (σs := σs) (RW := fun i => L.getD i ([], [])) (b := fun j i => ((Region.before ops).getD j 0).testBit i) (p := fun i => listed.getD i false) hok hdis him hl (fun j hj hb => h1 j (by omega) hb) h2 (p' := fun j => (listed.setIfInBounds i true).getD j false) hset'
    have hcnt := zjn (p := fun i => listed.getD i false) (q := fun j => (listed.setIfInBounds i true).getD j false) hl hset' ops.size hi'
    have hG' := hG n0 N g a w hrel hn (hdst _ (Array.getElem_mem hi'))
    rw [<- hw] at hG'
    have next : ∀ a' w', (∃ g', Rel n0 N (Fp σs (fun i => L.getD i ([], [])) (fun j => (listed.setIfInBounds i true).getD j false) m) g' a' w' /\ Bk n0 w w' /\ g'.A0 = g.A0 /\ g'.R0 = g.R0) -> wpAny P .any ops Q fuel (listed.setIfInBounds i true) a' w' := by
     rintro a' w' ⟨g', k1, k2, k3, k4⟩
     refine ih _ g' a' w' (by simpa using hsz) (by omega) (fun j hj hlj e he hbd => ?_) (fun j hj => by rw [hset', if_neg (by omega)]; exact hno j hj) (by rw [hset']; split; rfl; exact hz0) k1 (hn.mono k2.size) (hb.trans k2) (by rw [k3, k4]; exact hA)
     rw [hset'] at hlj ⊢
     by_cases heo : e.on = i
     ·rw [if_pos heo]
     ·rw [if_neg heo]
      by_cases hji : j = i
      ·subst hji; exact hdue e he hbd
      ·rw [if_neg hji] at hlj; exact hcl j hj hlj e he hbd
    unfold wpOp
    rw [Array.getElem?_eq_getElem hi']
    simp only
    split
    ·rename_i hwd
     rw [if_pos hwd] at hG'
     exact Or.inl (zbt next hG')
    ·rename_i hwd
     rw [if_neg hwd] at hG'
     obtain ⟨g', k1, k2, k3⟩ := hG'
     exact next _ _ ⟨g', k1, Bk.refl _ _, k2, k3⟩
   ·-- the chain begins
    have hmi : i = m := by
     rcases Nat.lt_trichotomy i m with h3 | h3 | h3
     ·omega
     ·exact h3
     ·exfalso
      have := h1 m (by omega) (hchain m i (by omega) h3 hi' (by omega))
      rw [hno m (Nat.le_refl _)] at this; cases this
    subst hmi
    have hall : ∀ j, j < i -> listed.getD j false = true := fun j hj => if h0 : j = 0 then by rw [h0]; exact hz0 else h1 j (by omega) (hchain j i h0 hj hi' (Nat.le_refl _))
    rw [zdf hok hoff i (Nat.le_refl _) hall] at hrel
    have hls : ∀ x, x < ops.size -> listed.getD x false = decide (x < i) := fun x hx => by
     by_cases hxi : x < i
     ·rw [hall x hxi]; simp [hxi]
     ·rw [hno x (by omega)]; simp [hxi]
    have hcnt : fuel + 1 = ops.size - i := by
     rw [<- hc]
     have : ∀ n, n <= ops.size -> cnt (fun i => listed.getD i false) n = n - i := by
      intro n
      induction n with
      | zero => intro _; simp [cnt]
      | succ n ihn =>
       intro hn'
       unfold cnt
       rw [ihn (by omega), hls n (by omega)]
       by_cases hni : n < i
       ·rw [if_pos (by simpa using hni)]; omega
       ·rw [if_neg (by simpa using hni)]; omega
     exact this _ (Nat.le_refl _)
    have := tail (fuel + 1) i listed (σs i) g a w (by omega) (Nat.le_refl _) hsz hls hT hrel hn hb hA
    exact this.2 i hi
def zsn (ops : Array Oper) (m : Nat) : Bool :=
 let b := Region.before ops
 decide (0 < m) && decide (m <= ops.size) && (List.range ops.size).all fun j => decide (j < m) || (List.range j).all fun i => decide (i = 0) || (b.getD j 0).testBit i
theorem zw8 {ops : Array Oper} {L : List (List Ky × List Ky)} {m : Nat} (h1 : zkb ops L = true) (h2 : zsn ops m = true) : zs5 ops L m = true := by
 unfold zkb at h1
 unfold zsn at h2
 unfold zs5
 simp only [List.all_eq_true, List.mem_range, Bool.and_eq_true, Bool.or_eq_true, decide_eq_true_eq] at h1 h2 ⊢
 refine ⟨h2.1.2, fun j hj => ⟨⟨(h1 j hj).1.1, (h1 j hj).1.2⟩, fun i hi => ?_⟩⟩
 rcases (h1 j hj).2 i hi with h3 | h3
 ·exact Or.inr (Or.inl h3)
 ·rcases h2.2 j hj with h4 | h4
  ·exact Or.inr (Or.inr ⟨⟨h4, h3.1⟩, h3.2⟩)
  ·rcases h4 i hi with h5 | h5
   ·by_cases h6 : j < m
    ·exact Or.inr (Or.inr ⟨⟨h6, h3.1⟩, h3.2⟩)
    ·exact Or.inl ⟨h5, by omega⟩
   ·exact Or.inr (Or.inl h5)
def qf8 (ops : Array Oper) : Bool :=
 let o := ops.getD 0 default
 (match o.op with | .move (.tmp _) => true | _ => false) && o.dst.isSome && o.guard.isNone && decide (0 < ops.size) && Region.noSelect ops && Region.free .any ops (Array.replicate ops.size false) 0 && (Region.ready .any ops (Array.replicate ops.size false)).contains 0
theorem qfx (m : Nat) {id : Nat} {ops : Array Oper} {ks : List Fr} {Q : Exit -> St -> Prop} {σ : St} (hmx : P.follows .mixedOrders = true) (hf : qf8 ops = true) (hch : zsn ops m = true) (h : exd P ops (ops.toList.take m) [] [] (tailQ P ops m ks Q) σ) : ex P (.region id ops true) ks Q σ := by
 show zc1 P id ops σ _
 intro n0 N g a w hR hn hd
 have hm : 0 < m /\ m <= ops.size := by unfold zsn at hch; simp only [Bool.and_eq_true, decide_eq_true_eq] at hch; exact hch.1
 obtain ⟨L, σs, h0, hloc, hord, hK⟩ := zd3 hm.2 (ops.toList.take m) 0 [] (fun _ => σ) rfl (Nat.zero_le _) rfl (fun j _ hj => by omega) h
 have hordZ := zw8 hord hch
 refine wp_region_any hmx ?_
 have hb : Below w.heap.size w { w with drawn := w.drawn + 1 } := ⟨rfl, rfl, rfl, Nat.le_refl _, fun _ _ => rfl⟩
 have hR' : Rel n0 N (σs 0) g a { w with drawn := w.drawn + 1 } := by
  rw [h0]
  exact hR.after hn hb (New.refl σ g (w.heap.size <= ·) _ hR.slc)
 have hsz : 0 < ops.size := by omega
 have hgD : ops.getD 0 default = ops[0] := by simp [Array.getD, hsz]
 unfold qf8 at hf
 simp only [hgD, Bool.and_eq_true, decide_eq_true_eq] at hf
 obtain ⟨⟨⟨⟨⟨⟨f1, f2⟩, f3⟩, -⟩, f4⟩, f5⟩, f6⟩ := hf
 obtain ⟨x, hx⟩ : ∃ x, ops[0].op = .move (.tmp x) := by
  revert f1
  cases h : ops[0].op with
  | move y => cases y with
   | tmp x => intro _; exact ⟨x, rfl⟩
   | _ => intro h; cases h
  | _ => intro h; cases h
 have hgu : ops[0].guard = none := by simpa using f3
 have hrun : ∀ a : Act, ∀ w, (execOp a.eval ops[0]).run P w = .ok (.value (a.eval (.tmp x))) w := fun a w => by
  unfold execOp
  rw [hx]
  rfl
 have hwant : Region.wanted ops[0] (yielded ops a.tmps) = true := by unfold Region.wanted; rw [hgu]
 obtain ⟨fu, hfu⟩ : ∃ fu, ops.size = fu + 1 := ⟨ops.size - 1, by omega⟩
 have hy : Yields P ops ops[0] (a.eval (.tmp x)) a := Or.inl ⟨hwant, hrun a⟩
 have hset0 : ∀ j, ((Array.replicate ops.size false).setIfInBounds 0 true).getD j false = decide (j = 0) := fun j => by
  simp only [Array.getD_eq_getD_getElem?, Array.getElem?_setIfInBounds, Array.size_replicate, Array.getElem?_replicate]
  by_cases hj : j = 0
  ·subst hj; simp [hsz]
  ·rw [if_neg (fun h => hj h.symm)]
   split <;> simp [hj]
 have hok : ∀ i, i < m -> okK (L.getD i ([], [])).2 = true := fun i h => (hloc i (by omega) h).1
 have hoff : ∀ i, i < m -> ∀ k : Ky, k.1 < 3 -> k ∉ (L.getD i ([], [])).2 -> zaw (σs i) (σs (i + 1)) k := fun i h => (hloc i (by omega) h).2.2.1
 have hF : ∀ n, n < m -> Fp σs (fun i => L.getD i ([], [])) (fun i => ((Array.replicate ops.size false).setIfInBounds 0 true).getD i false) (n + 1) = σs 1 := by
  intro n
  induction n with
  | zero =>
   intro _
   exact zdf (p := fun i => ((Array.replicate ops.size false).setIfInBounds 0 true).getD i false) hok hoff 1 (by omega) fun j hj => by rw [hset0]; simp; omega
  | succ n ih =>
   intro hn'
   unfold Fp
   rw [hset0, if_neg (by simp)]
   exact ih (by omega)
 have hp1 : zqf (σs 0) (L.getD 0 ([], [])).2 (σs 1) = σs 1 := by
  have := hF 0 hm.1
  unfold Fp at this
  rw [hset0, if_pos (by simp)] at this
  unfold Fp at this
  exact this
 obtain ⟨_, _, _, hstep⟩ := hloc 0 hsz hm.1
 have hG := hstep (σs 0) (fun k _ => zaw.refl _ _) n0 N g a _ hR' (hn.mono (Nat.le_refl _)) (hd _ (Array.getElem_mem hsz))
 rw [hp1, if_pos hwant] at hG
 unfold Oper.wp at hG
 rw [hrun a] at hG
 obtain ⟨g1, k1, k2, k3, k4⟩ := hG
 have hcnt : cnt (fun i => ((Array.replicate ops.size false).setIfInBounds 0 true).getD i false) ops.size = fu := by
  have : ∀ n, cnt (fun i => ((Array.replicate ops.size false).setIfInBounds 0 true).getD i false) n = n - 1 := by
   intro n
   induction n with
   | zero => rfl
   | succ n ih =>
    unfold cnt
    rw [ih, hset0]
    by_cases hn0 : n = 0
    ·subst hn0; rfl
    ·rw [if_neg (by simpa using hn0)]; omega
  rw [this]; omega
 have hrep : ∀ i, (Array.replicate ops.size false).getD i false = false := fun i => by
  simp only [Array.getD_eq_getD_getElem?, Array.getElem?_replicate]; split <;> rfl
 have hrdy := mem_ready.1 (by simpa using f6 : 0 ∈ Region.ready .any ops (Array.replicate ops.size false))
 have key := zvi (w0 := w) (A0 := (g.A0, g.R0)) (K := zut P ks Q .normal) (Q := fun e a' w' => e = .normal /\ ∃ σ' g', zut P ks Q .normal σ' /\ Rel n0 N σ' g' a' w' /\ LtK n0 w' /\ Bk n0 w w' /\ g'.A0 = g.A0 /\ g'.R0 = g.R0) hm.1 hloc hordZ hd hK (fun σ' g' a' w' kk k1 k2 k3 k4 => ⟨rfl, σ', g', kk, k1, k2, k3, (Prod.mk.inj k4).1, (Prod.mk.inj k4).2⟩) fu ((Array.replicate ops.size false).setIfInBounds 0 true) g1 (a.put ops[0].dst (a.eval (.tmp x))) { w with drawn := w.drawn + 1 } (by simp) hcnt (fun j h hl e he hb => ?_) (fun j hj => by rw [hset0]; simp; omega) (by rw [hset0]; rfl) ?_ (hn.mono (Nat.le_refl _)) (Bk.of_below hb hn) (by rw [k3, k4])
 ·rw [hfu]
  rw [hfu] at key f5 f6
  exact wpAny_take (oi := ops[0]) (Array.getElem?_eq_getElem hsz) f4 f5 f6 (fun c a w hq => by cases hq.1) hy key
 ·rw [hset0] at hl
  have hj0 : j = 0 := by simpa using hl
  subst hj0
  obtain ⟨_, oj, ho, hall⟩ := hrdy
  rw [Array.getElem?_eq_getElem hsz] at ho
  cases ho
  have := hall e he hb
  rw [hrep] at this
  cases this
 ·have := hF (m - 1) (by omega)
  rw [show m - 1 + 1 = m by omega] at this
  rw [this]
  exact k1
attribute [go_sem] zhg
end Go.Proofs.YtmhbmpbgpjljeaaGreat
namespace Go.Proofs.YtmhbmpbgpjljeaaGreat
set_option linter.unusedSimpArgs false
set_option linter.unusedVariables false
set_option linter.unusedSectionVars false
set_option maxRecDepth 4000
open Go.RowKit
variable {P : Program}
section
variable {ks : List Fr} {Q : Exit -> St -> Prop} {σ : St} {ops : Array Oper} {os : List Oper} {L : List (List Ky × List Ky)} {d : Nat} {t : TypeId} {ty : TypeId} {ps : String} {af : Array Edge} {len : Nat} {parts : Array (Nat × Operand)}
theorem zbk (h : zan (blS P σ t len parts) fun _ => σ.ev (d * 32) = none)
  (k : exd P ops os (L ++ [(zaq (parts.toList.map (·.2)) ++ (rK (qcg (zj1 P (σ.get P) t len parts)) ++ [(2, d * 32)]), dK (some d) ++ eK (blK d (blS P σ t len parts)))]) ks Q ((σ.bl d (blS P σ t len parts)).put (some d) (.one (.ow (d * 32) 0)))) :
  exd P ops (⟨some d, .buildSlice t len parts, ty, ps, af, none⟩ :: os) L ks Q σ := by
 obtain ⟨⟨x, cons⟩, h1, h2⟩ := zal h
 rw [h1] at k
 unfold blS at h1
 obtain ⟨p, e1, h1⟩ := Option.bind_eq_some_iff.1 h1
 obtain ⟨q, e2, h1⟩ := Option.map_eq_some_iff.1 h1
 simp only [Prod.mk.injEq] at h1
 obtain ⟨rfl, rfl⟩ := h1
 rw [e1] at k
 exact qia ⟨e1, e2, h2⟩ k
end
end Go.Proofs.YtmhbmpbgpjljeaaGreat
namespace Go.Proofs.YtmhbmpbgpjljeaaGreat
set_option linter.unusedSimpArgs false
set_option linter.unusedVariables false
set_option linter.unusedSectionVars false
set_option maxRecDepth 4000
open Go.RowKit
variable {P : Program} {N : Nat}
def zr1 (P : Program) (N : Nat) (c : Code) (σ : St) (Q : Exit -> St -> Prop) : Prop := ∀ n0 w0 A0 g a w, Rel n0 N σ g a w -> LtK n0 w -> Bk n0 w0 w -> (g.A0, g.R0) = A0 -> c.wp P (qhw n0 N w0 A0 Q) a w
theorem qhw.mono {n0 : Nat -> Prop} {w0 : World} {A0 : (Nat -> Prop) × RP} {Q Q' : Exit -> St -> Prop} (h : ∀ e σ, Q e σ -> Q' e σ) {e : Exit} {a : Act} {w : World} : qhw n0 N w0 A0 Q e a w -> qhw n0 N w0 A0 Q' e a w
 | ⟨σ, g, h1, h2⟩ => ⟨σ, g, h _ _ h1, h2⟩
theorem zr1.mono {c : Code} {σ : St} {Q Q' : Exit -> St -> Prop} (h : ∀ e σ, Q e σ -> Q' e σ) (k : zr1 P N c σ Q) : zr1 P N c σ Q' := fun n0 w0 A0 g a w h1 h2 h3 h4 => wp_mono (k n0 w0 A0 g a w h1 h2 h3 h4) fun _ _ _ => qhw.mono h
theorem zr1.ofEx {c : Code} {σ : St} {Q : Exit -> St -> Prop} (hd : zcf N c = true) (h : ex P c [] Q σ) : zr1 P N c σ Q := fun _ _ _ g a w h1 h2 h3 h4 => zbf c σ Q hd h g a w h1 h2 h3 h4
def preC : Nat -> Code -> Code
 | 0, .seq x _ => x
 | n + 1, .seq x y => .seq x (preC n y)
 | _, c => c
def sufC : Nat -> Code -> Code
 | 0, .seq _ y => y
 | n + 1, .seq _ y => sufC n y
 | _, _ => .skip
def okC : Nat -> Code -> Bool
 | 0, .seq _ _ => true
 | n + 1, .seq _ y => okC n y
 | _, _ => false
def blkQ (i : Nat) (Q : Exit -> St -> Prop) (e : Exit) (σ : St) : Prop := match e with | .exit j => if j = i then Q .normal σ else Q (.exit j) σ | e => Q e σ
theorem znp (i j : Nat) (Q : Exit -> St -> Prop) (σ : St) : blkQ i Q (.exit j) σ = if j = i then Q .normal σ else Q (.exit j) σ := rfl
theorem zr1.block {i : Nat} {c : Code} {σ : St} {Q : Exit -> St -> Prop} (h : zr1 P N c σ (blkQ i Q)) : zr1 P N (.block i c) σ Q := fun n0 w0 A0 g a w h1 h2 h3 h4 => by
 refine wp_block (wp_mono (h n0 w0 A0 g a w h1 h2 h3 h4) fun e a' w' hq => ?_)
 obtain ⟨σ', g', k1, k2, k3, k4, k5⟩ := hq
 cases e with
 | exit j =>
  simp only [Exit.inBlock]
  simp only [znp] at k1
  split at k1
  ·rw [if_pos ‹_›]; exact ⟨σ', g', k1, k2, k3, k4, k5⟩
  ·rw [if_neg ‹_›]; exact ⟨σ', g', k1, k2, k3, k4, k5⟩
 | normal => exact ⟨σ', g', k1, k2, k3, k4, k5⟩
 | goto l => exact ⟨σ', g', k1, k2, k3, k4, k5⟩
 | ret => exact ⟨σ', g', k1, k2, k3, k4, k5⟩
 | panic ch => exact ⟨σ', g', k1, k2, k3, k4, k5⟩
 | outgrown => exact ⟨σ', g', k1, k2, k3, k4, k5⟩
structure RelM (n0 : Nat -> Prop) (N : Nat) (σ : St) (ag : Bool) (rows : List (List T)) (b : Nat) (A0 : (Nat -> Prop) × RP) (g : Gh) (a : Act) (w : World) : Prop where
 rel : ∃ (n1 : Nat -> Prop) (es : Array MapEntry) (clk : Nat), (∀ x, n0 x -> n1 x) /\ n1 b /\ ¬ g.A0 b /\ Rel n1 N σ g a w /\ LtK n1 w /\ w.heap[b]? = some (.map es clk) /\ za5 w (fun x => n1 x /\ g.A0 x) ag rows es.toList
 nb : ¬ n0 b
 sub : ∀ x, g.A0 x -> A0.1 x
 r0 : g.R0 = A0.2
 new : ∀ x, ¬ n0 x -> A0.1 x /\ A0.2 x
def zor (n0 : Nat -> Prop) (N : Nat) (w0 : World) (A0 : (Nat -> Prop) × RP) (ag : Bool) (b : Nat) (Q : Exit -> St -> List (List T) -> Prop) (e : Exit) (a : Act) (w : World) : Prop := ∃ σ rows g, Q e σ rows /\ RelM n0 N σ ag rows b A0 g a w /\ LtK n0 w /\ Bk n0 w0 w
def SemM (P : Program) (N : Nat) (ag : Bool) (b : Nat) (c : Code) (σ : St) (rows : List (List T)) (Q : Exit -> St -> List (List T) -> Prop) : Prop := ∀ n0 w0 A0 g a w, RelM n0 N σ ag rows b A0 g a w -> LtK n0 w -> Bk n0 w0 w -> c.wp P (zor n0 N w0 A0 ag b Q) a w
section
variable {ag : Bool} {b : Nat}
theorem zor.mono {n0 : Nat -> Prop} {w0 : World} {A0 : (Nat -> Prop) × RP} {Q Q' : Exit -> St -> List (List T) -> Prop} (h : ∀ e σ r, Q e σ r -> Q' e σ r) {e : Exit} {a : Act} {w : World} : zor n0 N w0 A0 ag b Q e a w -> zor n0 N w0 A0 ag b Q' e a w
 | ⟨σ, r, g, h1, h2⟩ => ⟨σ, r, g, h _ _ _ h1, h2⟩
theorem SemM.mono {c : Code} {σ : St} {rows : List (List T)} {Q Q' : Exit -> St -> List (List T) -> Prop} (h : ∀ e σ r, Q e σ r -> Q' e σ r) (k : SemM P N ag b c σ rows Q) : SemM P N ag b c σ rows Q' := fun n0 w0 A0 g a w h1 h2 h3 => wp_mono (k n0 w0 A0 g a w h1 h2 h3) fun _ _ _ => zor.mono h
theorem RelM.keep {n0 n1 : Nat -> Prop} {σ σ' : St} {rows : List (List T)} {A0 : (Nat -> Prop) × RP} {g g' : Gh} {a a' : Act} {w w' : World} {es : Array MapEntry} {clk : Nat} (h : RelM n0 N σ ag rows b A0 g a w) (hn : ∀ x, n0 x -> n1 x) (hb : n1 b) (hA : ¬ g.A0 b) (he : w.heap[b]? = some (.map es clk)) (hr : za5 w (fun x => n1 x /\ g.A0 x) ag rows es.toList)
  (h2 : Rel n1 N σ' g' a' w') (h3 : LtK n1 w') (h4 : Bk n1 w w') (h5 : (g'.A0, g'.R0) = (g.A0, g.R0)) : RelM n0 N σ' ag rows b A0 g' a' w' := by
 have e1 : g'.A0 = g.A0 := (Prod.mk.inj h5).1
 have e2 : g'.R0 = g.R0 := (Prod.mk.inj h5).2
 exact ⟨⟨n1, es, clk, hn, hb, by rw [e1]; exact hA, h2, h3, (h4.block b hb).trans he, za5.keep (fun x hx => h4.block x hx.1) (fun x hx => ⟨hx.1, by rw [e1]; exact hx.2⟩) ag rows _ hr⟩, h.nb, by rw [e1]; exact h.sub, by rw [e2]; exact h.r0, h.new⟩
theorem zrn {n0 n1 : Nat -> Prop} {w w' : World} (hn : ∀ x, n0 x -> n1 x) (h : Bk n1 w w') : Bk n0 w w' := ⟨h.os, h.tape, h.output, h.size, fun k hk => h.block k (hn k hk)⟩
def blkM (i : Nat) (Q : Exit -> St -> List (List T) -> Prop) (e : Exit) (σ : St) (rows : List (List T)) : Prop := match e with | .exit j => if j = i then Q .normal σ rows else Q (.exit j) σ rows | e => Q e σ rows
theorem znc (i j : Nat) (Q : Exit -> St -> List (List T) -> Prop) (σ : St) (rows : List (List T)) : blkM i Q (.exit j) σ rows = if j = i then Q .normal σ rows else Q (.exit j) σ rows := rfl
theorem SemM.block {i : Nat} {c : Code} {σ : St} {rows : List (List T)} {Q : Exit -> St -> List (List T) -> Prop} (h : SemM P N ag b c σ rows (blkM i Q)) : SemM P N ag b (.block i c) σ rows Q := fun n0 w0 A0 g a w h1 h2 h3 => by
 refine wp_block (wp_mono (h n0 w0 A0 g a w h1 h2 h3) fun e a' w' hq => ?_)
 obtain ⟨σ', r', g', k1, k2, k3, k4⟩ := hq
 cases e with
 | exit j =>
  simp only [Exit.inBlock]
  simp only [znc] at k1
  split at k1
  ·rw [if_pos ‹_›]; exact ⟨σ', r', g', k1, k2, k3, k4⟩
  ·rw [if_neg ‹_›]; exact ⟨σ', r', g', k1, k2, k3, k4⟩
 | normal => exact ⟨σ', r', g', k1, k2, k3, k4⟩
 | goto l => exact ⟨σ', r', g', k1, k2, k3, k4⟩
 | ret => exact ⟨σ', r', g', k1, k2, k3, k4⟩
 | panic ch => exact ⟨σ', r', g', k1, k2, k3, k4⟩
 | outgrown => exact ⟨σ', r', g', k1, k2, k3, k4⟩
end
attribute [go_sem] znp preC sufC znc
end Go.Proofs.YtmhbmpbgpjljeaaGreat
namespace Go.Proofs.YtmhbmpbgpjljeaaGreat
set_option linter.unusedSimpArgs false
set_option linter.unusedVariables false
set_option linter.unusedSectionVars false
set_option maxRecDepth 4000
open Go.RowKit
variable {P : Program} {N : Nat}
theorem zxd {ops : Array Oper} {K : St -> Prop} {n0 : Nat -> Prop} {w0 : World} {A0 : (Nat -> Prop) × RP} {R : Exit -> Act -> World -> Prop} {rest : List Nat} (hg : ∀ o ∈ ops.toList, o.guard = none) (hR : ∀ a w σ g, K σ -> Rel n0 N σ g a w -> LtK n0 w -> Bk n0 w0 w -> (g.A0, g.R0) = A0 -> wpOps P ops R rest a w) :
  ∀ (k i : Nat), i + k <= ops.size -> (∀ o ∈ ops.toList, ∀ d, o.dst = some d -> d < N) -> ∀ (σ : St) (g : Gh) (a : Act) (w : World), zbc P ops ((ops.toList.drop i).take k) σ K -> Rel n0 N σ g a w -> LtK n0 w -> Bk n0 w0 w -> (g.A0, g.R0) = A0 -> wpOps P ops R (List.range' i k ++ rest) a w
 | 0, i, hi, hd, σ, g, a, w, h, hr, hn, hb, hA => by
  rw [List.take_zero] at h
  exact hR a w σ g h hr hn hb hA
 | k + 1, i, hi, hd, σ, g, a, w, h, hr, hn, hb, hA => by
  have hlt : i < ops.size := by omega
  have hcons : ops.toList.drop i = ops[i] :: ops.toList.drop (i + 1) := by
   rw [List.drop_eq_getElem_cons (by simpa using hlt)]; rfl
  rw [hcons, List.take_succ_cons] at h
  rw [show List.range' i (k + 1) ++ rest = i :: (List.range' (i + 1) k ++ rest) from rfl, wpOps_cons]
  have ho : ops[i]? = some ops[i] := by simp [hlt]
  have hdi : ∀ d, ops[i].dst = some d -> d < N := hd _ (by simp)
  have hgi : ops[i].guard = none := hg _ (by simp)
  unfold wpOp
  simp only [ho]
  unfold zbc exG at h
  rw [hgi] at h
  have : Region.wanted ops[i] (yielded ops a.tmps) = true := by simp [Region.wanted, hgi]
  rw [if_pos this]
  exact Or.inl (zbt (fun a' w' ⟨σ', g', h0, k1, k2, k3, k4⟩ => zxd hg hR k (i + 1) (by omega) hd σ' g' a' w' h0 k1 (hn.mono k2.size) (hb.trans k2) (by rw [k3, k4]; exact hA)) (zd5 h n0 N g a w hr hn hdi))
theorem Rel.enter1 {n0 : Nat -> Prop} {σ : St} {g : Gh} {a : Act} {w : World} (h : Rel n0 N σ g a w) (o1 : Obj) :
  Rel (fun b => n0 b \/ b = w.heap.size) N σ { g with A0 := fun b => g.A0 b /\ b ≠ w.heap.size } a (w.alloc o1) := by
 have hs : ∀ b, b < w.heap.size -> (w.alloc o1).heap[b]? = w.heap[b]? := fun b hb => Below.heap_alloc _ _ _ hb
 refine h.turn (fun b hf => ⟨⟨hf.2.2.2, ?_⟩, hs b hf.2.2.1⟩) (by simp) (fun b hb => ?_) (fun k hk => ⟨?_, hs _ (h.lt hk)⟩) (fun e ho b hm => ?_)
 ·have := hf.2.2.1; omega
 ·have h1 : ¬ n0 b := fun k => hb (Or.inl k)
  exact ⟨⟨(h.anew b h1).1, fun e => hb (Or.inr e)⟩, (h.anew b h1).2⟩
 ·have := h.lt hk
  rintro (k1 | k1)
  ·exact h.base k hk k1
  ·omega
 ·have := h.elt ho hm
  refine ⟨?_, ⟨(h.ebase e ho b hm).1, by omega⟩, hs b this⟩
  rintro (k1 | k1)
  ·exact h.etop e ho b hm k1
  ·omega
end Go.Proofs.YtmhbmpbgpjljeaaGreat
namespace Go.Proofs.YtmhbmpbgpjljeaaGreat
set_option linter.unusedSimpArgs false
set_option linter.unusedVariables false
set_option linter.unusedSectionVars false
set_option maxRecDepth 4000
open Go.RowKit
variable {P : Program} {N : Nat}
attribute [go_sem] Option.bind_some Option.map_some
end Go.Proofs.YtmhbmpbgpjljeaaGreat
namespace Go.Proofs.YtmhbmpbgpjljeaaGreat
set_option linter.unusedSimpArgs false
set_option linter.unusedVariables false
set_option linter.unusedSectionVars false
set_option maxRecDepth 4000
open Go.RowKit
variable {P : Program}
theorem PC_ofW {f : FuncId} {fn : Func} {c : Code} {bx bx' : Bxs} {l : List AF} {res : List (Bool × D)} (hc : za1 P f) (hf : P.funcs[f]? = some fn) (hb : fn.body = some c) (hN : l.length <= fn.ntmps) (hN2 : fn.ntmps <= 1000000) (hbl : bx'.length = bx.length) (hj : AF.okJ bx.length l = true) (hs : zcj (AF.ds l ++ bxA bx.flatten)) (hfs : gFS (AF.ds l ++ bxA bx.flatten) = true) (hrl : fn.results.toList.length = res.length)
  (h : zr1 P fn.ntmps c (zf9 l bx) (PB P fn.results.toList res bx')) : PC P f bx l bx' res := by
 refine ⟨hc, hbl, fun w bs bvs dvs fp tp A hinj hbf hbx hv hn hl => ?_⟩
 refine calls_of_wp hf hb ?_
 obtain ⟨g, hg, hR⟩ := znt (N := fn.ntmps) hinj hbf hbx hv hn hl hj hN hN2 hs hfs (ξ := fun i => if 1000000 <= i then zjz (bs (i - 1000000)) else undef) (fun i hi => if_neg (by omega)) (fun i b => by
  by_cases h : 1000000 <= i
  ·rw [if_pos h]; exact fun e => by cases e
  ·rw [if_neg h]; exact fun e => by cases e) (fun j hj => by
  rw [if_pos (by omega), show 1000000 + j - 1000000 = j by omega])
 refine wp_mono (h _ w _ g _ w hR (fun k hk => hk.1) (Bk.refl _ _) hg) fun e a' w' hq => ?_
 obtain ⟨σ', g', h1, h2, h3, h4, h5⟩ := hq
 have hξ : ∀ q, q < bx'.length -> g'.R0.ξ (1000000 + (0 + q)) = zjz (bs (0 + q)) := fun q hq => by
  rw [(Prod.mk.inj h5).2, Nat.zero_add]
  show (if 1000000 <= 1000000 + q then zjz (bs (1000000 + q - 1000000)) else undef) = _
  rw [if_pos (by omega), show 1000000 + q - 1000000 = q by omega]
 have key : (∃ pl, PB0 P fn.results.toList res bx' pl σ') -> ∃ v, (results fn a'.tmps).run P w' = .ok v w' /\ ∃ us bvs' fp' tp', Ending.returned v = .returned (zbz us) /\ zeg w' bs 0 bvs' bx' /\ us.length = res.length ∧
   zar w' (fun k => (k < w'.heap.size /\ k ∉ fp' /\ ∀ j, j < bx.length -> k ≠ bs j) /\ (A k \/ w.heap.size <= k \/ k ∈ fp)) (res ++ bxA bx'.flatten) (us ++ bvs'.flatten) fp' tp' /\ fp'.Nodup /\ (∀ b ∈ fp', b ∈ fp \/ w.heap.size <= b) /\ Bk (fun k => k < w.heap.size /\ k ∉ fp /\ ∀ j, j < bx.length -> k ≠ bs j) w w' := by
  rintro ⟨pl, hk⟩
  obtain ⟨vs, hvs, hk⟩ := zal hk
  obtain ⟨us, r1, r2⟩ := zbn h2 fn hvs
  obtain ⟨cs, bvs', k0, b1, b2, b3⟩ := zjj (bs := bs) h2 hN2 hξ hk
  obtain ⟨B, hB⟩ := h2.fam
  obtain ⟨s, k1, ⟨tp', k2⟩, k3, k4⟩ := ze2 h2 hB k0 (VRl.append r2 b2)
  rw [List.append_nil] at k4
  have hsp : s.Pairwise okP := (List.pairwise_reverse.1 (k4 List.Pairwise.nil)).imp fun h => h.symm
  have hin : ∀ b ∈ bks B s, ∃ e, σ'.On e /\ b ∈ g'.φ e := fun b hb => by
   obtain ⟨x, hx, hm⟩ := List.mem_flatMap.1 hb
   exact ⟨x.1, k3 x hx, hB.sub x.1 x.2 b (k3 x hx) hm⟩
  have hbβ : ∀ j, j < bx.length -> σ'.bx (1000000 + j) ≠ none /\ g'.β (1000000 + j) = bs j := fun j hj => by
   have := b3 j (by omega)
   rwa [Nat.zero_add] at this
  have hA : ∀ b, zb0 σ' g' w' b -> (b < w'.heap.size /\ b ∉ bks B s /\ ∀ j, j < bx.length -> b ≠ bs j) /\ (A b \/ w.heap.size <= b \/ b ∈ fp) := fun b hb => by
   have hnb : ∀ j, j < bx.length -> b ≠ bs j := fun j hj e => hb.1.1 _ (hbβ j hj).1 (by rw [(hbβ j hj).2, e])
   refine ⟨⟨hb.1.2.2.1, fun hm => ?_, hnb⟩, ?_⟩
   ·obtain ⟨e, ho, hm⟩ := hin b hm
    exact hb.2 e ho hm
   ·have h0 := hb.1.2.2.2
    rw [(Prod.mk.inj h5).1] at h0
    rcases h0 with h0 | h0 | h0 | ⟨j, hj, h0⟩
    ·exact Or.inl h0
    ·exact Or.inr (Or.inl h0)
    ·exact Or.inr (Or.inr h0)
    ·exact absurd h0 (hnb j hj)
  refine ⟨_, r1, us, bvs', bks B s, tp', rfl, b1, by rw [r2.len, <- hrl]; exact zfq hvs, zar.keepA hA k2, zdq h2 hB k3 hsp, fun b hb => ?_, h4⟩
  obtain ⟨e, ho, hm⟩ := hin b hb
  have h0 := (h2.ebase e ho b hm).2
  rw [(Prod.mk.inj h5).2] at h0
  rcases h0 with h0 | h0 | ⟨j, hj, h0⟩
  ·exact Or.inl h0
  ·exact Or.inr h0
  ·have := h2.ebx e _ ho (hbβ j hj).1
   rw [(hbβ j hj).2] at this
   exact absurd (h0 ▸ hm) this
 have key' : ∀ {Y : Prop}, (PB0 P fn.results.toList res bx' [] σ' \/ ∃ pl, PB0 P fn.results.toList res bx' pl σ') -> ((∃ pl, PB0 P fn.results.toList res bx' pl σ') -> Y) -> Y := fun h k => h.elim (fun h => k ⟨[], h⟩) k
 cases e with
 | normal => exact ⟨h2.defers, key' h1 key⟩
 | ret => exact ⟨h2.defers, key' h1 key⟩
 | exit _ => exact h1.elim
 | goto _ => exact h1.elim
 | panic _ => exact h1.elim
 | outgrown => exact h1.elim
end Go.Proofs.YtmhbmpbgpjljeaaGreat
namespace Go.Proofs.YtmhbmpbgpjljeaaGreat
set_option linter.unusedSimpArgs false
set_option linter.unusedVariables false
set_option linter.unusedSectionVars false
set_option maxRecDepth 4000
open Go.RowKit
variable {P : Program}
def C.fs (e : Nat) (x : Ev) : C -> C
 | .ow e' g => if e' = e then (if g = x.gen then .t (.sl x.sz x.rows) else .any) else .ow e' g
 | .eo e' g sz i o => if e' = e then .any else .eo e' g sz i o
 | .vw e' g sz o => if e' = e then .any else .vw e' g sz o
 | c => c
def fsS (f : Nat -> V) (e : Nat) (x : Ev) : Nat -> V := fun i => (f i).map (C.fs e x)
def fsB (f : Nat -> Option (List C)) (e : Nat) (x : Ev) : Nat -> Option (List C) := fun b => (f b).map fun cs => cs.map (C.fs e x)
def fsE (f : Nat -> Option Ev) (e : Nat) : Nat -> Option Ev := fun k => if k = e then none else f k
theorem fsS_at (f : Nat -> V) (e : Nat) (x : Ev) (i : Nat) : fsS f e x i = (f i).map (C.fs e x) := rfl
theorem zr5 (f : Nat -> Option (List C)) (e : Nat) (x : Ev) (b : Nat) : fsB f e x b = (f b).map fun cs => cs.map (C.fs e x) := rfl
def St.fs (σ : St) (e : Nat) (x : Ev) : St := ⟨fsS σ.sl e x, fsB σ.bx e x, fsE σ.ev e⟩
theorem fs_wk {σ : St} {e : Nat} {x : Ev} (hx : σ.ev e = some x) (hd : x.deep = false) (ho : x.on = true) : Wk σ (σ.fs e x) := by
 intro n0 N g a w h
 have hev : ∀ e', e' ≠ e -> (σ.fs e x).ev e' = σ.ev e' := fun e' he => by show (if e' = e then none else σ.ev e') = _; rw [if_neg he]
 have hee : (σ.fs e x).ev e = none := by show (if e = e then none else σ.ev e) = _; rw [if_pos rfl]
 have hsome : ∀ e' z, (σ.fs e x).ev e' = some z -> e' ≠ e /\ σ.ev e' = some z := fun e' z hz => by
  by_cases he : e' = e
  ·subst he; rw [hee] at hz; cases hz
  ·exact ⟨he, by rw [<- hev e' he]; exact hz⟩
 have hon : ∀ e', (σ.fs e x).On e' -> e' ≠ e /\ σ.On e' := fun e' ⟨z, hz, h1⟩ => ⟨(hsome e' z hz).1, z, (hsome e' z hz).2, h1⟩
 have hbx : ∀ b, (σ.fs e x).bx b ≠ none ↔ σ.bx b ≠ none := fun b => by unfold St.fs; simp [zr5]
 have hOn : σ.On e := ⟨x, hx, ho⟩
 have hf : ∀ b, Fix σ g w b -> Fix (σ.fs e x) g w b := fun b hf => ⟨fun k hk => hf.1 k ((hbx k).1 hk), fun e' z hz h1 => hf.2.1 e' z (hsome e' z hz).2 h1, hf.2.2⟩
 have hfr : ∀ b, zb0 σ g w b -> zb0 (σ.fs e x) g w b := fun b hb => ⟨hf b hb.1, fun e' h' => hb.2 e' (hon e' h').2⟩
 have hgone : ∀ b ∈ g.φ e, b < w.heap.size -> zb0 (σ.fs e x) g w b := fun b hb hl => by
  have hne : ∀ e', (σ.fs e x).On e' -> b ∉ g.φ e' := fun e' he' hm => h.apart e e' hOn (hon e' he').2 (Ne.symm (hon e' he').1) b hb hm
  exact ⟨⟨fun j hj hjb => h.ebx e j hOn ((hbx j).1 hj) (by rw [hjb]; exact hb), fun e' z hz h1 hh => hne e' ⟨z, hz, h1⟩ (List.mem_of_mem_head? hh), hl, (h.ebase e hOn b hb).1⟩, hne⟩
 have hhas : ∀ e' n, e' ≠ e -> σ.has e' n -> (σ.fs e x).has e' n := fun e' n he ⟨z, hz, h1⟩ => ⟨z, by rw [hev e' he]; exact hz, h1⟩
 have cr : ∀ c v, CR σ g w c v -> CR (σ.fs e x) g w (c.fs e x) v := fun c v hc => by
  cases c with
  | t y => exact zai.keep (fun _ _ => rfl) hf y v hc
  | nl s => exact hc
  | ow e' n =>
   show CR _ _ _ (if e' = e then (if n = x.gen then .t (.sl x.sz x.rows) else .any) else .ow e' n) v
   by_cases he : e' = e
   ·subst he
    rw [if_pos rfl]
    by_cases hn : n = x.gen
    ·rw [if_pos hn]
     subst hn
     obtain ⟨ao, cap, e1, e2, e3, e4⟩ := h.evs _ x hx ho
     rw [<- hc.1] at e1
     show zai _ _ _ _
     unfold zai
     refine ⟨ao, cap, e1, e2, e3, ?_⟩
     rcases e4 with ⟨_, _, e4, _⟩ | ⟨b, cells, ty, fps, k1, k2, k3, k4, k5⟩
     ·exact Or.inl e4
     ·rw [if_neg (by rw [hd]; simp)] at k5
      exact Or.inr ⟨b, 0, k1, (hgone b (by rw [k2]; simp) (Array.getElem?_eq_some_iff.1 k3).1).1, zaj.keep (fun _ _ => rfl) hf b rfl 0 x.sz x.rows k5.2⟩
    ·rw [if_neg hn]; trivial
   ·rw [if_neg he]; exact ⟨hc.1, hhas e' n he hc.2⟩
  | bx b o => exact ⟨hc.1, (hbx b).2 hc.2⟩
  | el cs o => obtain ⟨b, q, h1, h2, h3⟩ := hc; exact ⟨b, q, h1, hf b h2, za4.keep (fun _ _ => rfl) hf b rfl q cs h3⟩
  | eo e' s sz i o =>
   show CR _ _ _ (if e' = e then .any else .eo e' s sz i o) v
   by_cases he : e' = e
   ·rw [if_pos he]; trivial
   ·rw [if_neg he]; obtain ⟨b, n, c, h1, h2, h3, h4⟩ := hc; exact ⟨b, n, c, h1, h2, h3, hhas e' s he h4⟩
  | vw e' s sz o =>
   show CR _ _ _ (if e' = e then .any else .vw e' s sz o) v
   by_cases he : e' = e
   ·rw [if_pos he]; trivial
   ·rw [if_neg he]; obtain ⟨b, n, c, h1, h2, h3, h4⟩ := hc; exact ⟨b, n, c, h1, h2, h3, hhas e' s he h4⟩
  | fn f caps => exact ⟨hc.1, fun b hb => (hbx b).2 (hc.2 b hb)⟩
  | cv u => exact hc
  | any => trivial
  | rn y => exact zai.keep (fun _ _ => rfl) hfr y v hc
  | er cs o => obtain ⟨b, q, h1, h2, h3⟩ := hc; exact ⟨b, q, h1, hfr b h2, za4.keep (fun _ _ => rfl) hfr b rfl q cs h3⟩
 refine ⟨g, ⟨h.defers, h.size, h.anew, fun i => VR.map cr (h.slots i), fun b cs hb => ?_, fun b hb => h.base b ((hbx b).1 hb), fun b b' h1 h2 => h.inj b b' ((hbx b).1 h1) ((hbx b').1 h2), fun e' z hz h1 => ?_, fun e' z hz h1 => ?_, h.slc, fun e' h1 => h.ebase e' (hon e' h1).2, fun e' h1 => h.etop e' (hon e' h1).2, fun e' h1 => h.nodup e' (hon e' h1).2, fun e1 e2 h1 h2 => h.apart e1 e2 (hon e1 h1).2 (hon e2 h2).2, fun e' k h1 h2 => h.ebx e' k (hon e' h1).2 ((hbx k).1 h2)⟩, rfl, rfl⟩
 ·cases hc : σ.bx b with
  | none => unfold St.fs at hb; simp only [zr5, hc, Option.map_none] at hb; cases hb
  | some cs0 =>
   unfold St.fs at hb
   simp only [zr5, hc, Option.map_some, Option.some.injEq] at hb
   subst hb
   obtain ⟨vs, ty, k1, k2⟩ := h.boxes b cs0 hc
   exact ⟨vs, ty, k1, CRs.map cr k2⟩
 ·obtain ⟨ao, cap, e1, e2, e3, e4⟩ := h.evs e' z (hsome e' z hz).2 h1
  refine ⟨ao, cap, e1, e2, e3, ?_⟩
  rcases e4 with e4 | ⟨b, cells, ty, fps, k1, k2, k3, k4, k5⟩
  ·exact Or.inl e4
  ·refine Or.inr ⟨b, cells, ty, fps, k1, k2, k3, k4, ?_⟩
   split at k5
   ·rw [if_pos ‹_›]; exact k5
   ·rw [if_neg ‹_›]; exact ⟨k5.1, zaj.keep (fun _ _ => rfl) hf b rfl 0 z.sz z.rows k5.2⟩
 ·exact ⟨zai.keep (fun _ _ => rfl) hf _ _ (h.offs e' z (hsome e' z hz).2 h1).1, (h.offs e' z (hsome e' z hz).2 h1).2⟩
attribute [go_sem] C.fs St.fs fsS_at zr5
end Go.Proofs.YtmhbmpbgpjljeaaGreat
namespace Go.Proofs.YtmhbmpbgpjljeaaGreat
set_option linter.unusedSimpArgs false
set_option linter.unusedVariables false
set_option linter.unusedSectionVars false
set_option maxRecDepth 4000
open Go.RowKit
variable {P : Program}
theorem qi7 {σ : St} {g : Gh} {w : World} {e : Nat} {x : Ev} (he : σ.ev e = none) : ∀ {c : C} {v : Value}, CR σ g w c v -> C.fs e x c = c := fun {c v} hc => by
 have key : ∀ e' n, σ.has e' n -> e' ≠ e := fun e' n ⟨y, hy, _⟩ h => by
  rw [h, he] at hy; cases hy
 cases c with
 | ow e' n =>
  show (if e' = e then (if n = x.gen then C.t (.sl x.sz x.rows) else .any) else .ow e' n) = _
  rw [if_neg (key e' n hc.2)]
 | eo e' s sz i o =>
  obtain ⟨b, n, c, h1, h2, h3, h4⟩ := hc
  show (if e' = e then C.any else .eo e' s sz i o) = _
  rw [if_neg (key e' s h4)]
 | vw e' s sz o =>
  obtain ⟨b, n, c, h1, h2, h3, h4⟩ := hc
  show (if e' = e then C.any else .vw e' s sz o) = _
  rw [if_neg (key e' s h4)]
 | _ => rfl
theorem zt9 {σ : St} {g : Gh} {w : World} {e : Nat} {x : Ev} (he : σ.ev e = none) : ∀ {cs : List C} {vs : List Value}, CRs σ g w cs vs -> cs.map (C.fs e x) = cs
 | [], _, _ => rfl
 | c :: cs, _, h => by
  obtain ⟨v, vs', rfl, h1, h2⟩ := h
  rw [List.map_cons, qi7 he h1, zt9 he h2]
theorem nor_t {σ : St} {g : Gh} {w : World} {e : Nat} {x : Ev} (he : σ.ev e = none) : ∀ {xs : List (Bool × List C)} {vs : List Value}, CRt σ g w xs vs -> xs.map (fun y => (y.1, y.2.map (C.fs e x))) = xs
 | [], _, _ => rfl
 | y :: ys, _, h => by
  obtain ⟨v, vs', rfl, h1, h2⟩ := h
  rw [List.map_cons, nor_t he h2]
  obtain ⟨b, cs⟩ := y
  unfold CRx at h1
  simp only at h1 ⊢
  split at h1
  ·obtain ⟨a, _, h1⟩ := h1
   rw [zt9 he h1]
  ·obtain ⟨c, rfl, h1⟩ := h1
   rw [List.map_cons, qi7 he h1, List.map_nil]
theorem nor_v {σ : St} {g : Gh} {w : World} {e : Nat} {x : Ev} (he : σ.ev e = none) {y : V} {v : Value} (h : VR σ g w y v) : V.map (C.fs e x) y = y := by
 cases y with
 | one c => exact congrArg V.one (qi7 he h)
 | agg cs => obtain ⟨a, _, h⟩ := h; exact congrArg V.agg (zt9 he h)
 | tup xs => obtain ⟨vs, _, h⟩ := h; exact congrArg V.tup (nor_t he h)
section
variable {ks : List Fr} {Q : Exit -> St -> Prop} {σ : St} {ops : Array Oper} {os : List Oper} {L : List (List Ky × List Ky)} {d : Nat} {t : TypeId} {ty : TypeId} {ps : String} {af : Array Edge} {len : Nat} {parts : Array (Nat × Operand)} {n : Nat} {rs : List (List C)} {rows : List (List T)}
theorem zsf (h : zj1 P (σ.get P) t len parts = some (n, rs) /\ zpw σ rs = some rows /\ σ.ev (d * 32) = none) : zae P ⟨some d, .buildSlice t len parts, ty, ps, af, none⟩ σ (σ.put (some d) (.one (.t (.sl n rows)))) := fun n0 N g a w hR hn hdN => by
 refine Oper.wp_mono ?_ (zlx (P := P) (ty := ty) (ps := ps) (af := af) h n0 N g a w hR hn hdN)
 rintro a' w' ⟨g', r1, r2, r3, r4⟩
 have he := h.2.2
 obtain ⟨g2, s1, s2, s3⟩ := fs_wk (σ := (σ.apd (d * 32) [] ⟨false, n, rows, 0, true⟩).put (some d) (.one (.ow (d * 32) 0))) (e := d * 32) (x := ⟨false, n, rows, 0, true⟩) (zag _ _ _) rfl rfl n0 N g' a' w' r1
 refine ⟨g2, ?_, r2, s2.trans r3, s3.trans r4⟩
 have e1 : ((σ.apd (d * 32) [] ⟨false, n, rows, 0, true⟩).put (some d) (.one (.ow (d * 32) 0))).fs (d * 32) ⟨false, n, rows, 0, true⟩ = σ.put (some d) (.one (.t (.sl n rows))) := by
  have q1 : fsS (upd σ.sl d (.one (.ow (d * 32) 0))) (d * 32) ⟨false, n, rows, 0, true⟩ = upd σ.sl d (.one (.t (.sl n rows))) := funext fun i => by
   show V.map _ (upd σ.sl d _ i) = _
   by_cases hi : i = d
   ·subst hi
    rw [zag, zag]
    show V.one (C.fs _ _ (.ow _ 0)) = _
    simp [C.fs]
   ·rw [zak _ _ hi, zak _ _ hi]
    exact nor_v he (hR.slots i)
  have q2 : fsB σ.bx (d * 32) ⟨false, n, rows, 0, true⟩ = σ.bx := funext fun b => by
   show (σ.bx b).map _ = _
   cases hb : σ.bx b with
   | none => rfl
   | some cs =>
    obtain ⟨vs, ty', k1, k2⟩ := hR.boxes b cs hb
    exact congrArg some (zt9 he k2)
  have q3 : fsE (upd σ.ev (d * 32) (some ⟨false, n, rows, 0, true⟩)) (d * 32) = σ.ev := funext fun k => by
   show (if k = d * 32 then none else upd σ.ev (d * 32) _ k) = _
   by_cases hk : k = d * 32
   ·rw [if_pos hk, hk, he]
   ·rw [if_neg hk, zak _ _ hk]
  show St.mk (fsS (upd σ.sl d (.one (.ow (d * 32) 0))) (d * 32) ⟨false, n, rows, 0, true⟩) (fsB σ.bx (d * 32) ⟨false, n, rows, 0, true⟩) (fsE (upd σ.ev (d * 32) (some ⟨false, n, rows, 0, true⟩)) (d * 32)) = _
  rw [q1, q2, q3]
  rfl
 rw [e1] at s1
 exact s1
def slOf : Option (Ev × List (Nat × Ev)) -> T
 | some (x, _) => .sl x.sz x.rows
 | none => .sl 0 []
theorem zef (h : zan (blS P σ t len parts) fun _ => σ.ev (d * 32) = none) (k : exo P ops os ks Q (σ.put (some d) (.one (.t (slOf (blS P σ t len parts)))))) : exo P ops (⟨some d, .buildSlice t len parts, ty, ps, af, none⟩ :: os) ks Q σ := by
 obtain ⟨⟨x, cons⟩, h1, h2⟩ := zal h
 rw [h1] at k
 unfold blS at h1
 obtain ⟨p, e1, h1⟩ := Option.bind_eq_some_iff.1 h1
 obtain ⟨q, e2, h1⟩ := Option.map_eq_some_iff.1 h1
 simp only [Prod.mk.injEq] at h1
 obtain ⟨rfl, rfl⟩ := h1
 exact zce rfl rfl (zsf ⟨e1, e2, h2⟩) k
theorem zmr (h : zan (blS P σ t len parts) fun _ => σ.ev (d * 32) = none)
  (k : exd P ops os (L ++ [(zaq (parts.toList.map (·.2)) ++ (rK (qcg (zj1 P (σ.get P) t len parts)) ++ [(2, d * 32)]), dK (some d) ++ eK [])]) ks Q (σ.put (some d) (.one (.t (slOf (blS P σ t len parts)))))) :
  exd P ops (⟨some d, .buildSlice t len parts, ty, ps, af, none⟩ :: os) L ks Q σ := by
 obtain ⟨⟨x, cons⟩, h1, h2⟩ := zal h
 rw [h1] at k
 unfold blS at h1
 obtain ⟨p, e1, h1⟩ := Option.bind_eq_some_iff.1 h1
 obtain ⟨q, e2, h1⟩ := Option.map_eq_some_iff.1 h1
 simp only [Prod.mk.injEq] at h1
 obtain ⟨rfl, rfl⟩ := h1
 rw [e1] at k
 refine zg9 rfl rfl ?_ k
 have := zh3.of (P := P) (σ := σ) (o := ⟨some d, .buildSlice t len parts, ty, ps, af, none⟩) (l := []) (v := .one (.t (.sl p.1 q))) (R := zaq (parts.toList.map (·.2)) ++ (rK p.2 ++ [(2, d * 32)])) (zbd (zbq _) (zbd (zxh _) rfl)) fun σ1 h1 => ?_
 ·exact this
 ·have e3 : zj1 P (σ1.get P) t len parts = zj1 P (σ.get P) t len parts := zmp fun t x hx => zcb (fun k hk => h1 k (by simp [hk])) hx t
  have e4 : zpw σ1 p.2 = zpw σ p.2 := zll fun k hk => h1 k (by simp [hk])
  exact zsf ⟨e3.trans e1, e4.trans e2, (Eq.symm (h1 (2, d * 32) (by simp))).trans h2⟩
end
attribute [go_sem] slOf
end Go.Proofs.YtmhbmpbgpjljeaaGreat
namespace Go.Proofs.YtmhbmpbgpjljeaaGreat
set_option linter.unusedSimpArgs false
set_option linter.unusedVariables false
set_option linter.unusedSectionVars false
set_option maxRecDepth 4000
open Go.RowKit
variable {P : Program}
def SemR (P : Program) (N : Nat) (D : Nat -> Prop) (c : Code) (σ : St) (Q : Exit -> St -> Prop) : Prop :=
 ∀ (r : Option Nat) (n : Nat) (ds : List Deferred) (n0 : Nat -> Prop) (w0 : World) (A0 : (Nat -> Prop) × RP) (a0 : Act) (g : Gh) (a : Act) (w : World), Rel n0 N σ g a w -> LtK n0 w -> Bk n0 w0 w -> (g.A0, g.R0) = A0 -> Ag D a0 a -> c.wpIn (FR r) n P (qda n0 N w0 A0 ds D a0 Q) { a with defers := ds } w
variable {N : Nat} {D : Nat -> Prop}
theorem qda.mono {n0 : Nat -> Prop} {w0 : World} {A0 : (Nat -> Prop) × RP} {ds : List Deferred} {a0 : Act} {Q Q' : Exit -> St -> Prop} (h : ∀ e σ, Q e σ -> Q' e σ) {e : Exit} {a : Act} {w : World} (k : qda n0 N w0 A0 ds D a0 Q e a w) : qda n0 N w0 A0 ds D a0 Q' e a w := by
 obtain ⟨a1, k1, k2, k3⟩ := k
 exact ⟨a1, k1, k2, k3.mono h⟩
theorem SemR.block {i : Nat} {b : Code} {σ : St} {Q : Exit -> St -> Prop} (h : SemR P N D b σ (blkQ i Q)) : SemR P N D (.block i b) σ Q := fun r n ds n0 w0 A0 a0 g a w h1 h2 h3 h4 h5 => by
 refine wpIn_block (wpIn_mono (h r n ds n0 w0 A0 a0 g a w h1 h2 h3 h4 h5) fun e a' w' hq => ?_)
 obtain ⟨a1, rfl, hg1, σ', g', k1, k2, k3, k4, k5⟩ := hq
 cases e with
 | exit j =>
  simp only [Exit.inBlock]
  simp only [blkQ] at k1
  split at k1
  ·rw [if_pos ‹_›]; exact ⟨a1, rfl, hg1, σ', g', k1, k2, k3, k4, k5⟩
  ·rw [if_neg ‹_›]; exact ⟨a1, rfl, hg1, σ', g', k1, k2, k3, k4, k5⟩
 | normal => exact ⟨a1, rfl, hg1, σ', g', k1, k2, k3, k4, k5⟩
 | goto l => exact ⟨a1, rfl, hg1, σ', g', k1, k2, k3, k4, k5⟩
 | ret => exact ⟨a1, rfl, hg1, σ', g', k1, k2, k3, k4, k5⟩
 | panic ch => exact ⟨a1, rfl, hg1, σ', g', k1, k2, k3, k4, k5⟩
 | outgrown => exact ⟨a1, rfl, hg1, σ', g', k1, k2, k3, k4, k5⟩
end Go.Proofs.YtmhbmpbgpjljeaaGreat
namespace Go.Proofs.YtmhbmpbgpjljeaaGreat
set_option linter.unusedSimpArgs false
set_option linter.unusedVariables false
set_option linter.unusedSectionVars false
set_option maxRecDepth 4000
open Go.RowKit
variable {P : Program} {N : Nat}
theorem Wk.fzO {σ σ' : St} (e : Nat) (k : zan (σ.ev e) fun x => x.deep = true /\ x.on = true /\ Wk (σ.fz e x) σ') : Wk σ σ' := by
 obtain ⟨x, hx, h1, h2, h3⟩ := zal k
 exact (fz_wk hx h1 h2).trans h3
end Go.Proofs.YtmhbmpbgpjljeaaGreat
namespace Go.Proofs.YtmhbmpbgpjljeaaGreat
set_option linter.unusedSimpArgs false
set_option linter.unusedVariables false
set_option linter.unusedSectionVars false
set_option maxRecDepth 4000
open Go.RowKit
variable {P : Program} {N : Nat}
theorem FC.args {f : FuncId} {args args' res : List D} (h : FC P f args res) (hh : ∀ (w : World) (A : Nat -> Prop) (vs : List Value), zaz w A args' vs -> zaz w A args vs) : FC P f args' res := by
 refine ⟨h.1, fun w vs fp tp hv hn => ?_⟩
 obtain ⟨h1, rfl, rfl⟩ := zb1 hv
 exact h.2 w vs [] [] (zl2 (hh w _ vs h1)) hn
end Go.Proofs.YtmhbmpbgpjljeaaGreat
namespace Go.Proofs.YtmhbmpbgpjljeaaGreat
set_option linter.unusedSimpArgs false
set_option linter.unusedVariables false
set_option linter.unusedSectionVars false
set_option maxRecDepth 4000
open Go.RowKit
variable {P : Program} {N : Nat}
inductive Ob
 | mp (ag : Bool) (rows : List (List T))
 | it (src : Nat) (ag : Bool) (left : List (List T)) (last : Option (List T))
abbrev Hid := List (Nat × Ob)
def qbc (w : World) (A n1 : Nat -> Prop) (b : Nat) : Ob -> Prop
 | .mp ag rows => ∃ es clk, w.heap[b]? = some (.map es clk) /\ za5 w A ag rows es.toList /\ Go.MapKept.Stamped es clk
 | .it src ag left last => n1 src /\ ∃ es clk seen, w.heap[b]? = some (.mapIter (some src) clk seen clk) /\ w.heap[src]? = some (.map es clk) /\ Go.MapKept.Stamped es clk /\ za5 w A ag left (leftOf es seen).toList /\ ∀ r, last = some r -> ∃ e ∈ es.toList, seen.back? = some e.born /\ za5 w A ag [r] [e]
theorem qbc.keep {w w' : World} {A A' n1 n1' : Nat -> Prop} (hs : ∀ x, n1 x -> w'.heap[x]? = w.heap[x]?) (hA : ∀ x, A x -> n1 x) (ha : ∀ x, A x -> A' x) (hn : ∀ x, n1 x -> n1' x) {b : Nat} (hb : n1 b) : ∀ {o : Ob}, qbc w A n1 b o -> qbc w' A' n1' b o
 | .mp ag rows, ⟨es, clk, h1, h2, h3⟩ => ⟨es, clk, (hs b hb).trans h1, za5.keep (fun x hx => hs x (hA x hx)) ha ag rows _ h2, h3⟩
 | .it src ag left last, ⟨h0, es, clk, seen, h1, h2, h3, h4, h5⟩ => ⟨hn src h0, es, clk, seen, (hs b hb).trans h1, (hs src h0).trans h2, h3, za5.keep (fun x hx => hs x (hA x hx)) ha ag left _ h4, fun r hr => by
   obtain ⟨e, k1, k2, k3⟩ := h5 r hr
   exact ⟨e, k1, k2, za5.keep (fun x hx => hs x (hA x hx)) ha ag [r] _ k3⟩⟩
structure RelH (n0 : Nat -> Prop) (N : Nat) (σ : St) (H : Hid) (A0 : (Nat -> Prop) × RP) (g : Gh) (a : Act) (w : World) : Prop where
 rel : ∃ n1 : Nat -> Prop, (∀ x, n0 x -> n1 x) /\ (∀ p ∈ H, n1 p.1 /\ ¬ g.A0 p.1) /\ Rel n1 N σ g a w /\ LtK n1 w /\ ∀ p ∈ H, qbc w (fun x => n1 x /\ g.A0 x) n1 p.1 p.2
 nb : ∀ p ∈ H, ¬ n0 p.1
 nd : (H.map (·.1)).Nodup
 sub : ∀ x, g.A0 x -> A0.1 x
 r0 : g.R0 = A0.2
 new : ∀ x, ¬ n0 x -> A0.1 x /\ A0.2 x
theorem RelH.keep {n0 n1 : Nat -> Prop} {σ σ' : St} {H : Hid} {A0 : (Nat -> Prop) × RP} {g g' : Gh} {a a' : Act} {w w' : World} (h : RelH n0 N σ H A0 g a w) (hn : ∀ x, n0 x -> n1 x) (hH : ∀ p ∈ H, n1 p.1 /\ ¬ g.A0 p.1) (ho : ∀ p ∈ H, qbc w (fun x => n1 x /\ g.A0 x) n1 p.1 p.2)
  (h2 : Rel n1 N σ' g' a' w') (h3 : LtK n1 w') (h4 : Bk n1 w w') (h5 : (g'.A0, g'.R0) = (g.A0, g.R0)) : RelH n0 N σ' H A0 g' a' w' := by
 have e1 : g'.A0 = g.A0 := (Prod.mk.inj h5).1
 have e2 : g'.R0 = g.R0 := (Prod.mk.inj h5).2
 exact ⟨⟨n1, hn, fun p hp => by rw [e1]; exact hH p hp, h2, h3, fun p hp => qbc.keep h4.block (fun x hx => hx.1) (fun x hx => ⟨hx.1, by rw [e1]; exact hx.2⟩) (fun x hx => hx) (hH p hp).1 (ho p hp)⟩, h.nb, h.nd, by rw [e1]; exact h.sub, by rw [e2]; exact h.r0, h.new⟩
def zup (n0 : Nat -> Prop) (N : Nat) (w0 : World) (A0 : (Nat -> Prop) × RP) (Q : Exit -> St -> Hid -> Prop) (e : Exit) (a : Act) (w : World) : Prop := ∃ σ H g, Q e σ H /\ RelH n0 N σ H A0 g a w /\ LtK n0 w /\ Bk n0 w0 w
def SemH (P : Program) (N : Nat) (c : Code) (σ : St) (H : Hid) (Q : Exit -> St -> Hid -> Prop) : Prop := ∀ n0 w0 A0 g a w, RelH n0 N σ H A0 g a w -> LtK n0 w -> Bk n0 w0 w -> c.wp P (zup n0 N w0 A0 Q) a w
theorem zup.mono {n0 : Nat -> Prop} {w0 : World} {A0 : (Nat -> Prop) × RP} {Q Q' : Exit -> St -> Hid -> Prop} (h : ∀ e σ r, Q e σ r -> Q' e σ r) {e : Exit} {a : Act} {w : World} : zup n0 N w0 A0 Q e a w -> zup n0 N w0 A0 Q' e a w
 | ⟨σ, r, g, h1, h2⟩ => ⟨σ, r, g, h _ _ _ h1, h2⟩
theorem SemH.mono {c : Code} {σ : St} {H : Hid} {Q Q' : Exit -> St -> Hid -> Prop} (h : ∀ e σ r, Q e σ r -> Q' e σ r) (k : SemH P N c σ H Q) : SemH P N c σ H Q' := fun n0 w0 A0 g a w h1 h2 h3 => wp_mono (k n0 w0 A0 g a w h1 h2 h3) fun _ _ _ => zup.mono h
def blkH (i : Nat) (Q : Exit -> St -> Hid -> Prop) (e : Exit) (σ : St) (H : Hid) : Prop := match e with | .exit j => if j = i then Q .normal σ H else Q (.exit j) σ H | e => Q e σ H
theorem zwr (i j : Nat) (Q : Exit -> St -> Hid -> Prop) (σ : St) (H : Hid) : blkH i Q (.exit j) σ H = if j = i then Q .normal σ H else Q (.exit j) σ H := rfl
theorem SemH.block {i : Nat} {c : Code} {σ : St} {H : Hid} {Q : Exit -> St -> Hid -> Prop} (h : SemH P N c σ H (blkH i Q)) : SemH P N (.block i c) σ H Q := fun n0 w0 A0 g a w h1 h2 h3 => by
 refine wp_block (wp_mono (h n0 w0 A0 g a w h1 h2 h3) fun e a' w' hq => ?_)
 obtain ⟨σ', r', g', k1, k2, k3, k4⟩ := hq
 cases e with
 | exit j =>
  simp only [Exit.inBlock]
  simp only [zwr] at k1
  split at k1
  ·rw [if_pos ‹_›]; exact ⟨σ', r', g', k1, k2, k3, k4⟩
  ·rw [if_neg ‹_›]; exact ⟨σ', r', g', k1, k2, k3, k4⟩
 | normal => exact ⟨σ', r', g', k1, k2, k3, k4⟩
 | goto l => exact ⟨σ', r', g', k1, k2, k3, k4⟩
 | ret => exact ⟨σ', r', g', k1, k2, k3, k4⟩
 | panic ch => exact ⟨σ', r', g', k1, k2, k3, k4⟩
 | outgrown => exact ⟨σ', r', g', k1, k2, k3, k4⟩
end Go.Proofs.YtmhbmpbgpjljeaaGreat
namespace Go.Proofs.YtmhbmpbgpjljeaaGreat
set_option linter.unusedSimpArgs false
set_option linter.unusedVariables false
set_option linter.unusedSectionVars false
set_option maxRecDepth 4000
open Go.RowKit
variable {P : Program} {N : Nat}
def qji (P : Program) (N : Nat) (ops : Array Oper) (i : Nat) (σ : St) (H : Hid) (K : St -> Hid -> Prop) : Prop := ∀ (Q : Exit -> St -> Hid -> Prop) n0 w0 A0 g a w, (∀ σ' H', K σ' H' -> Q .normal σ' H') -> RelH n0 N σ H A0 g a w -> LtK n0 w -> Bk n0 w0 w -> wpOps P ops (zup n0 N w0 A0 Q) (List.range' i (ops.size - i)) a w
section
variable {ops : Array Oper} {i : Nat} {σ : St} {H : Hid} {K : St -> Hid -> Prop}
theorem qji.stepV {o : Oper} (hl : ops[i]? = some o) (hg : o.guard = none) (h : ∀ n0 A0 g a w, RelH n0 N σ H A0 g a w -> LtK n0 w -> ∃ v w' σ' H' g', (execOp a.eval o).run P w = .ok (.value v) w' /\ RelH n0 N σ' H' A0 g' (a.put o.dst v) w' /\ Bk n0 w w' /\ qji P N ops (i + 1) σ' H' K) : qji P N ops i σ H K := fun Q n0 w0 A0 g a w hK h1 h2 h3 => by
 have hlt : i < ops.size := (Array.getElem?_eq_some_iff.1 hl).1
 obtain ⟨v, w', σ', H', g', hex, hR, hb, hr⟩ := h n0 A0 g a w h1 h2
 rw [show List.range' i (ops.size - i) = i :: List.range' (i + 1) (ops.size - (i + 1)) by rw [show ops.size - i = (ops.size - (i + 1)) + 1 by omega]; rfl, wpOps_cons]
 unfold wpOp
 simp only [hl]
 rw [if_pos (by simp [Region.wanted, hg])]
 refine Or.inl ?_
 unfold Oper.wp
 rw [hex]
 exact hr Q n0 w0 A0 g' _ w' hK hR (h2.mono hb.size) (h3.trans hb)
variable {ty : TypeId} {ps : String} {af : Array Edge} {mt : TypeId}
end
end Go.Proofs.YtmhbmpbgpjljeaaGreat
namespace Go.Proofs.YtmhbmpbgpjljeaaGreat
set_option linter.unusedSimpArgs false
set_option linter.unusedVariables false
set_option linter.unusedSectionVars false
set_option maxRecDepth 4000
open Go.RowKit
variable {P : Program} {N : Nat}
theorem Rel.freeze {n1 : Nat -> Prop} {σ : St} {g : Gh} {a : Act} {w : World} (h : Rel n1 N σ g a w) (hn : LtK n1 w) : Rel (fun y => n1 y \/ zb0 σ g w y) N σ g a w /\ LtK (fun y => n1 y \/ zb0 σ g w y) w := by
 refine ⟨?_, fun y hy => ?_⟩
 ·have := h.turn (n1 := fun y => n1 y \/ zb0 σ g w y) (A1 := g.A0) (w' := w) (fun y hf => ⟨hf.2.2.2, rfl⟩) (Nat.le_refl _) (fun y hy => h.anew y fun q => hy (Or.inl q)) (fun j hj => ⟨?_, rfl⟩) fun e ho y hy => ⟨?_, (h.ebase e ho y hy).1, rfl⟩
  ·exact this
  ·rintro (q | q)
   ·exact h.base j hj q
   ·exact q.1.1 j hj rfl
  ·rintro (q | q)
   ·exact h.etop e ho y hy q
   ·exact q.2 e ho hy
 ·rcases hy with q | q
  ·exact hn y q
  ·exact q.1.2.2.1
theorem RelH.freeze {n0 : Nat -> Prop} {σ : St} {H : Hid} {A0 : (Nat -> Prop) × RP} {g : Gh} {a : Act} {w : World} (h : RelH n0 N σ H A0 g a w) : ∃ n1 : Nat -> Prop, (∀ x, n0 x -> n1 x) /\ (∀ p ∈ H, n1 p.1 /\ ¬ g.A0 p.1) /\ Rel n1 N σ g a w /\ LtK n1 w /\ (∀ p ∈ H, qbc w (fun x => n1 x /\ g.A0 x) n1 p.1 p.2) /\ ∀ x, zb0 σ g w x -> n1 x := by
 obtain ⟨n1, k1, k2, k4, k5, k7⟩ := h.rel
 obtain ⟨r1, r2⟩ := k4.freeze k5
 exact ⟨fun y => n1 y \/ zb0 σ g w y, fun x hx => Or.inl (k1 x hx), fun p hp => ⟨Or.inl (k2 p hp).1, (k2 p hp).2⟩, r1, r2, fun p hp => qbc.keep (fun _ _ => rfl) (fun x hx => hx.1) (fun x hx => ⟨Or.inl hx.1, hx.2⟩) (fun x hx => Or.inl hx) (k2 p hp).1 (k7 p hp), fun x hx => Or.inr hx⟩
end Go.Proofs.YtmhbmpbgpjljeaaGreat
namespace Go.Proofs.YtmhbmpbgpjljeaaGreat
set_option linter.unusedSimpArgs false
set_option linter.unusedVariables false
set_option linter.unusedSectionVars false
set_option maxRecDepth 4000
open Go.RowKit
variable {P : Program} {N : Nat}
section
variable {ops : Array Oper} {i d : Nat} {σ : St} {H : Hid} {K : St -> Hid -> Prop} {ty : TypeId} {ps : String} {af : Array Edge} {mt : TypeId} {x : Operand}
theorem qd8 {n0 : Nat -> Prop} {A0 : (Nat -> Prop) × RP} {g : Gh} {a : Act} {w : World} {src : Nat} {ag : Bool} {rows : List (List T)} (h1 : RelH n0 N σ H A0 g a w) (h2 : LtK n0 w) (hd : d < N)
  (hs : ∀ n1 : Nat -> Prop, (∀ x, zb0 σ g w x -> n1 x) -> (∀ p ∈ H, n1 p.1) -> (∀ p ∈ H, qbc w (fun x => n1 x /\ g.A0 x) n1 p.1 p.2) -> n1 src /\ ∃ es clk, w.heap[src]? = some (.map es clk) /\ za5 w (fun x => n1 x /\ g.A0 x) ag rows es.toList /\ Go.MapKept.Stamped es clk /\ clk = clk) :
  ∃ es clk, w.heap[src]? = some (.map es clk) /\ (∀ p ∈ H, p.1 ≠ w.heap.size) /\ RelH n0 N (σ.put (some d) (.one (.cv (.pointer (some ⟨w.heap.size, 0, none⟩))))) ((w.heap.size, .it src ag rows none) :: H) A0 { g with A0 := fun b => g.A0 b /\ b ≠ w.heap.size } (a.put (some d) (.pointer (some ⟨w.heap.size, 0, none⟩))) (w.alloc (.mapIter (some src) clk #[] clk)) /\ Bk n0 w (w.alloc (.mapIter (some src) clk #[] clk)) := by
 obtain ⟨n1, k1, k2, k4, k5, k7, kF⟩ := h1.freeze
 obtain ⟨hsrc, es, clk, q1, q2, q3, _⟩ := hs n1 kF (fun p hp => (k2 p hp).1) k7
 have hlt : ∀ p ∈ H, p.1 < w.heap.size := fun p hp => k5 p.1 (k2 p hp).1
 have hne : ∀ p ∈ H, p.1 ≠ w.heap.size := fun p hp => by have := hlt p hp; omega
 have hR1 := (k4.enter1 (.mapIter (some src) clk #[] clk)).put (some d) (x := .one (.cv (.pointer (some ⟨w.heap.size, 0, none⟩)))) (v := .pointer (some ⟨w.heap.size, 0, none⟩)) rfl (fun j hj => by cases hj; exact hd)
 have hold : ∀ x, x < w.heap.size -> (w.alloc (.mapIter (some src) clk #[] clk)).heap[x]? = w.heap[x]? := fun x hx => Below.heap_alloc _ _ _ hx
 refine ⟨es, clk, q1, hne, ⟨⟨fun b => n1 b \/ b = w.heap.size, fun x hx => Or.inl (k1 x hx), fun p hp => ?_, hR1, fun x hx => ?_, fun p hp => ?_⟩, fun p hp => ?_, ?_, fun x hx => h1.sub x hx.1, h1.r0, h1.new⟩, ⟨rfl, rfl, rfl, by simp, fun k hk => hold k (h2 k hk)⟩⟩
 ·rcases List.mem_cons.1 hp with rfl | hp
  ·exact ⟨Or.inr rfl, fun q => q.2 rfl⟩
  ·exact ⟨Or.inl (k2 p hp).1, fun q => (k2 p hp).2 q.1⟩
 ·rcases hx with q | q
  ·have := k5 x q; simp; omega
  ·simp; omega
 ·rcases List.mem_cons.1 hp with rfl | hp
  ·refine ⟨Or.inl hsrc, es, clk, #[], heap_alloc_new _ _, (hold src (k5 src hsrc)).trans q1, q3, ?_, fun r hr => by cases hr⟩
   have hl : leftOf es #[] = es := by unfold leftOf; simp
   rw [hl]
   exact za5.keep (fun x hx => hold x (k5 x hx.1)) (fun x hx => ⟨Or.inl hx.1, hx.2, fun e => by have := k5 x hx.1; omega⟩) ag rows _ q2
  ·exact qbc.keep (fun x hx => hold x (k5 x hx)) (fun x hx => hx.1) (fun x hx => ⟨Or.inl hx.1, hx.2, fun e => by have := k5 x hx.1; omega⟩) (fun x hx => Or.inl hx) (k2 p hp).1 (k7 p hp)
 ·rcases List.mem_cons.1 hp with rfl | hp
  ·exact h2.new (Nat.le_refl _)
  ·exact h1.nb p hp
 ·rw [List.map_cons, List.nodup_cons]
  refine ⟨fun hm => ?_, h1.nd⟩
  obtain ⟨p, hp, e⟩ := List.mem_map.1 hm
  exact hne p hp e
theorem qji.range (ag : Bool) (rows : List (List T)) (hl : ops[i]? = some ⟨some d, .range mt x, ty, ps, af, none⟩) (hd : d < N) (hm : (mapT P mt).isSome = true) (hx : σ.get P 0 x = .one (.rn (.mq ag rows)))
  (k : ∀ b src, (∀ p ∈ H, p.1 ≠ b) -> (∀ p ∈ H, src ≠ p.1) -> src ≠ b -> qji P N ops (i + 1) (σ.put (some d) (.one (.cv (.pointer (some ⟨b, 0, none⟩))))) ((b, .it src ag rows none) :: H) K) : qji P N ops i σ H K := qji.stepV hl rfl fun n0 A0 g a w h1 h2 => by
 obtain ⟨⟨dd, et⟩, ht⟩ := Option.isSome_iff_exists.1 hm
 obtain ⟨kt, t1, t2⟩ := qgh ht
 obtain ⟨n2, _, z2, z4, z5, z7⟩ := h1.rel
 have hv := z4.get P 0 x
 rw [hx] at hv
 have hv : zai w (zb0 σ g w) (.mq ag rows) (a.eval x) := hv
 unfold zai at hv
 obtain ⟨src, es, clk, e1, hF, q1, q2, q3⟩ := hv
 obtain ⟨es2, clk2, c1, c2, c3, c4⟩ := qd8 (d := d) (src := src) (ag := ag) (rows := rows) h1 h2 hd fun n1 f1 f2 f3 => ⟨f1 src hF, es, clk, q1, za5.keep (fun _ _ => rfl) (fun y hy => ⟨f1 y hy, hy.1.2.2.2⟩) ag rows _ q2, q3, rfl⟩
 refine ⟨_, _, _, _, _, ?_, c3, c4, k w.heap.size src c2 (fun p hp e => (z2 p hp).2 (e ▸ hF.1.2.2.2)) (fun e => by have := hF.1.2.2.1; omega)⟩
 unfold execOp
 simp only [e1, Sem.run_bind, run_range_map w mt kt et src es2 clk2 t1 c1, Result.andThen_ok, Sem.run_pure]
end
end Go.Proofs.YtmhbmpbgpjljeaaGreat
namespace Go.Proofs.YtmhbmpbgpjljeaaGreat
set_option linter.unusedSimpArgs false
set_option linter.unusedVariables false
set_option linter.unusedSectionVars false
set_option maxRecDepth 4000
open Go.RowKit
variable {P : Program} {N : Nat}
theorem zvb {ops : Array Oper} {σs : Nat -> St} {L : List (List Ky × List Ky)} {n0 : Nat -> Prop} {N : Nat} {w0 : World} {A0 : (Nat -> Prop) × RP} {Q : Exit -> Act -> World -> Prop} {m : Nat}
  (hL : ∀ i (h : i < ops.size), i < m -> Loc P ops ops[i] (L.getD i ([], [])).1 (L.getD i ([], [])).2 (σs i) (σs (i + 1))) (hord : zk3 ops L m = true) (hdst : ∀ o ∈ ops, ∀ d, o.dst = some d -> d < N)
  (hT : ∀ g a w, Rel n0 N (σs m) g a w -> LtK n0 w -> Bk n0 w0 w -> (g.A0, g.R0) = A0 -> wpOps P ops Q (List.range' m (ops.size - m)) a w) :
  ∀ (fuel : Nat) (listed : Array Bool) (g : Gh) (a : Act) (w : World), listed.size = ops.size -> cnt (fun i => listed.getD i false) ops.size = fuel →
   (∀ j (h : j < ops.size), listed.getD j false = true -> ∀ e ∈ ops[j].after, Region.binds .any e = true -> listed.getD e.on false = true) -> (∀ j, m <= j -> listed.getD j false = false) →
   Rel n0 N (Fp σs (fun i => L.getD i ([], [])) (fun i => listed.getD i false) m) g a w -> LtK n0 w -> Bk n0 w0 w -> (g.A0, g.R0) = A0 -> wpAny P .any ops Q fuel listed a w := by
 have hget : ∀ j (h : j < ops.size), ops.getD j default = ops[j] := fun j h => by simp [Array.getD, h]
 unfold zk3 at hord
 rw [Bool.and_eq_true] at hord
 obtain ⟨hm, hord⟩ := hord
 have hm : m <= ops.size := by simpa using hm
 have hok : ∀ i, i < m -> okK (L.getD i ([], [])).2 = true := fun i h => (hL i (by omega) h).1
 have hRk : ∀ i, i < m -> okK (L.getD i ([], [])).1 = true := fun i h => (hL i (by omega) h).2.1
 have hoff : ∀ i, i < m -> ∀ k : Ky, k.1 < 3 -> k ∉ (L.getD i ([], [])).2 -> zaw (σs i) (σs (i + 1)) k := fun i h => (hL i (by omega) h).2.2.1
 simp only [List.all_eq_true, List.mem_range, Bool.and_eq_true] at hord
 have hlt : ∀ j (h : j < ops.size), ∀ e ∈ ops[j].after, Region.binds .any e = true -> e.on < j := fun j h e he hb => by
  have := (hord j h).1.1
  rw [hget j h] at this
  have := (Array.all_eq_true_iff_forall_mem.1 this) e he
  simpa [hb] using this
 have hbef : ∀ j (h : j < ops.size), ∀ i, i < ops.size -> ((Region.before ops).getD j 0).testBit i = true -> ∃ e ∈ ops[j].after, Region.binds .any e = true /\ (e.on = i \/ ((Region.before ops).getD e.on 0).testBit i = true) := fun j h i hi hb => by
  have := (hord j h).1.2 i hi
  rw [hb, hget j h] at this
  simp only [Bool.not_true, Bool.false_or] at this
  obtain ⟨e, he, h1⟩ := Array.any_eq_true'.1 this
  simp only [Bool.and_eq_true, Bool.or_eq_true, beq_iff_eq] at h1
  exact ⟨e, he, h1.1, h1.2⟩
 have hdis : ∀ i j, i < j -> j < m -> ((Region.before ops).getD j 0).testBit i = false -> (∀ k ∈ (L.getD i ([], [])).2, k ∉ (L.getD j ([], [])).1 /\ k ∉ (L.getD j ([], [])).2) /\ ∀ k ∈ (L.getD i ([], [])).1, k ∉ (L.getD j ([], [])).2 := fun i j hij hj hb => by
  have := (hord j (by omega)).2 i hij
  rw [hb] at this
  simp only [Bool.false_or, Bool.and_eq_true, List.all_eq_true, Bool.not_eq_true', List.contains_eq_mem, decide_eq_false_iff_not] at this
  exact ⟨fun k hk => this.1.2 k hk, fun k hk => this.2 k hk⟩
 have hchain : ∀ i j, i < j -> j < ops.size -> m <= j -> ((Region.before ops).getD j 0).testBit i = true := fun i j hij hj hmj => by
  have := (hord j hj).2 i hij
  cases hb : ((Region.before ops).getD j 0).testBit i with
  | true => rfl
  | false =>
   rw [hb] at this
   simp only [Bool.false_or, Bool.and_eq_true, decide_eq_true_eq] at this
   omega
 have hclosed : ∀ listed : Array Bool, (∀ j (h : j < ops.size), listed.getD j false = true -> ∀ e ∈ ops[j].after, Region.binds .any e = true -> listed.getD e.on false = true) -> ∀ j (h : j < ops.size), listed.getD j false = true -> ∀ i, i < ops.size -> ((Region.before ops).getD j 0).testBit i = true -> listed.getD i false = true := by
  intro listed hcl j
  induction j using Nat.strongRecOn with
  | _ j ihj =>
   intro h hl i hi hbi
   obtain ⟨e, he, h1, h2⟩ := hbef j h i hi hbi
   have hle := hcl j h hl e he h1
   have hlt' := hlt j h e he h1
   rcases h2 with rfl | h2
   ·exact hle
   ·exact ihj e.on hlt' (by omega) hle i hi h2
 have hready : ∀ (listed : Array Bool), listed.size = ops.size -> ∀ i, i ∈ Region.ready .any ops listed -> ∃ hi : i < ops.size, listed.getD i false = false /\ ∀ e ∈ ops[i].after, Region.binds .any e = true -> listed.getD e.on false = true := fun listed hsz i hi => by
  unfold Region.ready at hi
  rw [List.mem_filter] at hi
  obtain ⟨hi1, hi2⟩ := hi
  have hi' := List.mem_range.1 hi1
  rw [Array.getElem?_eq_getElem hi'] at hi2
  simp only [Option.map_some, Option.getD_some, Bool.and_eq_true, Bool.not_eq_true'] at hi2
  obtain ⟨hl0, hafter⟩ := hi2
  refine ⟨hi', ?_, fun e he hbd => ?_⟩
  ·simp only [Array.getD_eq_getD_getElem?] at hl0 ⊢
   rw [Array.getElem?_eq_getElem (by omega)] at hl0 ⊢
   exact hl0
  ·have := (Array.all_eq_true_iff_forall_mem.1 hafter) e he
   simpa [hbd] using this
 have hsome : ∀ (listed : Array Bool), listed.size = ops.size -> Region.ready .any ops listed = [] -> cnt (fun i => listed.getD i false) ops.size = 0 := fun listed hsz hr => by
  have : ∀ j, j < ops.size -> listed.getD j false = true := by
   intro j
   induction j using Nat.strongRecOn with
   | _ j ihj =>
    intro hj
    cases hl : listed.getD j false with
    | true => rfl
    | false =>
     exfalso
     have hmem : j ∈ Region.ready .any ops listed := by
      unfold Region.ready
      rw [List.mem_filter]
      refine ⟨List.mem_range.2 hj, ?_⟩
      have hl' : listed.getD j true = false := by
       simp only [Array.getD_eq_getD_getElem?] at hl ⊢
       rw [Array.getElem?_eq_getElem (by omega)] at hl ⊢
       exact hl
      rw [hl', Array.getElem?_eq_getElem hj]
      simp only [Bool.not_false, Bool.true_and, Option.map_some, Option.getD_some]
      rw [Array.all_eq_true_iff_forall_mem]
      intro e he
      cases hbd : Region.binds .any e with
      | false => rfl
      | true => simpa using ihj e.on (hlt j hj e he hbd) (by have := hlt j hj e he hbd; omega)
     rw [hr] at hmem
     exact absurd hmem (by simp)
  have : ∀ k, k <= ops.size -> cnt (fun i => listed.getD i false) k = 0 := by
   intro k
   induction k with
   | zero => intro _; rfl
   | succ k ihk => intro hk; unfold cnt; rw [if_pos (this k (by omega)), ihk (by omega)]
  exact this _ (Nat.le_refl _)
 have hset : ∀ (listed : Array Bool) (i : Nat), i < listed.size -> ∀ j, (listed.setIfInBounds i true).getD j false = if j = i then true else listed.getD j false := fun listed i hi j => by
  simp only [Array.getD_eq_getD_getElem?, Array.getElem?_setIfInBounds]
  by_cases hji : j = i
  ·subst hji; rw [if_pos rfl, if_pos hi, if_pos rfl]; rfl
  ·rw [if_neg (fun h => hji h.symm), if_neg hji]
 have hnone : ∀ (listed : Array Bool), listed.size = ops.size -> (∀ j, j < ops.size -> listed.getD j false = true) -> Region.ready .any ops listed = [] := fun listed hsz hall => by
  unfold Region.ready
  rw [List.filter_eq_nil_iff]
  intro i hi
  have hi' := List.mem_range.1 hi
  have := hall i hi'
  simp only [Array.getD_eq_getD_getElem?] at this ⊢
  rw [Array.getElem?_eq_getElem (by omega)] at this ⊢
  simp only [Option.getD_some] at this ⊢
  simp [this]
 have tail : ∀ (k j : Nat) (listed : Array Bool) (a : Act) (w : World), j + k = ops.size -> m <= j -> listed.size = ops.size -> (∀ i, i < ops.size -> listed.getD i false = decide (i < j)) -> wpOps P ops Q (List.range' j k) a w -> wpAny P .any ops Q k listed a w := by
  intro k
  induction k with
  | zero =>
   intro j listed a w hjk hmj hsz hls h
   exact ⟨hnone listed hsz fun i hi => by rw [hls i hi]; simp; omega, h⟩
  | succ k ih =>
   intro j listed a w hjk hmj hsz hls h
   have hj : j < ops.size := by omega
   refine ⟨fun hr => ?_, fun i hi => ?_⟩
   ·exfalso
    have hz : listed.getD j false = true := zdc _ (hsome listed hsz hr) j hj
    rw [hls j hj] at hz
    simp at hz
   ·obtain ⟨hi', hl, hdue⟩ := hready listed hsz i hi
    have hij : i = j := by
     rcases Nat.lt_trichotomy i j with h1 | h1 | h1
     ·rw [hls i hi'] at hl; simp at hl; omega
     ·exact h1
     ·exfalso
      obtain ⟨e, he, k1, k2⟩ := hbef i hi' j hj (hchain j i h1 hi' (by omega))
      have hle := hdue e he k1
      have hel := hlt i hi' e he k1
      rw [hls e.on (by omega)] at hle
      have hle : e.on < j := by simpa using hle
      rcases k2 with k2 | k2
      ·omega
      ·have : ∀ x, x < ops.size -> ∀ y, y < ops.size -> ((Region.before ops).getD x 0).testBit y = true -> y < x := by
        intro x
        induction x using Nat.strongRecOn with
        | _ x ihx =>
         intro hx y hy hbxy
         obtain ⟨e', he', q1, q2⟩ := hbef x hx y hy hbxy
         have := hlt x hx e' he' q1
         rcases q2 with rfl | q2
         ·exact this
         ·have := ihx e'.on this (by omega) y hy q2; omega
       have := this e.on (by omega) j hj k2
       omega
    subst hij
    rw [List.range'_succ, wpOps_cons] at h
    refine wpOp_mono (fun a' w' hK => ih (i + 1) _ a' w' (by omega) (by omega) (by simpa using hsz) (fun x hx => ?_) hK) h
    rw [hset listed i (by omega), hls x hx]
    by_cases hxi : x = i
    ·subst hxi; simp
    ·rw [if_neg hxi]
     congr 1
     simp only [eq_iff_iff]
     omega
 intro fuel
 induction fuel with
 | zero =>
  intro listed g a w hsz hc hcl hno hrel hn hb hA
  have hall := zdc _ hc
  have hme : m = ops.size := by
   rcases Nat.lt_or_ge m ops.size with h | h
   ·have h1 := hall m h
    rw [hno m (Nat.le_refl _)] at h1; cases h1
   ·omega
  refine ⟨hnone listed hsz hall, ?_⟩
  rw [zdf hok hoff m (Nat.le_refl _) fun j hj => hall j (by omega)] at hrel
  have := hT g a w hrel hn hb hA
  rw [hme, Nat.sub_self] at this
  exact this
 | succ fuel ih =>
  intro listed g a w hsz hc hcl hno hrel hn hb hA
  have hbb := hclosed listed hcl
  refine ⟨fun hr => ?_, fun i hi => ?_⟩
  ·exfalso
   have := hsome listed hsz hr
   omega
  ·obtain ⟨hi', hl, hdue⟩ := hready listed hsz i hi
   have h1 : ∀ j, j < ops.size -> ((Region.before ops).getD i 0).testBit j = true -> listed.getD j false = true := fun j hj hbj => by
    obtain ⟨e, he, k1, k2⟩ := hbef i hi' j hj hbj
    have hle := hdue e he k1
    have hlt' := hlt i hi' e he k1
    rcases k2 with rfl | k2
    ·exact hle
    ·exact hbb e.on (by omega) hle j hj k2
   by_cases him : i < m
   ·have h2 : ∀ j, j < m -> listed.getD j false = true -> ((Region.before ops).getD j 0).testBit i = true -> listed.getD i false = true := fun j hj hlj hbj => hbb j (by omega) hlj i hi' hbj
    have hset' := hset listed i (by omega)
    obtain ⟨_, _, _, hstep⟩ := hL i hi' him
    have hG := hstep _ (fun k hk => zla (σs := σs) (RW := fun i => L.getD i ([], [])) (b := fun j i => ((Region.before ops).getD j 0).testBit i) (p := fun i => listed.getD i false) hok hoff hRk hdis him hl (fun j hj hb => h1 j (by omega) hb) h2 hk)
    have hw := zh0 (σs := σs) (RW := fun i => L.getD i ([], [])) (b := fun j i => ((Region.before ops).getD j 0).testBit i) (p := fun i => listed.getD i false) hok hdis him hl (fun j hj hb => h1 j (by omega) hb) h2 (p' := fun j => (listed.setIfInBounds i true).getD j false) hset'
    have hcnt := zjn (p := fun i => listed.getD i false) (q := fun j => (listed.setIfInBounds i true).getD j false) hl hset' ops.size hi'
    have hG' := hG n0 N g a w hrel hn (hdst _ (Array.getElem_mem hi'))
    rw [<- hw] at hG'
    have next : ∀ a' w', (∃ g', Rel n0 N (Fp σs (fun i => L.getD i ([], [])) (fun j => (listed.setIfInBounds i true).getD j false) m) g' a' w' /\ Bk n0 w w' /\ g'.A0 = g.A0 /\ g'.R0 = g.R0) -> wpAny P .any ops Q fuel (listed.setIfInBounds i true) a' w' := by
     rintro a' w' ⟨g', k1, k2, k3, k4⟩
     refine ih _ g' a' w' (by simpa using hsz) (by omega) (fun j hj hlj e he hbd => ?_) (fun j hj => by rw [hset', if_neg (by omega)]; exact hno j hj) k1 (hn.mono k2.size) (hb.trans k2) (by rw [k3, k4]; exact hA)
     rw [hset'] at hlj ⊢
     by_cases heo : e.on = i
     ·rw [if_pos heo]
     ·rw [if_neg heo]
      by_cases hji : j = i
      ·subst hji; exact hdue e he hbd
      ·rw [if_neg hji] at hlj; exact hcl j hj hlj e he hbd
    unfold wpOp
    rw [Array.getElem?_eq_getElem hi']
    simp only
    split
    ·rename_i hwd
     rw [if_pos hwd] at hG'
     exact Or.inl (zbt next hG')
    ·rename_i hwd
     rw [if_neg hwd] at hG'
     obtain ⟨g', k1, k2, k3⟩ := hG'
     exact next _ _ ⟨g', k1, Bk.refl _ _, k2, k3⟩
   ·-- the chain begins
    have hmi : i = m := by
     rcases Nat.lt_trichotomy i m with h3 | h3 | h3
     ·omega
     ·exact h3
     ·exfalso
      have := h1 m (by omega) (hchain m i h3 hi' (by omega))
      rw [hno m (Nat.le_refl _)] at this; cases this
    subst hmi
    have hall : ∀ j, j < i -> listed.getD j false = true := fun j hj => h1 j (by omega) (hchain j i hj hi' (Nat.le_refl _))
    rw [zdf hok hoff i (Nat.le_refl _) hall] at hrel
    have hls : ∀ x, x < ops.size -> listed.getD x false = decide (x < i) := fun x hx => by
     by_cases hxi : x < i
     ·rw [hall x hxi]; simp [hxi]
     ·rw [hno x (by omega)]; simp [hxi]
    have hcnt : fuel + 1 = ops.size - i := by
     rw [<- hc]
     have : ∀ n, n <= ops.size -> cnt (fun i => listed.getD i false) n = n - i := by
      intro n
      induction n with
      | zero => intro _; simp [cnt]
      | succ n ihn =>
       intro hn'
       unfold cnt
       rw [ihn (by omega), hls n (by omega)]
       by_cases hni : n < i
       ·rw [if_pos (by simpa using hni)]; omega
       ·rw [if_neg (by simpa using hni)]; omega
     exact this _ (Nat.le_refl _)
    have := tail (fuel + 1) i listed a w (by omega) (Nat.le_refl _) hsz hls (by rw [hcnt]; exact hT g a w hrel hn hb hA)
    exact this.2 i hi
structure Hj where
 F : Nat -> Prop
 R : Nat -> Prop
 I : World -> Prop
structure GoodJ (J : Hj) : Prop where
 dis : ∀ x, J.R x -> ¬ J.F x
 keep : ∀ w w' : World, (∀ x, J.F x \/ J.R x -> w'.heap[x]? = w.heap[x]?) -> J.I w -> J.I w'
structure OkJ (J : Hj) (n1 A0 : Nat -> Prop) (w : World) : Prop where
 good : GoodJ J
 F : ∀ x, J.F x -> n1 x /\ ¬ A0 x
 R : ∀ x, J.R x -> n1 x
 I : J.I w
structure RelJ (n0 : Nat -> Prop) (N : Nat) (σ : St) (J : Hj) (A0 : (Nat -> Prop) × RP) (g : Gh) (a : Act) (w : World) : Prop where
 rel : ∃ n1 : Nat -> Prop, (∀ x, n0 x -> n1 x) /\ OkJ J n1 g.A0 w /\ Rel n1 N σ g a w /\ LtK n1 w
 nb : ∀ x, J.F x -> ¬ n0 x
 sub : ∀ x, g.A0 x -> A0.1 x
 r0 : g.R0 = A0.2
 new : ∀ x, ¬ n0 x -> A0.1 x /\ A0.2 x
theorem RelJ.keep {n0 n1 : Nat -> Prop} {σ σ' : St} {J : Hj} {A0 : (Nat -> Prop) × RP} {g g' : Gh} {a a' : Act} {w w' : World} (h : RelJ n0 N σ J A0 g a w) (hn : ∀ x, n0 x -> n1 x) (ho : OkJ J n1 g.A0 w)
  (h2 : Rel n1 N σ' g' a' w') (h3 : LtK n1 w') (h4 : Bk n1 w w') (h5 : (g'.A0, g'.R0) = (g.A0, g.R0)) : RelJ n0 N σ' J A0 g' a' w' := by
 have e1 : g'.A0 = g.A0 := (Prod.mk.inj h5).1
 have e2 : g'.R0 = g.R0 := (Prod.mk.inj h5).2
 exact ⟨⟨n1, hn, ⟨ho.good, by rw [e1]; exact ho.F, ho.R, ho.good.keep w w' (fun x hx => h4.block x (hx.elim (fun k => (ho.F x k).1) (ho.R x))) ho.I⟩, h2, h3⟩, h.nb, by rw [e1]; exact h.sub, by rw [e2]; exact h.r0, h.new⟩
def EndsJ (n0 : Nat -> Prop) (N : Nat) (w0 : World) (A0 : (Nat -> Prop) × RP) (Q : Exit -> St -> Hj -> Prop) (e : Exit) (a : Act) (w : World) : Prop := ∃ σ J g, Q e σ J /\ RelJ n0 N σ J A0 g a w /\ LtK n0 w /\ Bk n0 w0 w
def zbj (P : Program) (N : Nat) (c : Code) (σ : St) (J : Hj) (Q : Exit -> St -> Hj -> Prop) : Prop := ∀ n0 w0 A0 g a w, RelJ n0 N σ J A0 g a w -> LtK n0 w -> Bk n0 w0 w -> c.wp P (EndsJ n0 N w0 A0 Q) a w
theorem zbj.ofEx {c : Code} {σ : St} {J : Hj} {Q : Exit -> St -> Hj -> Prop} (hd : zcf N c = true) (h : ex P c [] (fun e σ' => Q e σ' J) σ) : zbj P N c σ J Q := fun n0 w0 A0 g a w hM h2 h3 => by
 obtain ⟨n1, k1, k2, k4, k5⟩ := hM.rel
 refine wp_mono (zbf (w0 := w) (A0 := (g.A0, g.R0)) c σ _ hd h g a w k4 k5 (Bk.refl _ _) rfl) fun e a' w' hq => ?_
 obtain ⟨σ', g', h1, m2, m3, m4, m5⟩ := hq
 exact ⟨σ', J, g', h1, hM.keep k1 k2 m2 m3 m4 m5, h2.mono m4.size, h3.trans (zrn k1 m4)⟩
def zuu (P : Program) (N : Nat) (c : Code) (Q : Exit -> St -> Hj -> Prop) (e : Exit) (σ : St) (J : Hj) : Prop := match e with | .normal => zbj P N c σ J Q | e => Q e σ J
theorem zpb (c : Code) (Q : Exit -> St -> Hj -> Prop) (σ : St) (J : Hj) : zuu P N c Q .normal σ J = zbj P N c σ J Q := rfl
theorem qas (c : Code) (Q : Exit -> St -> Hj -> Prop) (σ : St) (J : Hj) : zuu P N c Q .ret σ J = Q .ret σ J := rfl
theorem zuq (c : Code) (Q : Exit -> St -> Hj -> Prop) (σ : St) (J : Hj) (i : Nat) : zuu P N c Q (.exit i) σ J = Q (.exit i) σ J := rfl
theorem zbj.seq {x y : Code} {σ : St} {J : Hj} {Q : Exit -> St -> Hj -> Prop} (h : zbj P N x σ J (zuu P N y Q)) : zbj P N (.seq x y) σ J Q := fun n0 w0 A0 g a w h1 h2 h3 => by
 refine wp_seq (wp_mono (h n0 w0 A0 g a w h1 h2 h3) fun e a' w' hq => ?_)
 obtain ⟨σ', r', g', k1, k2, k3, k4⟩ := hq
 cases e with
 | normal => exact k1 n0 w0 A0 g' a' w' k2 k3 k4
 | exit i => exact ⟨σ', r', g', k1, k2, k3, k4⟩
 | goto l => exact ⟨σ', r', g', k1, k2, k3, k4⟩
 | ret => exact ⟨σ', r', g', k1, k2, k3, k4⟩
 | panic ch => exact ⟨σ', r', g', k1, k2, k3, k4⟩
 | outgrown => exact ⟨σ', r', g', k1, k2, k3, k4⟩
def blkJ (i : Nat) (Q : Exit -> St -> Hj -> Prop) (e : Exit) (σ : St) (J : Hj) : Prop := match e with | .exit j => if j = i then Q .normal σ J else Q (.exit j) σ J | e => Q e σ J
theorem zqh (i : Nat) (Q : Exit -> St -> Hj -> Prop) (σ : St) (J : Hj) : blkJ i Q .normal σ J = Q .normal σ J := rfl
theorem qb1 (i : Nat) (Q : Exit -> St -> Hj -> Prop) (σ : St) (J : Hj) : blkJ i Q .ret σ J = Q .ret σ J := rfl
theorem zoi (i j : Nat) (Q : Exit -> St -> Hj -> Prop) (σ : St) (J : Hj) : blkJ i Q (.exit j) σ J = if j = i then Q .normal σ J else Q (.exit j) σ J := rfl
theorem zbj.block {i : Nat} {c : Code} {σ : St} {J : Hj} {Q : Exit -> St -> Hj -> Prop} (h : zbj P N c σ J (blkJ i Q)) : zbj P N (.block i c) σ J Q := fun n0 w0 A0 g a w h1 h2 h3 => by
 refine wp_block (wp_mono (h n0 w0 A0 g a w h1 h2 h3) fun e a' w' hq => ?_)
 obtain ⟨σ', r', g', k1, k2, k3, k4⟩ := hq
 cases e with
 | exit j =>
  simp only [Exit.inBlock]
  simp only [zoi] at k1
  split at k1
  ·rw [if_pos ‹_›]; exact ⟨σ', r', g', k1, k2, k3, k4⟩
  ·rw [if_neg ‹_›]; exact ⟨σ', r', g', k1, k2, k3, k4⟩
 | normal => exact ⟨σ', r', g', k1, k2, k3, k4⟩
 | goto l => exact ⟨σ', r', g', k1, k2, k3, k4⟩
 | ret => exact ⟨σ', r', g', k1, k2, k3, k4⟩
 | panic ch => exact ⟨σ', r', g', k1, k2, k3, k4⟩
 | outgrown => exact ⟨σ', r', g', k1, k2, k3, k4⟩
theorem RelJ.wk {n0 : Nat -> Prop} {σ σ' : St} {J : Hj} {A0 : (Nat -> Prop) × RP} {g : Gh} {a : Act} {w : World} (h : RelJ n0 N σ J A0 g a w) (k : Wk σ σ') : ∃ g', RelJ n0 N σ' J A0 g' a w := by
 obtain ⟨n1, k1, k2, k4, k5⟩ := h.rel
 obtain ⟨g', r1, r2, r3⟩ := k _ _ _ _ _ k4
 exact ⟨g', h.keep k1 k2 r1 k5 (Bk.refl _ _) (by rw [r2, r3])⟩
def lpJ {X : Type} (I : X -> St) (JX : X -> Hj) (Pr : X -> Prop) (μ : X -> Nat) (x : X) (Q : Exit -> St -> Hj -> Prop) (e : Exit) (σ : St) (J : Hj) : Prop := match e with | .normal => ∃ x', Pr x' /\ μ x' < μ x /\ J = JX x' /\ Wk σ (I x') | e => Q e σ J
section
variable {X : Type} (I : X -> St) (JX : X -> Hj) (Pr : X -> Prop) (μ : X -> Nat) (x : X)
theorem zu4 (Q : Exit -> St -> Hj -> Prop) (σ : St) (J : Hj) : lpJ I JX Pr μ x Q .normal σ J = ∃ x', Pr x' /\ μ x' < μ x /\ J = JX x' /\ Wk σ (I x') := rfl
theorem qgf (Q : Exit -> St -> Hj -> Prop) (σ : St) (J : Hj) : lpJ I JX Pr μ x Q .ret σ J = Q .ret σ J := rfl
theorem qe9 (Q : Exit -> St -> Hj -> Prop) (σ : St) (J : Hj) (i : Nat) : lpJ I JX Pr μ x Q (.exit i) σ J = Q (.exit i) σ J := rfl
theorem zbj.loop {c : Code} {σ : St} {J : Hj} {Q : Exit -> St -> Hj -> Prop} (x0 : X) (h0 : Wk σ (I x0)) (j0 : J = JX x0) (p0 : Pr x0) (hr : ∀ x, Pr x -> zbj P N c (I x) (JX x) (lpJ I JX Pr μ x Q)) : zbj P N (.loop c) σ J Q := fun n0 w0 A0 g a w h1 h2 h3 => by
 subst j0
 refine zto (fun n a w => ∃ x g1, Pr x /\ μ x = n /\ RelJ n0 N (I x) (JX x) A0 g1 a w /\ LtK n0 w /\ Bk n0 w0 w) ?_ (n := μ x0) (by obtain ⟨g0, r1⟩ := h1.wk h0; exact ⟨x0, g0, p0, rfl, r1, h2, h3⟩)
 rintro n a w ⟨x, g1, px, rfl, k2, k3, k4⟩
 refine wp_mono (hr x px n0 w0 A0 g1 a w k2 k3 k4) fun e a' w' hq => ?_
 obtain ⟨σ', r', g', h1, h2, h3, h4⟩ := hq
 cases e with
 | normal =>
  obtain ⟨x', p', hlt, hj, hwk⟩ := h1
  subst hj
  obtain ⟨g2, r1⟩ := h2.wk hwk
  exact ⟨μ x', hlt, x', g2, p', rfl, r1, h3, h4⟩
 | exit i => exact ⟨σ', r', g', h1, h2, h3, h4⟩
 | goto l => exact ⟨σ', r', g', h1, h2, h3, h4⟩
 | ret => exact ⟨σ', r', g', h1, h2, h3, h4⟩
 | panic ch => exact ⟨σ', r', g', h1, h2, h3, h4⟩
 | outgrown => exact ⟨σ', r', g', h1, h2, h3, h4⟩
end
def zd7 (P : Program) (N : Nat) (ops : Array Oper) (i : Nat) (σ : St) (J : Hj) (K : St -> Hj -> Prop) : Prop := ∀ (Q : Exit -> St -> Hj -> Prop) n0 w0 A0 g a w, (∀ σ' J', K σ' J' -> Q .normal σ' J') -> RelJ n0 N σ J A0 g a w -> LtK n0 w -> Bk n0 w0 w -> wpOps P ops (EndsJ n0 N w0 A0 Q) (List.range' i (ops.size - i)) a w
theorem zbj.region {id : Nat} {ops : Array Oper} {σ : St} {J : Hj} {Q : Exit -> St -> Hj -> Prop} (h : zd7 P N ops 0 σ J (Q .normal)) : zbj P N (.region id ops false) σ J Q := fun n0 w0 A0 g a w h1 h2 h3 => by
 refine wp_region ?_
 rw [List.range_eq_range']
 exact h Q n0 w0 A0 g a w (fun _ _ k => k) h1 h2 h3
section
variable {ops : Array Oper} {i : Nat} {σ : St} {J : Hj} {K : St -> Hj -> Prop}
theorem zd7.done (hi : ops.size = i) (h : K σ J) : zd7 P N ops i σ J K := fun Q n0 w0 A0 g a w hK h1 h2 h3 => by
 rw [hi, Nat.sub_self]
 exact ⟨σ, J, g, hK _ _ h, h1, h2, h3⟩
theorem zd7.plain (k : Nat) (hk : i + k <= ops.size) (hg : (ops.toList.all fun o => o.guard.isNone) = true) (hd : zcf N (.region 0 ops false) = true) (h : exo P ops ((ops.toList.drop i).take k) [] (fun _ σ' => zd7 P N ops (i + k) σ' J K) σ) : zd7 P N ops i σ J K := fun Q n0 w0 A0 g a w hK h1 h2 h3 => by
 obtain ⟨n1, k1, k2, k4, k5⟩ := h1.rel
 have hd' : ∀ o ∈ ops.toList, ∀ d, o.dst = some d -> d < N := fun o ho d hdd => by
  simp only [zcf, Array.all_eq_true_iff_forall_mem] at hd
  have := hd o (by simpa using ho)
  rw [hdd] at this
  simpa using this
 have hg' : ∀ o ∈ ops.toList, o.guard = none := fun o ho => by
  have := List.all_eq_true.1 hg o ho
  simpa using this
 have hr : List.range' i (ops.size - i) = List.range' i k ++ List.range' (i + k) (ops.size - (i + k)) := by
  rw [List.range'_append_1]; congr 1; omega
 rw [hr]
 refine zxd (w0 := w) (A0 := (g.A0, g.R0)) hg' ?_ k i hk hd' σ g a w (by simpa [exo, zut] using h) k4 k5 (Bk.refl _ _) rfl
 intro a' w' σ' g' hK' m2 m3 m4 m5
 exact hK' Q n0 w0 A0 g' a' w' hK (h1.keep k1 k2 m2 m3 m4 m5) (h2.mono m4.size) (h3.trans (zrn k1 m4))
structure EndJ (J : Hj) (w : World) (J' : Hj) (w' : World) : Prop where
 good : GoodJ J'
 I : J'.I w'
 F : ∀ x, J'.F x -> (J.F x \/ w.heap.size <= x) /\ x < w'.heap.size
 R : ∀ x, J'.R x -> J.R x
 bk : Bk (fun x => x < w.heap.size /\ ¬ J.F x) w w'
theorem zd7.call {d : Nat} {x : Operand} {asx : Array Operand} {ts : Array TypeId} {ty : TypeId} {ps : String} {af : Array Edge} (Kr : Bool -> Hj -> Prop) (hl : ops[i]? = some ⟨some d, .call ⟨.value x, asx, ts⟩, ty, ps, af, none⟩) (hd : d < N)
  (h : ∀ n1 g a w, Rel n1 N σ g a w -> LtK n1 w -> OkJ J n1 g.A0 w -> ∃ f vs, (execOp a.eval ⟨some d, .call ⟨.value x, asx, ts⟩, ty, ps, af, none⟩).run P w = .ok (.enter f vs) w /\ Calls P f vs w fun e w' => ∃ b J', e = .returned (.bool b) /\ Kr b J' /\ EndJ J w J' w')
  (k : ∀ b J', Kr b J' -> zd7 P N ops (i + 1) (σ.put (some d) (.one (.t (.bool b)))) J' K) : zd7 P N ops i σ J K := fun Q n0 w0 A0 g a w hK h1 h2 h3 => by
 have hlt : i < ops.size := (Array.getElem?_eq_some_iff.1 hl).1
 obtain ⟨n1, k1, k2, k4, k5⟩ := h1.rel
 obtain ⟨f, vs, hex, hc⟩ := h n1 g a w k4 k5 k2
 rw [show List.range' i (ops.size - i) = i :: List.range' (i + 1) (ops.size - (i + 1)) by rw [show ops.size - i = (ops.size - (i + 1)) + 1 by omega]; rfl, wpOps_cons]
 unfold wpOp
 simp only [hl]
 rw [if_pos (by simp [Region.wanted])]
 refine Or.inl ?_
 unfold Oper.wp
 rw [hex, Oper.upon_enter]
 refine hc.mono ?_
 rintro e w' ⟨b, J', rfl, hKr, hE⟩
 have hsame : ∀ y, y < w.heap.size -> ¬ J.F y -> w'.heap[y]? = w.heap[y]? := fun y a b => hE.bk.block y ⟨a, b⟩
 have hnF : ∀ y, y < w.heap.size -> ¬ J.F y -> ¬ J'.F y := fun y a b c => ((hE.F y c).1).elim b fun z => by omega
 have hR : Rel (fun y => n1 y \/ J'.F y) N σ { g with A0 := fun y => g.A0 y /\ ¬ J'.F y } a w' := by
  refine k4.turn (fun b hf => ?_) hE.bk.size (fun b hb => ?_) (fun k hk => ?_) (fun e ho b hm => ?_)
  ·have h5 : ¬ J.F b := fun hF => (k2.F b hF).2 hf.2.2.2
   exact ⟨⟨hf.2.2.2, hnF b hf.2.2.1 h5⟩, hsame b hf.2.2.1 h5⟩
  ·have h5 := k4.anew b fun q => hb (Or.inl q)
   exact ⟨⟨h5.1, fun q => hb (Or.inr q)⟩, h5.2⟩
  ·have h5 : ¬ J.F (g.β k) := fun hF => k4.base k hk (k2.F _ hF).1
   exact ⟨fun q => q.elim (k4.base k hk) (hnF _ (k4.lt hk) h5), hsame _ (k4.lt hk) h5⟩
  ·have h5 : ¬ J.F b := fun hF => k4.etop e ho b hm (k2.F _ hF).1
   have h6 := k4.elt ho hm
   exact ⟨fun q => q.elim (k4.etop e ho b hm) (hnF b h6 h5), ⟨(k4.ebase e ho b hm).1, hnF b h6 h5⟩, hsame b h6 h5⟩
 have hR' := hR.put (some d) (x := .one (.t (.bool b))) (v := .bool b) (by show zai _ _ _ _; unfold zai; rfl) (fun j hj => by cases hj; exact hd)
 have hn0 : Bk n0 w w' := ⟨hE.bk.os, hE.bk.tape, hE.bk.output, hE.bk.size, fun y hy => hsame y (h2 y hy) fun hF => h1.nb y hF hy⟩
 refine k b J' hKr Q n0 w0 A0 { g with A0 := fun y => g.A0 y /\ ¬ J'.F y } _ w' hK ⟨⟨fun y => n1 y \/ J'.F y, fun y hy => Or.inl (k1 y hy), ⟨hE.good, fun y hy => ⟨Or.inr hy, fun q => q.2 hy⟩, fun y hy => Or.inl (k2.R y (hE.R y hy)), hE.I⟩, hR', fun y hy => hy.elim (fun q => Nat.lt_of_lt_of_le (k5 y q) hE.bk.size) fun q => (hE.F y q).2⟩, fun y hy hn => ?_, fun y hy => h1.sub y hy.1, h1.r0, h1.new⟩ (h2.mono hE.bk.size) (h3.trans hn0)
 rcases (hE.F y hy).1 with q | q
 ·exact h1.nb y q hn
 ·have := h2 y hn; omega
end
theorem zbj.drawn (m : Nat) {id : Nat} {ops : Array Oper} {σ : St} {J : Hj} {Q : Exit -> St -> Hj -> Prop} (hmx : P.follows .mixedOrders = true) (hch : zmg ops m = true) (hd : zcf N (.region 0 ops false) = true) (h : exd P ops (ops.toList.take m) [] [] (fun e σ' => match e with | .normal => zd7 P N ops m σ' J (Q .normal) | _ => False) σ) : zbj P N (.region id ops true) σ J Q := fun n0 w0 A0 g a w hM h2 h3 => by
 obtain ⟨n1, q1, q2, hR, hn⟩ := hM.rel
 have hd' : ∀ o ∈ ops, ∀ d, o.dst = some d -> d < N := fun o ho d hdd => by
  simp only [zcf, Array.all_eq_true_iff_forall_mem] at hd
  have := hd o ho
  rw [hdd] at this
  simpa using this
 have hm : m <= ops.size := by unfold zmg at hch; rw [Bool.and_eq_true] at hch; simpa using hch.1
 obtain ⟨L, σs, h0, hloc, hord, hK⟩ := zd3 hm (ops.toList.take m) 0 [] (fun _ => σ) rfl (Nat.zero_le _) rfl (fun j _ hj => by omega) h
 refine wp_region_any hmx ?_
 have hb : Below w.heap.size w { w with drawn := w.drawn + 1 } := ⟨rfl, rfl, rfl, Nat.le_refl _, fun _ _ => rfl⟩
 have hR' : Rel n1 N (σs 0) g a { w with drawn := w.drawn + 1 } := by
  rw [h0]
  exact hR.after hn hb (New.refl σ g (w.heap.size <= ·) _ hR.slc)
 have hF : Fp σs (fun i => L.getD i ([], [])) (fun i => (Array.replicate ops.size false).getD i false) m = σs 0 := by
  have hp : ∀ i, (Array.replicate ops.size false).getD i false = false := fun i => by
   simp only [Array.getD_eq_getD_getElem?, Array.getElem?_replicate]; split <;> rfl
  have : ∀ m, Fp σs (fun i => L.getD i ([], [])) (fun i => (Array.replicate ops.size false).getD i false) m = σs 0 := by
   intro m
   induction m with
   | zero => rfl
   | succ m ih => unfold Fp; rw [hp, if_neg (by simp)]; exact ih
  exact this _
 have hcnt : cnt (fun i => (Array.replicate ops.size false).getD i false) ops.size = ops.size := by
  have hp : ∀ i, (Array.replicate ops.size false).getD i false = false := fun i => by
   simp only [Array.getD_eq_getD_getElem?, Array.getElem?_replicate]; split <;> rfl
  have : ∀ m, cnt (fun i => (Array.replicate ops.size false).getD i false) m = m := by
   intro m
   induction m with
   | zero => rfl
   | succ m ih => unfold cnt; rw [hp, if_neg (by simp), ih]; omega
  exact this _
 refine zvb (n0 := n1) (w0 := w) (A0 := (g.A0, g.R0)) hloc (zyv hord hch) hd' (fun g' a' w' k1 k2 k3 k4 => ?_) ops.size _ g a _ (by simp) hcnt (fun j h hl => ?_) (fun j _ => ?_) (by rw [hF]; exact hR') (hn.mono (Nat.le_refl _)) (Bk.of_below hb hn) rfl
 ·exact hK Q n0 w0 A0 g' a' w' (fun _ _ k => k) (hM.keep q1 q2 k1 k2 k3 k4) (h2.mono k3.size) (h3.trans (zrn q1 k3))
 ·simp only [Array.getD_eq_getD_getElem?, Array.getElem?_replicate] at hl
  split at hl <;> cases hl
 ·simp only [Array.getD_eq_getD_getElem?, Array.getElem?_replicate]
  split <;> rfl
def JC (P : Program) (f : FuncId) (args : List D) (J : Hj) (K : Bool -> Hj -> Prop) : Prop := za1 P f /\ ∀ (w : World) (vs : List Value) (A : Nat -> Prop), GoodJ J -> J.I w -> (∀ x, J.F x -> x < w.heap.size /\ ¬ A x) -> (∀ x, J.R x -> x < w.heap.size) -> zaz w (fun b => b < w.heap.size /\ A b) args vs →
 Calls P f ⟨vs⟩ w fun e w' => ∃ b J', e = .returned (.bool b) /\ K b J' /\ EndJ J w J' w'
def PJ (P : Program) (rs : List ResultVar) (K : Bool -> Hj -> Prop) (e : Exit) (σ : St) (J : Hj) : Prop := match e with
 | .normal => ∃ b, zan (zbe P σ rs) (fun vs => RV σ vs [.one (.bool b)]) /\ K b J
 | .ret => ∃ b, zan (zbe P σ rs) (fun vs => RV σ vs [.one (.bool b)]) /\ K b J
 | _ => False
theorem qi1 {f : FuncId} {fn : Func} {c : Code} {args : List D} {J : Hj} {K : Bool -> Hj -> Prop} (hc : za1 P f) (hf : P.funcs[f]? = some fn) (hb : fn.body = some c) (hN : (rd args).length <= fn.ntmps) (hKR : ∀ b J', K b J' -> ∀ x, J'.R x -> J.R x)
  (h : zbj P fn.ntmps c (zd1 (rd args)) J (PJ P fn.results.toList K)) : JC P f args J K := by
 refine ⟨hc, fun w vs A hJ hI hF hRd hv => ?_⟩
 refine calls_of_wp hf hb ?_
 have hg : ∀ (ds : List D) (vs : List Value), zaz w (fun b => b < w.heap.size /\ A b) ds vs -> zar w (fun b => b < w.heap.size /\ A b /\ b ∉ ([] : List Nat)) (rd ds) vs [] [] := by
  intro ds
  induction ds with
  | nil => intro vs h; exact ⟨h, rfl, rfl⟩
  | cons d ds ih =>
   rintro vs ⟨v, vs', rfl, h1, h2⟩
   refine ⟨v, vs', rfl, ?_, ih _ h2⟩
   cases d with
   | one t => exact zai.keep (fun _ _ => rfl) (fun b hb => ⟨hb.1, hb.2, by simp⟩) t _ h1
   | agg ts => obtain ⟨a, h0, h1⟩ := h1; exact ⟨a, h0, zac.keep (fun _ _ => rfl) (fun b hb => ⟨hb.1, hb.2, by simp⟩) ts a h1⟩
 obtain ⟨g, hgg, hR⟩ := Rel.start (A := A) (A0 := fun b => A b \/ w.heap.size <= b) (R0 := RP.of fun _ => True) (N := fn.ntmps) (hg _ _ hv) List.nodup_nil (zc6 args) hN (fun _ hb => Or.inl hb) (fun b hb => by simp at hb) (fun b hb => ⟨Or.inr (by
  refine Nat.le_of_not_lt fun hlt => hb ⟨hlt, by simp⟩), trivial⟩)
 have e1 : g.A0 = fun b => A b \/ w.heap.size <= b := (Prod.mk.inj hgg).1
 have e2 : g.R0 = RP.of fun _ => True := (Prod.mk.inj hgg).2
 refine wp_mono (h (fun x => x < w.heap.size /\ ¬ J.F x) w (fun b => True, RP.of fun _ => True) g _ w ⟨⟨_, fun x hx => ⟨hx.1, by simp⟩, ⟨hJ, fun x hx => ⟨⟨(hF x hx).1, by simp⟩, fun q => ?_⟩, fun x hx => ⟨hRd x hx, by simp⟩, hI⟩, hR, fun k hk => hk.1⟩, fun x hx q => q.2 hx, fun _ _ => trivial, e2, fun _ _ => ⟨trivial, trivial⟩⟩ (fun k hk => hk.1) (Bk.refl _ _)) fun e a' w' hq => ?_
 ·rw [e1] at q
  rcases q with q | q
  ·exact (hF x hx).2 q
  ·have := (hF x hx).1; omega
 obtain ⟨σ', J', g', h1, h2, h3, h4⟩ := hq
 obtain ⟨n1, m1, m2, m3, m4⟩ := h2.rel
 have key : (∃ b, zan (zbe P σ' fn.results.toList) (fun vs => RV σ' vs [.one (.bool b)]) /\ K b J') -> ∃ v, (results fn a'.tmps).run P w' = .ok v w' /\ ∃ b J', Ending.returned v = .returned (.bool b) /\ K b J' /\ EndJ J w J' w' := by
  rintro ⟨b, hk, hKb⟩
  obtain ⟨vs, hvs, hk⟩ := zal hk
  obtain ⟨us, r1, r2⟩ := zbn m3 fn hvs
  obtain ⟨u, us', rfl, hu, hus⟩ := RV.rep hk r2
  obtain rfl := hus
  have hu : zai w' (Fix σ' g' w') (.bool b) u := hu
  unfold zai at hu
  subst hu
  refine ⟨_, r1, b, J', rfl, hKb, m2.good, m2.I, fun x hx => ⟨?_, m4 x (m2.F x hx).1⟩, fun x hx => ?_, h4⟩
  ·by_cases hlt : x < w.heap.size
   ·refine Or.inl (Classical.byContradiction fun hn => h2.nb x hx ⟨hlt, hn⟩)
   ·exact Or.inr (by omega)
  ·exact hKR b J' hKb x hx
 cases e with
 | normal => exact ⟨m3.defers, key h1⟩
 | ret => exact ⟨m3.defers, key h1⟩
 | exit _ => exact h1.elim
 | goto _ => exact h1.elim
 | panic _ => exact h1.elim
 | outgrown => exact h1.elim
attribute [go_sem] zpb qas zuq zqh qb1 zoi zu4 qgf qe9
end Go.Proofs.YtmhbmpbgpjljeaaGreat
