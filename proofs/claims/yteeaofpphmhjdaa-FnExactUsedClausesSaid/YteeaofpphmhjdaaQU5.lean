/-
  The walk over plain data, and contracts of functions of the program and of its laws.
  Conditions: those that each theorem names.
-/
import Derived.Test.YteeaofpphmhjdaaQU4
import Derived.OrdersIn
import Derived.Lib.Walk
import Derived.Lib.SliceRun
import Derived.Lib.AppendZeros
import Derived.Shelf.SlSortCmp.Whole1
import Derived.Deep.LoopGhost
import Derived.Sort.OwnSortedInts
import Derived.RegionTactic
import Derived.BigRegion
namespace Go.Proofs.Yteeaofpphmhjdaa
set_option linter.unusedSimpArgs false
set_option linter.unusedVariables false
set_option linter.unusedSectionVars false
set_option maxRecDepth 4000
open Go.RowKit
variable {P : Program}
theorem zkh {r : Option Nat} {n : Nat} {ds : List Deferred} {D : Nat -> Prop} {a0 : Act} {ops : Array Oper} {σs : Nat -> St} {L : List (List Ky × List Ky)} {n0 : Nat -> Prop} {N : Nat} {w0 : World} {A0 : (Nat -> Prop) × RP} {Q : Exit -> Act -> World -> Prop}
  (hL : ∀ i (h : i < ops.size), Loc P ops ops[i] (L.getD i ([], [])).1 (L.getD i ([], [])).2 (σs i) (σs (i + 1))) (hord : zjp ops L = true) (hnd : ∀ o ∈ ops, Oper.nodef o = true) (hdst : ∀ o ∈ ops, ∀ d, o.dst = some d -> d < N /\ D d)
  (hQ : ∀ g a w, Rel n0 N (σs ops.size) g a w -> LtK n0 w -> Bk n0 w0 w -> (g.A0, g.R0) = A0 -> Ag D a0 a -> Q .normal { a with defers := ds } w) :
  ∀ (fuel : Nat) (listed : Array Bool) (g : Gh) (a : Act) (w : World), listed.size = ops.size -> cnt (fun i => listed.getD i false) ops.size = fuel →
   (∀ j (h : j < ops.size), listed.getD j false = true -> ∀ e ∈ ops[j].after, Region.binds .any e = true -> listed.getD e.on false = true) →
   Rel n0 N (Fp σs (fun i => L.getD i ([], [])) (fun i => listed.getD i false) ops.size) g a w -> LtK n0 w -> Bk n0 w0 w -> (g.A0, g.R0) = A0 -> Ag D a0 a -> wpAnyIn (FR r) n P .any ops Q fuel listed { a with defers := ds } w := by
 have hok : ∀ i, i < ops.size -> okK (L.getD i ([], [])).2 = true := fun i h => (hL i h).1
 have hRk : ∀ i, i < ops.size -> okK (L.getD i ([], [])).1 = true := fun i h => (hL i h).2.1
 have hoff : ∀ i, i < ops.size -> ∀ k : Ky, k.1 < 3 -> k ∉ (L.getD i ([], [])).2 -> zaq (σs i) (σs (i + 1)) k := fun i h => (hL i h).2.2.1
 have hget : ∀ j (h : j < ops.size), ops.getD j default = ops[j] := fun j h => by simp [Array.getD, h]
 unfold zjp at hord
 simp only [List.all_eq_true, List.mem_range, Bool.and_eq_true] at hord
 have hlt : ∀ j (h : j < ops.size), ∀ e ∈ ops[j].after, Region.binds .any e = true -> e.on < j := fun j h e he hb => by
  have := (hord j h).1.1
  rw [hget j h] at this
  have := (Array.all_eq_true_iff_forall_mem.1 this) e he
  simpa [hb] using this
 have hbef : ∀ j (h : j < ops.size), ∀ i, i < ops.size -> ((Region.before ops).getD j 0).testBit i = true -> ∃ e ∈ ops[j].after, Region.binds .any e = true /\ (e.on = i \/ ((Region.before ops).getD e.on 0).testBit i = true) := fun j h i hi hb => by
  have := (hord j h).1.2 i hi
  rw [hb, hget j h] at this
  simp only [Bool.not_true, Bool.false_or] at this
  obtain ⟨e, he, h1⟩ := Array.any_eq_true'.1 this
  simp only [Bool.and_eq_true, Bool.or_eq_true, beq_iff_eq] at h1
  exact ⟨e, he, h1.1, h1.2⟩
 have hdis : ∀ i j, i < j -> j < ops.size -> ((Region.before ops).getD j 0).testBit i = false -> (∀ k ∈ (L.getD i ([], [])).2, k ∉ (L.getD j ([], [])).1 /\ k ∉ (L.getD j ([], [])).2) /\ ∀ k ∈ (L.getD i ([], [])).1, k ∉ (L.getD j ([], [])).2 := fun i j hij hj hb => by
  have := (hord j hj).2 i hij
  rw [hb] at this
  simp only [Bool.false_or, Bool.and_eq_true, List.all_eq_true, Bool.not_eq_true', List.contains_eq_mem, decide_eq_false_iff_not] at this
  exact ⟨fun k hk => this.1 k hk, fun k hk => this.2 k hk⟩
 intro fuel
 induction fuel with
 | zero =>
  intro listed g a w hsz hc hcl hrel hn hb hA hag
  have hall := zgx _ hc
  refine ⟨?_, ?_⟩
  ·unfold Region.ready
   rw [List.filter_eq_nil_iff]
   intro i hi
   have hi' := List.mem_range.1 hi
   have := hall i hi'
   simp only [Array.getD_eq_getD_getElem?] at this ⊢
   rw [Array.getElem?_eq_getElem (by omega)] at this ⊢
   simp only [Option.getD_some] at this ⊢
   simp [this]
  ·refine hQ g a w ?_ hn hb hA hag
   rwa [zhg hok hoff ops.size (Nat.le_refl _) hall] at hrel
 | succ fuel ih =>
  intro listed g a w hsz hc hcl hrel hn hb hA hag
  have hbb : ∀ j (h : j < ops.size), listed.getD j false = true -> ∀ i, i < ops.size -> ((Region.before ops).getD j 0).testBit i = true -> listed.getD i false = true := by
   intro j
   induction j using Nat.strongRecOn with
   | _ j ihj =>
    intro h hl i hi hbi
    obtain ⟨e, he, h1, h2⟩ := hbef j h i hi hbi
    have hle := hcl j h hl e he h1
    have hlt' := hlt j h e he h1
    rcases h2 with rfl | h2
    ·exact hle
    ·exact ihj e.on hlt' (by omega) hle i hi h2
  refine ⟨fun hr => ?_, fun i hi => ?_⟩
  ·-- some operation is due
   exfalso
   have : ∀ j, j < ops.size -> listed.getD j false = true := by
    intro j
    induction j using Nat.strongRecOn with
    | _ j ihj =>
     intro hj
     cases hl : listed.getD j false with
     | true => rfl
     | false =>
      exfalso
      have hmem : j ∈ Region.ready .any ops listed := by
       unfold Region.ready
       rw [List.mem_filter]
       refine ⟨List.mem_range.2 hj, ?_⟩
       have hl' : listed.getD j true = false := by
        simp only [Array.getD_eq_getD_getElem?] at hl ⊢
        rw [Array.getElem?_eq_getElem (by omega)] at hl ⊢
        exact hl
       rw [hl', Array.getElem?_eq_getElem hj]
       simp only [Bool.not_false, Bool.true_and, Option.map_some, Option.getD_some]
       rw [Array.all_eq_true_iff_forall_mem]
       intro e he
       cases hbd : Region.binds .any e with
       | false => rfl
       | true => simpa using ihj e.on (hlt j hj e he hbd) (by have := hlt j hj e he hbd; omega)
      rw [hr] at hmem
      exact absurd hmem (by simp)
   have hz : cnt (fun i => listed.getD i false) ops.size = 0 := by
    have : ∀ m, m <= ops.size -> cnt (fun i => listed.getD i false) m = 0 := by
     intro m
     induction m with
     | zero => intro _; rfl
     | succ m ihm => intro hm; unfold cnt; rw [if_pos (this m (by omega)), ihm (by omega)]
    exact this _ (Nat.le_refl _)
   omega
  ·unfold Region.ready at hi
   rw [List.mem_filter] at hi
   obtain ⟨hi1, hi2⟩ := hi
   have hi' := List.mem_range.1 hi1
   rw [Array.getElem?_eq_getElem hi'] at hi2
   simp only [Option.map_some, Option.getD_some, Bool.and_eq_true, Bool.not_eq_true'] at hi2
   obtain ⟨hl0, hafter⟩ := hi2
   have hl : listed.getD i false = false := by
    simp only [Array.getD_eq_getD_getElem?] at hl0 ⊢
    rw [Array.getElem?_eq_getElem (by omega)] at hl0 ⊢
    exact hl0
   have hdue : ∀ e ∈ ops[i].after, Region.binds .any e = true -> listed.getD e.on false = true := fun e he hbd => by
    have := (Array.all_eq_true_iff_forall_mem.1 hafter) e he
    simpa [hbd] using this
   have h1 : ∀ j, j < ops.size -> ((Region.before ops).getD i 0).testBit j = true -> listed.getD j false = true := fun j hj hbj => by
    obtain ⟨e, he, k1, k2⟩ := hbef i hi' j hj hbj
    have hle := hdue e he k1
    have hlt' := hlt i hi' e he k1
    rcases k2 with rfl | k2
    ·exact hle
    ·exact hbb e.on (by omega) hle j hj k2
   have h2 : ∀ j, j < ops.size -> listed.getD j false = true -> ((Region.before ops).getD j 0).testBit i = true -> listed.getD i false = true := fun j hj hlj hbj => hbb j hj hlj i hi' hbj
   have hset : ∀ j, (listed.setIfInBounds i true).getD j false = if j = i then true else listed.getD j false := fun j => by
    simp only [Array.getD_eq_getD_getElem?, Array.getElem?_setIfInBounds]
    by_cases hji : j = i
    ·subst hji; rw [if_pos rfl, if_pos (by omega), if_pos rfl]; rfl
    ·rw [if_neg (fun h => hji h.symm), if_neg hji]
   obtain ⟨_, _, _, hstep⟩ := hL i hi'
   have hG := hstep _ (fun k hk => znt (σs := σs) (RW := fun i => L.getD i ([], [])) (b := fun j i => ((Region.before ops).getD j 0).testBit i) (p := fun i => listed.getD i false) hok hoff hRk hdis hi' hl h1 h2 hk)
   have hw := zko (σs := σs) (RW := fun i => L.getD i ([], [])) (b := fun j i => ((Region.before ops).getD j 0).testBit i) (p := fun i => listed.getD i false) hok hdis hi' hl h1 h2 (p' := fun j => (listed.setIfInBounds i true).getD j false) hset
   have hcnt := zkb (p := fun i => listed.getD i false) (q := fun j => (listed.setIfInBounds i true).getD j false) hl hset ops.size hi'
   have hG' := hG n0 N g a w hrel hn (fun d h => (hdst _ (Array.getElem_mem hi') d h).1)
   rw [<- hw] at hG'
   have next : ∀ a' w', (∃ g', Rel n0 N (Fp σs (fun i => L.getD i ([], [])) (fun j => (listed.setIfInBounds i true).getD j false) ops.size) g' a' w' /\ Bk n0 w w' /\ g'.A0 = g.A0 /\ g'.R0 = g.R0) -> Ag D a0 a' -> wpAnyIn (FR r) n P .any ops Q fuel (listed.setIfInBounds i true) { a' with defers := ds } w' := by
    rintro a' w' ⟨g', k1, k2, k3, k4⟩ hag'
    refine ih _ g' a' w' (by simpa using hsz) (by omega) (fun j hj hlj e he hbd => ?_) k1 (hn.mono k2.size) (hb.trans k2) (by rw [k3, k4]; exact hA) hag'
    rw [hset] at hlj ⊢
    by_cases heo : e.on = i
    ·rw [if_pos heo]
    ·rw [if_neg heo]
     by_cases hji : j = i
     ·subst hji; exact hdue e he hbd
     ·rw [if_neg hji] at hlj; exact hcl j hj hlj e he hbd
   have hput : ∀ v, Ag D a0 (a.put ops[i].dst v) := fun v => hag.put (fun d hd => (hdst _ (Array.getElem_mem hi') d hd).2) v
   unfold wpOpIn
   rw [Array.getElem?_eq_getElem hi']
   simp only
   split
   ·rename_i hwd
    rw [if_pos hwd] at hG'
    exact zu6 (hnd _ (Array.getElem_mem hi')) (fun a' w' ⟨g', hh⟩ => hh.1.defers) hG' fun v w' hk => next _ w' hk (hput v)
   ·rename_i hwd
    rw [if_neg hwd] at hG'
    obtain ⟨g', k1, k2, k3⟩ := hG'
    refine ⟨fun _ _ => trivial, ?_⟩
    rw [zbt]
    exact next _ _ ⟨g', k1, Bk.refl _ _, k2, k3⟩ (hput _)
def zd0 (P : Program) (N : Nat) (D : Nat -> Prop) (c : Code) (σ : St) (Q : Exit -> St -> Prop) : Prop :=
 ∀ (r : Option Nat) (n : Nat) (ds : List Deferred) (n0 : Nat -> Prop) (w0 : World) (A0 : (Nat -> Prop) × RP) (a0 : Act) (g : Gh) (a : Act) (w : World), Rel n0 N σ g a w -> LtK n0 w -> Bk n0 w0 w -> (g.A0, g.R0) = A0 -> Ag D a0 a -> c.wpIn (FR r) n P (zm3 n0 N w0 A0 ds D a0 Q) { a with defers := ds } w
variable {N : Nat} {D : Nat -> Prop}
theorem zm3.mono {n0 : Nat -> Prop} {w0 : World} {A0 : (Nat -> Prop) × RP} {ds : List Deferred} {a0 : Act} {Q Q' : Exit -> St -> Prop} (h : ∀ e σ, Q e σ -> Q' e σ) {e : Exit} {a : Act} {w : World} (k : zm3 n0 N w0 A0 ds D a0 Q e a w) : zm3 n0 N w0 A0 ds D a0 Q' e a w := by
 obtain ⟨a1, k1, k2, k3⟩ := k
 exact ⟨a1, k1, k2, k3.mono h⟩
theorem zd0.ofEx {c : Code} {σ : St} {Q : Exit -> St -> Prop} (hp : (zbm c && za7 N c) = true) (hd : ∀ d ∈ zbl c, D d) (h : ex P c [] Q σ) : zd0 P N D c σ Q := fun r n ds n0 w0 A0 a0 g a w h1 h2 h3 h4 h5 =>
 zbd c σ Q (Bool.and_eq_true .. ▸ hp).1 (Bool.and_eq_true .. ▸ hp).2 hd h g a w h1 h2 h3 h4 h5
def thenR (P : Program) (N : Nat) (D : Nat -> Prop) (y : Code) (Q : Exit -> St -> Prop) (e : Exit) (σ : St) : Prop := match e with
 | .normal => zd0 P N D y σ Q
 | e => Q e σ
theorem zd0.seq {x y : Code} {σ : St} {Q : Exit -> St -> Prop} (h : zd0 P N D x σ (thenR P N D y Q)) : zd0 P N D (.seq x y) σ Q := fun r n ds n0 w0 A0 a0 g a w h1 h2 h3 h4 h5 => by
 refine wpIn_seq (wpIn_mono (h r n ds n0 w0 A0 a0 g a w h1 h2 h3 h4 h5) fun e a' w' hq => ?_)
 obtain ⟨a1, rfl, hg1, σ', g', k1, k2, k3, k4, k5⟩ := hq
 cases e with
 | normal => exact k1 r n ds n0 w0 A0 a0 g' a1 w' k2 k3 k4 k5 hg1
 | exit i => exact ⟨a1, rfl, hg1, σ', g', k1, k2, k3, k4, k5⟩
 | goto l => exact ⟨a1, rfl, hg1, σ', g', k1, k2, k3, k4, k5⟩
 | ret => exact ⟨a1, rfl, hg1, σ', g', k1, k2, k3, k4, k5⟩
 | panic ch => exact ⟨a1, rfl, hg1, σ', g', k1, k2, k3, k4, k5⟩
 | outgrown => exact ⟨a1, rfl, hg1, σ', g', k1, k2, k3, k4, k5⟩
theorem zd0.block {i : Nat} {b : Code} {σ : St} {Q : Exit -> St -> Prop} (h : zd0 P N D b σ (blkQ i Q)) : zd0 P N D (.block i b) σ Q := fun r n ds n0 w0 A0 a0 g a w h1 h2 h3 h4 h5 => by
 refine wpIn_block (wpIn_mono (h r n ds n0 w0 A0 a0 g a w h1 h2 h3 h4 h5) fun e a' w' hq => ?_)
 obtain ⟨a1, rfl, hg1, σ', g', k1, k2, k3, k4, k5⟩ := hq
 cases e with
 | exit j =>
  simp only [Exit.inBlock]
  simp only [blkQ] at k1
  split at k1
  ·rw [if_pos ‹_›]; exact ⟨a1, rfl, hg1, σ', g', k1, k2, k3, k4, k5⟩
  ·rw [if_neg ‹_›]; exact ⟨a1, rfl, hg1, σ', g', k1, k2, k3, k4, k5⟩
 | normal => exact ⟨a1, rfl, hg1, σ', g', k1, k2, k3, k4, k5⟩
 | goto l => exact ⟨a1, rfl, hg1, σ', g', k1, k2, k3, k4, k5⟩
 | ret => exact ⟨a1, rfl, hg1, σ', g', k1, k2, k3, k4, k5⟩
 | panic ch => exact ⟨a1, rfl, hg1, σ', g', k1, k2, k3, k4, k5⟩
 | outgrown => exact ⟨a1, rfl, hg1, σ', g', k1, k2, k3, k4, k5⟩
theorem zd0.cond {c : Operand} {x y : Code} {σ : St} {Q : Exit -> St -> Prop} {b : Bool} (hv : σ.get P 0 c = .one (.t (.bool b))) (ht : b = true -> zd0 P N D x σ Q) (hf : b = false -> zd0 P N D y σ Q) : zd0 P N D (.cond c x y) σ Q := fun r n ds n0 w0 A0 a0 g a w h1 h2 h3 h4 h5 => by
 have hv' := h1.get P 0 c
 rw [hv] at hv'
 simp only [VR, CR, zag] at hv'
 exact wpIn_cond_split hv' (fun e => ht e r n ds n0 w0 A0 a0 g a w h1 h2 h3 h4 h5) (fun e => hf e r n ds n0 w0 A0 a0 g a w h1 h2 h3 h4 h5)
theorem zd0.skip {σ : St} {Q : Exit -> St -> Prop} (h : Q .normal σ) : zd0 P N D .skip σ Q := fun r n ds n0 w0 A0 a0 g a w h1 h2 h3 h4 h5 => wpIn_skip ⟨a, rfl, h5, σ, g, h, h1, h2, h3, h4⟩
theorem zd0.drawn {id : Nat} {ops : Array Oper} {σ : St} {Q : Exit -> St -> Prop} (hm : P.follows .mixedOrders = true) (hnd : ops.all Oper.nodef = true) (hdn : za7 N (.region id ops true) = true) (hdd : ∀ d ∈ zbl (.region id ops true), D d) (h : exd P ops ops.toList [] [] Q σ) : zd0 P N D (.region id ops true) σ Q := by
 intro r n ds n0 w0 A0 a0 g a w hR hn hbk hA hag
 obtain ⟨L, σs, h0, hloc, hord, hK⟩ := zcu ops.toList 0 [] (fun _ => σ) rfl (Nat.zero_le _) rfl (fun j _ hj => by omega) h
 refine wpIn_region_any hm ?_
 have hb : Below w.heap.size w { w with drawn := w.drawn + 1 } := ⟨rfl, rfl, rfl, Nat.le_refl _, fun _ _ => rfl⟩
 have hR' : Rel n0 N (σs 0) g a { w with drawn := w.drawn + 1 } := by
  rw [h0]
  exact hR.after hn hb (New.refl σ g (w.heap.size <= ·) _ hR.slc)
 have hF : Fp σs (fun i => L.getD i ([], [])) (fun i => (Array.replicate ops.size false).getD i false) ops.size = σs 0 := by
  have hp : ∀ i, (Array.replicate ops.size false).getD i false = false := fun i => by
   simp only [Array.getD_eq_getD_getElem?, Array.getElem?_replicate]; split <;> rfl
  have : ∀ m, Fp σs (fun i => L.getD i ([], [])) (fun i => (Array.replicate ops.size false).getD i false) m = σs 0 := by
   intro m
   induction m with
   | zero => rfl
   | succ m ih => unfold Fp; rw [hp, if_neg (by simp)]; exact ih
  exact this _
 have hcnt : cnt (fun i => (Array.replicate ops.size false).getD i false) ops.size = ops.size := by
  have hp : ∀ i, (Array.replicate ops.size false).getD i false = false := fun i => by
   simp only [Array.getD_eq_getD_getElem?, Array.getElem?_replicate]; split <;> rfl
  have : ∀ m, cnt (fun i => (Array.replicate ops.size false).getD i false) m = m := by
   intro m
   induction m with
   | zero => rfl
   | succ m ih => unfold cnt; rw [hp, if_neg (by simp), ih]; omega
  exact this _
 have hd : ∀ o ∈ ops, ∀ d, o.dst = some d -> d < N /\ D d := fun o ho d hod => by
  refine ⟨?_, hdd d (by simp only [zbl, List.mem_filterMap]; exact ⟨o, by simpa using ho, hod⟩)⟩
  simp only [za7, Array.all_eq_true_iff_forall_mem] at hdn
  have := hdn o ho
  rw [hod] at this
  simpa using this
 refine zkh (w0 := w0) (A0 := A0) (a0 := a0) hloc hord (Array.all_eq_true_iff_forall_mem.1 hnd) hd (fun g' a' w' k1 k2 k3 k4 k5 => ⟨a', rfl, k5, _, g', hK, k1, k2, k3, k4⟩) ops.size _ g a _ (by simp) hcnt (fun j h hl => ?_) (by rw [hF]; exact hR') (hn.mono (Nat.le_refl _)) (hbk.trans (Bk.of_below hb hn)) hA hag
 simp only [Array.getD_eq_getD_getElem?, Array.getElem?_replicate] at hl
 split at hl <;> cases hl
end Go.Proofs.Yteeaofpphmhjdaa
namespace Go.Proofs.Yteeaofpphmhjdaa
set_option linter.unusedSimpArgs false
set_option linter.unusedVariables false
set_option linter.unusedSectionVars false
set_option maxRecDepth 4000
open Go.RowKit
variable {P : Program}
theorem zhl {F1 : FuncId} {ag : Bool} {sz t p1 p2 id N m : Nat} {asg bd : Code} (hB : zla P F1 ag sz) (hc : zaz P F1) (hpa : zbm asg = true) (hda : za7 N asg = true) (hp1 : p1 < N) (hp2 : p2 < N) (ht : t < 1000000)
  (H : Nat -> St) (rows : List (List T)) (hag : ag = true \/ sz = 1) (hslot : ∀ k, (H k).sl t = .one (.fn F1 [id]) /\ (H k).bx id = some [.rn (.sl sz rows)]) (hany : ∀ k, ∀ i ∈ p1 :: p2 :: (zbl asg ++ zbl bd), (H k).sl i = .one .any)
  (hround : ∀ k, k < rows.length -> zdg P asg (((H k).put (some p1) (.one (.t (.int .i64 ((rows.length - 1 - k : Nat) : Int))))).put (some p2) (rowN ag (rows.getD (rows.length - 1 - k) []))) fun e σ2 => e = .normal /\ zd0 P N (fun i => i ∈ p1 :: p2 :: (zbl asg ++ zbl bd)) bd σ2 fun e σ3 => e = .normal /\ Wk σ3 (H (k + 1)))
  {n0 : Nat -> Prop} {g : Gh} {a : Act} {w0 w : World} (hR : Rel n0 N (H 0) g a w) (hn : LtK n0 w) (hb : Bk n0 w0 w) {Q : Exit -> Act -> World -> Prop}
  (hQ : ∀ g' w', Rel (fun b => n0 b \/ b = w.heap.size \/ b = w.heap.size + 1) N (H rows.length) g' a w' -> LtK (fun b => n0 b \/ b = w.heap.size \/ b = w.heap.size + 1) w' -> Bk n0 w0 w' -> w'.heap[w.heap.size]? = some (.deferred (some [])) →
   (g'.A0, g'.R0) = ((fun b => g.A0 b /\ b ≠ w.heap.size /\ b ≠ w.heap.size + 1), g.R0) -> Q .normal { a with defers := [{ target := .collected w.heap.size, args := #[] }] } w') :
  (Code.rangeFunc (.tmp t) #[p1, p2] asg bd).wpIn (FR none) m P Q a w := by
 obtain ⟨n1, hn1⟩ : ∃ n1 : Nat -> Prop, n1 = fun b => n0 b \/ b = w.heap.size \/ b = w.heap.size + 1 := ⟨_, rfl⟩
 obtain ⟨A1, hA1⟩ : ∃ A1 : (Nat -> Prop) × RP, A1 = ((fun b => g.A0 b /\ b ≠ w.heap.size /\ b ≠ w.heap.size + 1), g.R0) := ⟨_, rfl⟩
 rw [<- hn1, <- hA1] at hQ
 have hD1 : n1 w.heap.size := by rw [hn1]; exact Or.inr (Or.inl rfl)
 have hl1 : n1 (w.heap.size + 1) := by rw [hn1]; exact Or.inr (Or.inr rfl)
 have hsub : ∀ b, n0 b -> n1 b := fun b h => by rw [hn1]; exact Or.inl h
 have hl0 : ¬ n0 (w.heap.size + 1) := hn.new (by omega)
 have hAl : ∀ g' : Gh, (g'.A0, g'.R0) = A1 -> ¬ g'.A0 (w.heap.size + 1) := fun g' h k => by rw [hA1] at h; rw [(Prod.mk.inj h).1] at k; exact k.2.2 rfl
 have hv0 : a.tmps.getD t undef = .func (.func F1) #[] ⟨[.pointer (some ⟨g.β id, 0, none⟩)]⟩ := by
  have := hR.slot_at ht
  rw [(hslot 0).1] at this
  exact this.1
 have hβ : ∀ {k g' W}, Rel n1 N (H k) g' a W -> g'.β id = g.β id := fun {k g' W} h => by
  have h1 := h.slot_at ht
  rw [(hslot k).1] at h1
  have h2 := h1.1
  rw [hv0] at h2
  simp only [List.map_cons, List.map_nil, Value.func.injEq, Array.mk.injEq, List.cons.injEq, Value.pointer.injEq, Option.some.injEq, Addr.mk.injEq, and_true, true_and] at h2
  exact h2.symm
 refine wpIn_rangeFunc ?_
 intro fn hfn
 obtain ⟨rec, hrec⟩ : ∃ rec : LoopState -> Loop, rec = fun st => { state := st, pending := none, fn, tmps := a.tmps, params := #[p1, p2], assign := asg, body := bd, defers := w.heap.size } := ⟨_, rfl⟩
 obtain ⟨W1, hW1⟩ : ∃ W1, (w.alloc (.deferred (some []))).alloc (.loop (rec .ready)) = W1 := ⟨_, rfl⟩
 have hL1 : W1.heap[w.heap.size + 1]? = some (.loop (rec .ready)) := by
  rw [<- hW1]; have := World.alloc_heap_new (w.alloc (.deferred (some []))) (.loop (rec .ready)); rwa [World.size_alloc] at this
 have hK1 : W1.heap[w.heap.size]? = some (.deferred (some [])) := by
  rw [<- hW1]; exact (Below.heap_alloc _ _ _ (by simp)).trans (World.alloc_heap_new w _)
 have hR1 : Rel n1 N (H 0) { g with A0 := fun b => g.A0 b /\ b ≠ w.heap.size /\ b ≠ w.heap.size + 1 } a W1 := by rw [<- hW1, hn1]; exact hR.enter _ _
 have hb1 : Bk n0 w0 W1 := by rw [<- hW1]; exact (hb.trans (Bk.of_alloc hn _)).trans (Bk.of_alloc (hn.mono (by simp)) _)
 have hz1 : LtK n1 W1 := by
  rw [<- hW1, hn1]
  rintro k (h | rfl | rfl)
  ·have := hn k h; simp; omega
  ·simp; omega
  ·simp
 have hg : a.eval (.tmp t) = .func (.func F1) #[] #[.pointer (some ⟨g.β id, 0, none⟩)] := hv0
 refine ⟨w.heap.size + 1, [{ target := .collected w.heap.size, args := #[] }], W1, { target := .fn (.func F1) #[.pointer (some ⟨g.β id, 0, none⟩)], args := #[.func (.yield (w.heap.size + 1)) #[] #[]] }, W1, F1,
  #[.func (.yield (w.heap.size + 1)) #[] #[]] ++ #[.pointer (some ⟨g.β id, 0, none⟩)], W1, ?_, ?_, fun _ _ => trivial, ?_, (fun h => by cases h), ?_⟩
 ·rw [<- hW1, hrec]; exact run_enterLoop_outer _ _ _ _ _
 ·simp only [resolve, hg]
  simp [go_sem]
 ·have hc' : ∀ (args : Array Value) (w : World), (callFunc F1 args).run P w = .ok (.enter F1 args) w := hc
  simp [invoke, go_sem, hc']
 ·have hgA : ∀ {g' : Gh}, (g'.A0, g'.R0) = A1 -> g'.R0 = g.R0 := fun {g'} h => by rw [hA1] at h; exact (Prod.mk.inj h).2
  obtain ⟨J, hJ⟩ : ∃ J : Nat -> World -> Prop, J = fun k W => (∃ gk, Rel n1 N (H k) gk a W /\ (gk.A0, gk.R0) = A1) /\ LtK n1 W /\ Bk n0 w0 W /\ W.heap[w.heap.size + 1]? = some (.loop (rec .ready)) /\ W.heap[w.heap.size]? = some (.deferred (some [])) := ⟨_, rfl⟩
  have hmax : rows.length <= zc8 := by obtain ⟨_, _, _, h, _⟩ := zjz hR1 (hslot 0).2; exact h
  refine CallsIn.mono (zc4.2 (zc4.1 (hB (w.heap.size + 1) (g.β id) rows.length W1 J hmax ?_ ?_ ?_))) ?_
  ·rintro W h
   rw [hJ] at h
   obtain ⟨⟨gk, k1, k2⟩, _⟩ := h
   obtain ⟨ao, cap, h1, _⟩ := zjz k1 (hslot 0).2
   rw [hβ k1] at h1
   exact ⟨ao, cap, h1⟩
  ·rintro k W h hk
   rw [hJ] at h
   obtain ⟨⟨gk, k1, k2⟩, k3, k4, k5, k6⟩ := h
   obtain ⟨ao, cap, h1, _, h2⟩ := zjz k1 (hslot k).2
   rw [hβ k1] at h1
   obtain ⟨b, o, rfl, h3⟩ := h2.resolve_left (fun e => by rw [e] at hk; simp at hk)
   have hi : rows.length - 1 - k < rows.length := by omega
   obtain ⟨h4, h5⟩ := h3.at (rows.length - 1 - k) rows[rows.length - 1 - k] (by simp [hi])
   obtain ⟨vs, h6, h7⟩ := h5.valsN
   refine ⟨b, o, cap, vs, h1, by rw [h6.len]; exact h4, h7, ?_⟩
   have hy := run_yield (P := P) (args := #[.int .i64 ((rows.length - 1 - k : Nat) : Int), agv ag vs]) k5 (by rw [hrec]; rfl)
   rw [hrec] at hy
   refine ⟨fn, _, asg, bd, hy, roundIn_of_wpIn hfn ?_⟩
   clear hy
   have hda' : a.defers = [] := k1.defers
   have hex := hround k hk
   rw [show rows.getD (rows.length - 1 - k) [] = rows[rows.length - 1 - k] by simp [hi]] at hex
   have q1 : Rel n1 N (((H k).put (some p1) (.one (.t (.int .i64 ((rows.length - 1 - k : Nat) : Int))))).put (some p2) (rowN ag rows[rows.length - 1 - k])) gk ((a.put (some p1) (.int .i64 ((rows.length - 1 - k : Nat) : Int))).put (some p2) (agv ag vs)) W := by
    refine (k1.put (some p1) (v := .int .i64 ((rows.length - 1 - k : Nat) : Int)) ?_ (fun i e => by cases e; exact hp1)).put (some p2) ?_ (fun i e => by cases e; exact hp2)
    ·show zag _ _ _ _
     unfold zag
     have m1 : IntKind.min .i64 = -9223372036854775808 := by decide
     have m2 : IntKind.max .i64 = 9223372036854775807 := by decide
     unfold zc8 at hmax
     exact ⟨rfl, by omega, by omega⟩
    ·exact (Mv.of_eq gk W rfl rfl).vr (zvx (hag.imp (fun h => h) fun h => by rw [h4, h]) h6)
   have q2 : Ag (fun i => i ∈ p1 :: p2 :: (zbl asg ++ zbl bd)) a ((a.put (some p1) (.int .i64 ((rows.length - 1 - k : Nat) : Int))).put (some p2) (agv ag vs)) :=
    ((Ag.refl _ a).put (fun i e => by cases e; simp) _).put (fun i e => by cases e; simp) _
   have ef : (#[p1, p2].zip #[.int .i64 ((rows.length - 1 - k : Nat) : Int), agv ag vs]).foldl (fun (tmps : Array Value) (x : Nat × Value) => match x with | (t, v) => tmps.setIfInBounds t v) a.tmps = ((a.put (some p1) (.int .i64 ((rows.length - 1 - k : Nat) : Int))).put (some p2) (agv ag vs)).tmps := by simp [Act.put]
   show asg.wpIn (FR (some (w.heap.size + 1))) 5 P _ { tmps := (#[p1, p2].zip #[.int .i64 ((rows.length - 1 - k : Nat) : Int), agv ag vs]).foldl (fun (tmps : Array Value) (x : Nat × Value) => match x with | (t, v) => tmps.setIfInBounds t v) a.tmps, defers := [] } W
   rw [ef]
   refine wpIn_mono (zbd (r := some (w.heap.size + 1)) (n := 5) (ds := []) (D := fun i => i ∈ p1 :: p2 :: (zbl asg ++ zbl bd)) (a0 := a) asg _ _ hpa hda (fun d hd => by simp [hd]) hex gk _ W q1 k3 (Bk.refl n1 W) k2 q2) ?_
   rintro e a2 W2 ⟨a1, rfl, q3, σ2, g2, ⟨rfl, hex2⟩, q4, q5, q6, q7⟩
   have r1 : W2.heap[w.heap.size + 1]? = some (.loop (rec .ready)) := (q6.block _ hl1).trans k5
   refine ⟨_, run_beginRound r1 (by rw [hrec]), ?_⟩
   have q4' := q4.putObj hl1 (hAl g2 q7) (.loop { rec .ready with state := .busy })
   have q5' : LtK n1 (W2.putObj (w.heap.size + 1) (.loop { rec .ready with state := .busy })) := fun b hb => by have := q5 b hb; simpa using this
   refine wpIn_mono (hex2 (some (w.heap.size + 1)) 5 [] n1 _ _ a g2 _ _ q4' q5' (Bk.refl n1 _) q7 q3) ?_
   rintro e a3 W3 ⟨a4, rfl, s3, σ3, g3, ⟨rfl, hwk⟩, s4, s5, s6, s7⟩
   have r2 : W3.heap[w.heap.size + 1]? = some (.loop { rec .ready with state := .busy }) := (s6.block _ hl1).trans (World.putObj_heap_same (Array.getElem?_eq_some_iff.1 r1).1)
   have r3 := run_endRound (P := P) none r2
   obtain ⟨g4, t1, t2, t3⟩ := hwk _ _ _ _ _ s4
   have hA4 : (g4.A0, g4.R0) = A1 := by rw [t2, t3]; exact s7
   have t4 : Rel n1 N (H (k + 1)) g4 a W3 := t1.frame s3 hda' k1.size (hany (k + 1))
   refine ⟨_, _, r3, rfl, ?_⟩
   rw [hJ]
   refine ⟨⟨g4, t4.putObj hl1 (hAl g4 hA4) _, hA4⟩, fun b hb => by have := s5 b hb; simpa using this, ?_, by rw [World.putObj_heap_same (Array.getElem?_eq_some_iff.1 r2).1, hrec]; rfl, ?_⟩
   ·exact (((k4.trans (q6.mono hsub)).trans (Bk.putObj _ hl0 _)).trans (s6.mono hsub)).trans (Bk.putObj _ hl0 _)
   ·rw [World.putObj_heap_other (by omega), s6.block _ hD1, World.putObj_heap_other (by omega), q6.block _ hD1]; exact k6
  ·rw [hJ]
   exact ⟨⟨_, hR1, hA1.symm⟩, hz1, hb1, hL1, hK1⟩
  ·rintro e W2 ⟨⟨v, rfl⟩, h⟩
   rw [hJ] at h
   obtain ⟨⟨gk, k1, k2⟩, k3, k4, k5, k6⟩ := h
   refine ⟨none, _, by have := run_endLoop (P := P) k5 (by rw [hrec]; simp); rw [hrec] at this; exact this, ?_⟩
   have hda' : a.defers = [] := k1.defers
   show Q .normal { a with defers := [{ target := .collected w.heap.size, args := #[] }] ++ a.defers } _
   rw [hda', List.append_nil]
   exact hQ gk _ (k1.putObj hl1 (hAl gk k2) _) (fun b hb => by have := k3 b hb; simpa using this) (k4.trans (Bk.putObj _ hl0 _)) ((World.putObj_heap_other (by omega)).trans k6) k2
def zme (P : Program) (N : Nat) (g : Operand) (ps : Array Tmp) (asg bd q : Code) (Q : Exit -> St -> Prop) (σ : St) : Prop :=
 ∃ (F1 : FuncId) (ag : Bool) (sz t p1 p2 id : Nat) (H : Nat -> St) (rows : List (List T)), g = .tmp t /\ ps = #[p1, p2] /\ zla P F1 ag sz /\ zaz P F1 /\ (p1 < N /\ p2 < N /\ t < 1000000) /\ (ag = true \/ sz = 1) ∧
  (∀ k, (H k).sl t = .one (.fn F1 [id]) /\ (H k).bx id = some [.rn (.sl sz rows)]) /\ (∀ k, ∀ i ∈ p1 :: p2 :: (zbl asg ++ zbl bd), (H k).sl i = .one .any) ∧
  (∀ k, k < rows.length -> zdg P asg (((H k).put (some p1) (.one (.t (.int .i64 ((rows.length - 1 - k : Nat) : Int))))).put (some p2) (rowN ag (rows.getD (rows.length - 1 - k) []))) fun e σ2 => e = .normal /\ zd0 P N (fun i => i ∈ p1 :: p2 :: (zbl asg ++ zbl bd)) bd σ2 fun e σ3 => e = .normal /\ Wk σ3 (H (k + 1))) ∧
  Wk σ (H 0) /\ zdg P q (H rows.length) Q
theorem zi8 {N n : Nat} {n0 : Nat -> Prop} {w0 : World} {A0 : (Nat -> Prop) × RP} : ∀ {c p q : Code} {g : Operand} {ps : Array Tmp} {asg bd : Code} {Q1 Q2 : Exit -> St -> Prop} {Q : Exit -> Act -> World -> Prop}, zca c = some (p, (g, ps, asg, bd), q) →
  za7 N p = true -> za7 N q = true -> zbm q = true -> (zbm asg = true /\ za7 N asg = true) -> (∀ σ, Q1 .normal σ -> zme P N g ps asg bd q Q2 σ) →
  (∀ e a w, e ≠ .normal -> zvs n0 N w0 A0 Q1 e a w -> Q e a w) -> (∀ e a w, ztu n0 N w0 A0 Q2 e a w -> Q e a w) →
  ∀ {σ : St} {gh : Gh} {a : Act} {w : World}, zdg P p σ Q1 -> Rel n0 N σ gh a w -> LtK n0 w -> Bk n0 w0 w -> (gh.A0, gh.R0) = A0 -> c.wpIn (FR none) n P Q a w := by
 intro c
 have loop : ∀ {g : Operand} {ps : Array Tmp} {asg bd : Code} {Q1 Q2 : Exit -> St -> Prop} {Q : Exit -> Act -> World -> Prop}, (zbm asg = true /\ za7 N asg = true) -> (∀ σ, Q1 .normal σ -> zme P N g ps asg bd .skip Q2 σ) →
   (∀ a w, ztu n0 N w0 A0 Q2 .normal a w -> Q .normal a w) -> ∀ {σ : St} {gh : Gh} {a : Act} {w : World}, zdg P .skip σ Q1 -> Rel n0 N σ gh a w -> LtK n0 w -> Bk n0 w0 w -> (gh.A0, gh.R0) = A0 -> (Code.rangeFunc g ps asg bd).wpIn (FR none) n P Q a w := by
  intro g ps asg bd Q1 Q2 Q ha hL hq σ gh a w hex hR hn hb hA
  obtain ⟨F1, ag, sz, t, p1, p2, id, H, rows, rfl, rfl, h1, h2, h3, h4, h5, h6, h7, h8, h9⟩ := hL σ hex
  obtain ⟨g1, k1, k2, k3⟩ := h8 _ _ _ _ _ hR
  refine zhl h1 h2 ha.1 ha.2 h3.1 h3.2.1 h3.2.2 H rows h4 h5 h6 h7 k1 hn hb fun g' w' q1 q2 q3 q4 q5 => hq _ _ ?_
  refine ⟨w.heap.size, _, a, H rows.length, g', rfl, h9, q1, q2, q3, q4, Or.inr (Or.inl rfl), hn.new (Nat.le_refl _), fun b hb => Or.inl hb, ?_, ?_, ?_⟩
  ·rw [(Prod.mk.inj q5).1]; exact fun h => h.2.1 rfl
  ·rw [(Prod.mk.inj q5).1, <- hA]; intro b hb; rw [k2] at hb; exact hb.1
  ·rw [(Prod.mk.inj q5).2, <- hA]; exact k3
 induction c with
 | rangeFunc g ps asg bd _ _ =>
  intro p q g' ps' asg' bd' Q1 Q2 Q h hdp hdq hpq ha hL hx hq σ gh a w hex hR hn hb hA
  simp only [zca, Option.some.injEq, Prod.mk.injEq] at h
  obtain ⟨rfl, ⟨rfl, rfl, rfl, rfl⟩, rfl⟩ := h
  exact loop ha hL (fun a w => hq .normal a w) hex hR hn hb hA
 | block i b _ =>
  intro p q g' ps' asg' bd' Q1 Q2 Q h hdp hdq hpq ha hL hx hq σ gh a w hex hR hn hb hA
  cases b with
  | rangeFunc g ps asg bd =>
   simp only [zca, Option.some.injEq, Prod.mk.injEq] at h
   obtain ⟨rfl, ⟨rfl, rfl, rfl, rfl⟩, rfl⟩ := h
   exact wpIn_block (loop (Q := Exit.inBlock i Q) ha hL (fun a w k => hq .normal a w k) hex hR hn hb hA)
  | _ => simp [zca] at h
 | seq x y ihx ihy =>
  intro p q g' ps' asg' bd' Q1 Q2 Q h hdp hdq hpq ha hL hx hq σ gh a w hex hR hn hb hA
  unfold zca at h
  split at h
  ·rename_i p1 r1 q1 hs
   simp only [Option.some.injEq, Prod.mk.injEq] at h
   obtain ⟨rfl, rfl, rfl⟩ := h
   simp only [za7, zbm, Bool.and_eq_true] at hdq hpq
   refine wpIn_seq (ihx (Q1 := Q1) (Q2 := fun e σ => match e with | .normal => zdg P y σ Q2 | e => Q2 e σ) hs hdp hdq.1 hpq.1 ha hL (fun e a w he k => ?_) (fun e a w k => ?_) hex hR hn hb hA)
   ·have := hx e a w he k
    cases e <;> first | exact absurd rfl he | exact this
   ·cases e with
    | normal => exact wpIn_mono (zmp hpq.2 hdq.2 k) hq
    | exit i => exact hq _ _ _ k
    | goto l => exact hq _ _ _ k
    | ret => exact hq _ _ _ k
    | panic ch => exact hq _ _ _ k
    | outgrown => exact hq _ _ _ k
  ·split at h
   ·rename_i p1 r1 q1 hs
    simp only [Option.some.injEq, Prod.mk.injEq] at h
    obtain ⟨rfl, rfl, rfl⟩ := h
    simp only [za7, Bool.and_eq_true] at hdp
    refine wpIn_seq (wpIn_mono (Q := zvs n0 N w0 A0 _) ((wpIn_wide (n := n)).2 (za5 x σ _ hdp.1 hex gh a w hR hn hb hA)) fun e a' w' k => ?_)
    cases e with
    | normal =>
     obtain ⟨σ', g', h1, h2, h3, h4, h5⟩ := k
     exact ihy hs hdp.2 hdq hpq ha hL hx hq h1 h2 h3 h4 h5
    | exit i => exact hx _ _ _ (by simp) k
    | goto l => exact hx _ _ _ (by simp) k
    | ret => exact hx _ _ _ (by simp) k
    | panic ch => exact hx _ _ _ (by simp) k
    | outgrown => exact hx _ _ _ (by simp) k
   ·cases h
 | _ => intro p q g' ps' asg' bd' Q1 Q2 Q h; simp [zca] at h
theorem FC_ofR {f : FuncId} {fn : Func} {c p q asg bd : Code} {g : Operand} {ps : Array Tmp} {args res : List D} (hc : zaz P f) (hf : P.funcs[f]? = some fn) (hb : fn.body = some c) (hs : zca c = some (p, (g, ps, asg, bd), q))
  (hd : (za7 fn.ntmps p && za7 fn.ntmps q && zbm q && (zbm asg && za7 fn.ntmps asg)) = true) (hN : (rd args).length <= fn.ntmps)
  (h : ex P p [] (fun e σ => match e with | .normal => zme P fn.ntmps g ps asg bd q (PS P fn.results.toList res) σ | .ret => PS P fn.results.toList res .ret σ | _ => False) (zet args)) : FC P f args res := by
 refine ⟨hc, fun w vs fp tp hv hn => ?_⟩
 refine (zc4 (r := none) (n := 0)).1 (callsIn_of_wp_marks hf hb trivial ?_)
 obtain ⟨hr, rfl, rfl⟩ := zcb hv
 have hv' : zbh w (fun b => b < w.heap.size /\ True /\ b ∉ ([] : List Nat)) (rd args) vs [] [] := zbh.keepA (fun b hb => ⟨hb.1, trivial, hb.2⟩) hv
 obtain ⟨gh, hg, hR⟩ := Rel.start (A0 := fun _ => True) (R0 := RP.of fun b => b ∈ ([] : List Nat) \/ w.heap.size <= b) (N := fn.ntmps) hv' hn (zb5 args) hN (fun _ _ => trivial) (fun b hb => ⟨trivial, Or.inl hb⟩) (fun b hb => ⟨trivial, by
  by_cases hlt : b < w.heap.size
  ·exact Or.inl (Classical.byContradiction fun h => hb ⟨hlt, h⟩)
  ·exact Or.inr (by omega)⟩)
 have hR0 : Rel (fun b => b < w.heap.size /\ b ∉ ([] : List Nat)) fn.ntmps (zet args) gh { tmps := (⟨vs⟩ : Array Value) ++ Array.replicate (fn.ntmps - vs.length) undef, defers := [] } w := zi0 hr hR ⟨rfl, hg⟩
 simp only [Bool.and_eq_true] at hd
 obtain ⟨⟨⟨d1, d2⟩, d3⟩, d4, d5⟩ := hd
 refine zi8 (n := 0) (w0 := w) hs d1 d2 d3 ⟨d4, d5⟩ (fun σ h => h) ?_ ?_ h hR0 (fun k hk => hk.1) (Bk.refl _ _) hg
 ·rintro e a' w' he ⟨σ', g', h1, h2, h3, h4, h5⟩
  cases e with
  | normal => exact absurd rfl he
  | ret =>
   have hr0 : g'.R0 = RP.of fun b => b ∈ ([] : List Nat) \/ w.heap.size <= b := (Prod.mk.inj h5).2
   obtain ⟨v, r1, us, fp', tp', r2, r3, r4, r5⟩ := zu5 h2 hr0 fn h1
   show LeavesInM _ _ _ _ _ _ a'.defers .returning w'
   rw [h2.defers]
   exact ⟨v, r1, us, fp', tp', r2, r3, r4, r5, h4⟩
  | exit _ => exact h1.elim
  | goto _ => exact h1.elim
  | panic _ => exact h1.elim
  | outgrown => exact h1.elim
 ·rintro e a' w' ⟨D, n1, a1, σ, g', rfl, h1, h2, h3, h4, h5, h6, h7, h8, h9, h10, h11⟩
  have hk : (e = .normal \/ e = .ret) /\ (zal (zbe P σ fn.results.toList) (fun vs => zl8 σ [] vs res) \/ PX P fn.results.toList res σ) := by
   cases e with
   | normal => exact ⟨Or.inl rfl, h1⟩
   | ret => exact ⟨Or.inr rfl, h1⟩
   | exit _ => exact h1.elim
   | goto _ => exact h1.elim
   | panic _ => exact h1.elim
   | outgrown => exact h1.elim
  have q1 := (h2.putObj h6 h9 (.deferred none)).leave (n0 := fun b => b < w.heap.size /\ b ∉ ([] : List Nat)) (A1 := fun _ => True) h8 (fun _ _ => trivial) (fun b hb => ⟨trivial, by
   rw [h11]
   by_cases hlt : b < w.heap.size
   ·exact absurd ⟨hlt, by simp⟩ hb
   ·exact Or.inr (by omega)⟩)
  obtain ⟨v, r1, us, fp', tp', r2, r3, r4, r5⟩ := zu5 q1 h11 fn hk.2
  have main : LeavesInM (FR none) 0 P fn a1.tmps (fun e w' => ∃ us fp' tp', e = .returned (zbp us) /\ GDs w' res us fp' tp' /\ fp'.Nodup /\ (∀ b ∈ fp', b ∈ ([] : List Nat) \/ w.heap.size <= b) /\ Bk (fun k => k < w.heap.size /\ k ∉ ([] : List Nat)) w w') [{ target := .collected D, args := #[] }] .returning w' :=
   ⟨by simp, Or.inl ⟨D, _, rfl, run_takeDeferred h5, ⟨v, r1, us, fp', tp', r2, r3, r4, r5, h4.trans (Bk.putObj _ h7 _)⟩⟩⟩
  rcases hk.1 with rfl | rfl <;> exact main
def nkR (σ' : St) (e : Exit) (σ : St) : Prop := match e with
 | .normal => Wk σ σ'
 | _ => False
theorem zma (σ' σ : St) : nkR σ' .normal σ = Wk σ σ' := rfl
def RdR (P : Program) (N : Nat) (D : Nat -> Prop) (bd : Code) (σ' : St) (e : Exit) (σ : St) : Prop := match e with
 | .normal => zd0 P N D bd σ (nkR σ')
 | _ => False
theorem loopR {N t p1 p2 : Nat} {asg bd q : Code} {Q : Exit -> St -> Prop} {σ : St} {F1 : FuncId} {ag : Bool} {sz : Nat} (hB : zla P F1 ag sz) (hc : zaz P F1) (id : Nat) (H : Nat -> St) (rows : List (List T)) (h1 : (decide (p1 < N) && decide (p2 < N) && decide (t < 1000000)) = true) (h2 : (ag || sz == 1) = true)
  (h3 : ∀ k, (H k).sl t = .one (.fn F1 [id]) /\ (H k).bx id = some [.rn (.sl sz rows)]) (h4 : ∀ k, zqk (H k).sl (p1 :: p2 :: (zbl asg ++ zbl bd))) (h6 : Wk σ (H 0))
  (h5 : ∀ k, k < rows.length -> ex P asg [] (RdR P N (fun i => i ∈ p1 :: p2 :: (zbl asg ++ zbl bd)) bd (H (k + 1))) (((H k).put (some p1) (.one (.t (.int .i64 ((rows.length - 1 - k : Nat) : Int))))).put (some p2) (rowN ag (rows.getD (rows.length - 1 - k) []))))
  (h7 : ex P q [] Q (H rows.length)) : zme P N (.tmp t) #[p1, p2] asg bd q Q σ := by
 simp only [Bool.and_eq_true, decide_eq_true_eq, Bool.or_eq_true, beq_iff_eq] at h1 h2
 refine ⟨F1, ag, sz, t, p1, p2, id, H, rows, rfl, rfl, hB, hc, ⟨h1.1.1, h1.1.2, h1.2⟩, h2, h3, fun k => zf6 (h4 k), fun k hk => ?_, h6, h7⟩
 refine zbr (fun e σ2 h => ?_) (h5 k hk)
 cases e with
 | normal =>
  refine ⟨rfl, fun r n ds n0 w0 A0 a0 g a w k1 k2 k3 k4 k5 => wpIn_mono (h r n ds n0 w0 A0 a0 g a w k1 k2 k3 k4 k5) fun e a' w' => zm3.mono fun e σ3 h => ?_⟩
  cases e with
  | normal => exact ⟨rfl, h⟩
  | exit _ => exact (show False from h).elim
  | goto _ => exact (show False from h).elim
  | ret => exact (show False from h).elim
  | panic _ => exact (show False from h).elim
  | outgrown => exact (show False from h).elim
 | exit _ => exact (show False from h).elim
 | goto _ => exact (show False from h).elim
 | ret => exact (show False from h).elim
 | panic _ => exact (show False from h).elim
 | outgrown => exact (show False from h).elim
def HdR (P : Program) (fn : Func) (res : List D) (g : Operand) (ps : Array Tmp) (asg bd q : Code) (e : Exit) (σ : St) : Prop := match e with
 | .normal => zme P fn.ntmps g ps asg bd q (PS P fn.results.toList res) σ
 | .ret => PS P fn.results.toList res .ret σ
 | _ => False
theorem zmv (fn : Func) (res : List D) (g : Operand) (ps : Array Tmp) (asg bd q : Code) (σ : St) : HdR P fn res g ps asg bd q .normal σ = zme P fn.ntmps g ps asg bd q (PS P fn.results.toList res) σ := rfl
theorem zmq (N : Nat) (D : Nat -> Prop) (bd : Code) (σ' σ : St) : RdR P N D bd σ' .normal σ = zd0 P N D bd σ (nkR σ') := rfl
theorem zie (N : Nat) (D : Nat -> Prop) (y : Code) (Q : Exit -> St -> Prop) (σ : St) : thenR P N D y Q .normal σ = zd0 P N D y σ Q := rfl
theorem zwc {f : FuncId} {fn : Func} {c p q asg bd : Code} {g : Operand} {ps : Array Tmp} {args res : List D} (hc : zaz P f) (hf : P.funcs[f]? = some fn) (hb : fn.body = some c) (hs : zca c = some (p, (g, ps, asg, bd), q))
  (hd : (za7 fn.ntmps p && za7 fn.ntmps q && zbm q && (zbm asg && za7 fn.ntmps asg)) = true) (hN : (rd args).length <= fn.ntmps)
  (h : ex P p [] (HdR P fn res g ps asg bd q) (zet args)) : FC P f args res :=
 FC_ofR hc hf hb hs hd hN (zbr (fun e σ h => by cases e <;> exact h) h)
attribute [go_sem] zmv zmq zma zie
end Go.Proofs.Yteeaofpphmhjdaa
namespace Go.Proofs.Yteeaofpphmhjdaa
set_option linter.unusedSimpArgs false
set_option linter.unusedVariables false
set_option linter.unusedSectionVars false
set_option maxRecDepth 4000
open Go.RowKit
variable {P : Program}
def VDn (σ : St) : List V -> List D -> Prop
 | [], ds => ds = []
 | v :: vs, ds => ∃ d ds', ds = d :: ds' /\ (VD σ v d \/ ∃ s sz, v = .one (.nl s) /\ d = .one (.pin (.slice none 0 0) (.sl sz []))) /\ VDn σ vs ds'
theorem VD.rep1 {n0 : Nat -> Prop} {N : Nat} {σ : St} {g : Gh} {a : Act} {w : World} (hR : Rel n0 N σ g a w) {x : V} {d : D} (h : VD σ x d) {v : Value} (hv : VR σ g w x v) : zrm w (· < w.heap.size) d v := by
 have : VDs σ [x] [d] := ⟨d, [], rfl, h, rfl⟩
 obtain ⟨_, _, e, h1, _⟩ := VDs.rep hR this (vs := [v]) ⟨v, [], rfl, hv, rfl⟩
 cases e
 exact h1
theorem VDn.rep {n0 : Nat -> Prop} {N : Nat} {σ : St} {g : Gh} {a : Act} {w : World} (hR : Rel n0 N σ g a w) : ∀ {xs : List V} {ds : List D}, VDn σ xs ds -> ∀ {vs : List Value}, VRl σ g w xs vs -> za0 w (· < w.heap.size) ds vs
 | [], ds, h, vs, hv => by rw [show ds = [] from h]; exact hv
 | x :: xs, ds, h, vs, hv => by
  obtain ⟨d, ds', rfl, h1, h2⟩ := h
  obtain ⟨v, vs', rfl, k1, k2⟩ := hv
  refine ⟨v, vs', rfl, ?_, VDn.rep hR h2 k2⟩
  rcases h1 with h1 | ⟨s, sz, rfl, rfl⟩
  ·exact VD.rep1 hR h1 k1
  ·have k1 : v = .slice none 0 0 := k1
   subst k1
   show zag _ _ (.pin _ _) _
   unfold zag
   refine ⟨rfl, ?_⟩
   unfold zag
   exact ⟨none, 0, rfl, Nat.le_refl _, by simp, Or.inl rfl⟩
theorem zml {o : Oper} {σ : St} {x : Operand} {asx : Array Operand} {ts : Array TypeId} {f : FuncId} {cvs : List V} {d : Nat} {ds res : List D} (ho : o.op = .call ⟨.value x, asx, ts⟩) (hd : o.dst = some d)
  (h : FC P f ds res) (hc : zap (σ.get P 0 x) = some (f, cvs)) (hv : VDn σ (σ.gets P asx ts ++ cvs) ds) (hf : zew d 0 (zat res) σ.ev) : zab P o σ (σ.callF d res) := by
 intro n0 N g a w hR hn hdN
 obtain ⟨vs, h1, h2⟩ := zc6 hR ho hc h.1
 unfold Oper.wp
 rw [h1]
 refine (h.use (VDn.rep hR hv h2)).mono ?_
 rintro e w' ⟨us, fp, rfl, o1, o2, o3, hb⟩
 obtain ⟨g', k1, k2, k3⟩ := New.cells (σ := σ) (g := g) (NB := (w.heap.size <= ·)) (w' := w') d (zat res) _ fp 0 σ.ev g [] (New.refl _ _ _ _ hR.slc) (fun e h1 h2 => absurd h1 h2) hf o1.cells o2 (fun b hb' => ⟨o3 b hb', by simp⟩)
 have hR' := hR.after hn hb k1
 refine ⟨g', ?_, Bk.of_below hb hn, k1.A0, k1.R0⟩
 have hp := hR'.put (some d) (x := zmd (znd d 0 res)) (v := zbp us) (zft (zhe d 0 o1 (k3 _ _ rfl)) (ze2 d res 0)) (fun i hi => by cases hi; exact hdN d hd)
 rw [hd]
 exact hp
section
variable {ks : List Fr} {Q : Exit -> St -> Prop} {σ : St} {ops : Array Oper} {os : List Oper} {ty : TypeId} {ps : String} {af : Array Edge}
theorem callFn {d : Nat} {x : Operand} {asx : Array Operand} {ts : Array TypeId} {f : FuncId} {ds res : List D} (h : FC P f ds res) (hp : zal (zap (σ.get P 0 x)) fun p => p.1 = f /\ VDn σ (σ.gets P asx ts ++ p.2) ds /\ zew d 0 (zat res) σ.ev)
  (k : exo P ops os ks Q (σ.callF d res)) : exo P ops (⟨some d, .call ⟨.value x, asx, ts⟩, ty, ps, af, none⟩ :: os) ks Q σ := by
 obtain ⟨⟨f', cvs⟩, h1, rfl, h2, h3⟩ := zam hp
 exact zcc rfl rfl (zml rfl rfl h h1 h2 h3) k
end
theorem vdn_nl (σ : St) (s sz : Nat) (vs : List V) (ds : List D) : VDn σ (.one (.nl s) :: vs) (.one (.pin (.slice none 0 0) (.sl sz [])) :: ds) = VDn σ vs ds := propext ⟨fun h => by
 obtain ⟨d, ds', e, _, h⟩ := h
 obtain ⟨rfl, rfl⟩ := List.cons.inj e
 exact h, fun h => ⟨_, _, rfl, Or.inr ⟨_, _, rfl, rfl⟩, h⟩⟩
theorem vdn_t (σ : St) (t : T) (vs : List V) (ds : List D) : VDn σ (.one (.t t) :: vs) (.one t :: ds) = VDn σ vs ds := propext ⟨fun h => by
 obtain ⟨d, ds', e, _, h⟩ := h
 obtain ⟨rfl, rfl⟩ := List.cons.inj e
 exact h, fun h => ⟨_, _, rfl, Or.inl rfl, h⟩⟩
theorem zvh (σ : St) : VDn σ [] [] = True := by unfold VDn; simp
end Go.Proofs.Yteeaofpphmhjdaa
namespace Go.Proofs
open Go.Shelf
set_option maxRecDepth 100000
def Try.laysSF_ren : Go.Shelf.Ren := ⟨fun | 6 => 61 | 15 => 107 | 14 => 106 | 28 => 127 | 29 => 128 | 20 => 119 | 21 => 120 | 22 => 121 | 23 => 122 | 24 => 123 | 25 => 124 | 26 => 125 | 27 => 126 | 46 => 132 | 47 => 133 | 48 => 134 | 49 => 135 | 50 => 136 | 57 => 137 | n => n, fun | 22 => 27 | 24 => 3 | 25 => 74 | 3 => 3 | 39 => 113 | 0 => 0 | 53 => 127 | 55 => 58 | 4 => 4 | 46 => 121 | 45 => 120 | 50 => 37 | 5 => 5 | 9 => 9 | 66 => 130 | 70 => 134 | 76 => 136 | 77 => 75 | n => n, fun | n => n⟩
theorem Try.laysSF : Go.Proofs.SlLaysF.n6 Try.prog Try.laysSF_ren := {
 mixed := by kernel_rfl
 f6 := ⟨Try.f61.name, by decide, Try.func61.trans (congrArg some (by kernel_rfl))⟩
 f14 := ⟨Try.f106.name, by decide, Try.func106.trans (congrArg some (by kernel_rfl))⟩
 f15 := Try.func107.trans (congrArg some (by kernel_rfl))
 f20 := ⟨Try.f119.name, by decide, Try.func119.trans (congrArg some (by kernel_rfl))⟩
 f21 := ⟨Try.f120.name, by decide, Try.func120.trans (congrArg some (by kernel_rfl))⟩
 f22 := ⟨Try.f121.name, by decide, Try.func121.trans (congrArg some (by kernel_rfl))⟩
 f23 := ⟨Try.f122.name, by decide, Try.func122.trans (congrArg some (by kernel_rfl))⟩
 f24 := ⟨Try.f123.name, by decide, Try.func123.trans (congrArg some (by kernel_rfl))⟩
 f25 := ⟨Try.f124.name, by decide, Try.func124.trans (congrArg some (by kernel_rfl))⟩
 f26 := ⟨Try.f125.name, by decide, Try.func125.trans (congrArg some (by kernel_rfl))⟩
 f27 := ⟨Try.f126.name, by decide, Try.func126.trans (congrArg some (by kernel_rfl))⟩
 f28 := Try.func127.trans (congrArg some (by kernel_rfl))
 f29 := Try.func128.trans (congrArg some (by kernel_rfl))
 f46 := ⟨Try.f132.name, by decide, Try.func132.trans (congrArg some (by kernel_rfl))⟩
 f47 := Try.func133.trans (congrArg some (by kernel_rfl))
 f48 := Try.func134.trans (congrArg some (by kernel_rfl))
 f49 := ⟨Try.f135.name, by decide, Try.func135.trans (congrArg some (by kernel_rfl))⟩
 f50 := ⟨Try.f136.name, by decide, Try.func136.trans (congrArg some (by kernel_rfl))⟩
 f57 := ⟨Try.f137.name, by decide, Try.func137.trans (congrArg some (by kernel_rfl))⟩
 t0 := Try.underlying0
 a0 := Try.isAgg0
 z0 := Try.sizeOf0
 v0 := Try.zeroValue0
 t3 := Try.underlying3
 a3 := Try.isAgg3
 z3 := Try.sizeOf3
 v3 := Try.zeroValue3
 t4 := Try.underlying4
 a4 := Try.isAgg4
 z4 := Try.sizeOf4
 v4 := Try.zeroValue4
 t5 := Try.underlying5
 a5 := Try.isAgg5
 z5 := Try.sizeOf5
 v5 := Try.zeroValue5
 t9 := Try.underlying9
 a9 := Try.isAgg9
 z9 := Try.sizeOf9
 v9 := Try.zeroValue9
 t22 := Try.underlying27
 a22 := Try.isAgg27
 z22 := Try.sizeOf27
 v22 := Try.zeroValue27
 a24 := Try.isAgg3
 z24 := Try.sizeOf3
 t25 := Try.underlying74
 a25 := Try.isAgg74
 z25 := Try.sizeOf74
 v25 := Try.zeroValue74
 t39 := Try.underlying113
 a39 := Try.isAgg113
 z39 := Try.sizeOf113
 v39 := Try.zeroValue113
 t45 := Try.underlying120
 a45 := Try.isAgg120
 z45 := Try.sizeOf120
 v45 := Try.zeroValue120
 t46 := Try.underlying121
 a46 := Try.isAgg121
 z46 := Try.sizeOf121
 v46 := Try.zeroValue121
 t50 := Try.underlying37
 a50 := Try.isAgg37
 z50 := Try.sizeOf37
 v50 := Try.zeroValue37
 t53 := Try.underlying127
 a53 := Try.isAgg127
 z53 := Try.sizeOf127
 v53 := Try.zeroValue127
 t55 := Try.underlying58
 a55 := Try.isAgg58
 z55 := Try.sizeOf58
 v55 := Try.zeroValue58
 t66 := Try.underlying130
 a66 := Try.isAgg130
 z66 := Try.sizeOf130
 v66 := Try.zeroValue130
 t70 := Try.underlying134
 a70 := Try.isAgg134
 z70 := Try.sizeOf134
 v70 := Try.zeroValue134
 t76 := Try.underlying136
 a76 := Try.isAgg136
 z76 := Try.sizeOf136
 v76 := Try.zeroValue136
 t77 := Try.underlying75
 a77 := Try.isAgg75
 z77 := Try.sizeOf75
 v77 := Try.zeroValue75 }
end Go.Proofs
namespace Go.Proofs.Yteeaofpphmhjdaa
set_option linter.unusedSimpArgs false
set_option linter.unusedVariables false
set_option linter.unusedSectionVars false
set_option maxRecDepth 4000
open Go.RowKit
theorem zom : ∀ {c : List Int}, zcp (c.map fun s => [T.int .i64 s]) -> ∀ l ∈ c, -9223372036854775808 <= l /\ l <= 9223372036854775807
 | [], _, l, hl => by simp at hl
 | x :: c, h, l, hl => by
  have h' : zng [T.int .i64 x] /\ zcp (c.map fun s => [T.int .i64 s]) := h
  have m1 : IntKind.min .i64 = -9223372036854775808 := by decide
  have m2 : IntKind.max .i64 = 9223372036854775807 := by decide
  rcases List.mem_cons.1 hl with rfl | hl
  ·have h2 : wfT (T.int .i64 l) := h'.1.1
   unfold wfT at h2
   rw [m1, m2] at h2
   exact h2
  ·exact zom h'.2 l hl
def abW (n : Int) : Int := if n < 0 then IntKind.i64.wrap (0 - n) else n
theorem zus {n : Int} (h : -9223372036854775808 < n) (h2 : n <= 9223372036854775807) : abW n = ab n := by
 unfold abW
 split
 ·rw [zas (by omega) (by omega)]; unfold ab; omega
 ·unfold ab; omega
theorem abW_in {n : Int} (h : -9223372036854775808 <= n) (h2 : n <= 9223372036854775807) : inB (abW n) 1 12 = (decide (0 < ab n) && decide (ab n <= 12)) := by
 by_cases e : n = -9223372036854775808
 ·subst e; decide
 ·rw [zus (by omega) h2]
  unfold inB
  congr 1
theorem zgs (n : Int) : FC Try.prog 98 [iD n] [iD (abW n)] := by
 refine zav Try.call98 Try.func98 rfl (by kernel_rfl) (zbi (by kernel_rfl)) ?_
 simp -implicitDefEqProofs only [go_sem, Try.results98]
 refine ⟨fun h => ?_, fun h => ?_⟩
 ·have : n < 0 := by simpa using h
  unfold abW; rw [if_pos this]
 ·have : ¬ n < 0 := by simpa using h
  unfold abW; rw [if_neg this]
theorem zjk (c : List Int) : FC Try.prog 63 [.one (za8 c)] [bD (pcl c)] := by
 refine zdh (fun hw => ?_) Try.call63
 have hl : c.length <= 9223372036854775807 := by have := hw.1.1; simpa using this
 have hwf := zom hw.1.2
 refine zav Try.call63 Try.func63 rfl (by kernel_rfl) (zbi (by kernel_rfl)) ?_
 simp -implicitDefEqProofs only [go_sem, Try.results63]
 refine zaj (fun k : Nat => hd [(0, vT (za8 c)), (3, vI k)] [] []) (fun k => k <= c.length /\ pcl c = zop (pv c k) (c.drop k) /\ (0 < k -> -12 <= c.getD (k - 1) 0 /\ c.getD (k - 1) 0 <= 12)) (fun k => c.length - k) 0 (zad ?_) ?_ ?_
 ·simp -implicitDefEqProofs only [go_sem]
 ·exact ⟨Nat.zero_le _, rfl, fun h => absurd h (by omega)⟩
 ·intro k ⟨hk, hr, hpr⟩
  by_cases hlt : k < c.length
  ·have hsu := zqg c hlt
   have hgd : c.getD k 0 = c[k] := by rw [List.getD_eq_getElem?_getD, List.getElem?_eq_getElem hlt]; rfl
   rw [List.drop_eq_getElem_cons hlt] at hr
   unfold zop at hr
   have hb := hwf c[k] (List.getElem_mem hlt)
   have HA := zgs c[k]
   have HI := ziv (abW c[k]) 1 12
   rw [abW_in hb.1 hb.2] at HI
   cases h1 : (decide (0 < ab c[k]) && decide (ab c[k] <= 12))
   ·rw [h1] at HI
    have hno : pcl c = false := by
     rw [hr]
     have hpv : 0 <= pv c k := by unfold pv ab; split <;> omega
     rw [Bool.and_eq_false_iff, decide_eq_false_iff_not, decide_eq_false_iff_not] at h1
     rcases h1 with h1 | h1
     ·rw [show decide (pv c k < ab c[k]) = false by simp; omega]; rfl
     ·rw [show decide (ab c[k] <= 12) = false by simpa using h1]; simp
    simp -implicitDefEqProofs only [go_sem, hlt]
    refine drawn (by kernel_rfl) ?_
    simp -implicitDefEqProofs only [go_sem, zaf, hlt]
    refine zdb (HA) (by simp -implicitDefEqProofs only [go_sem]) ?_
    simp -implicitDefEqProofs only [go_sem]
    refine zdb (HI) (by simp -implicitDefEqProofs only [go_sem]) ?_
    simp -implicitDefEqProofs only [go_sem]
    refine ⟨by kernel_rfl, ?_⟩
    rw [hno]
   ·rw [h1] at HI
    have hab : 0 < ab c[k] /\ ab c[k] <= 12 := by simpa using h1
    have hin : -12 <= c[k] /\ c[k] <= 12 := (zvk hab).2
    by_cases hk0 : k = 0
    ·have hkf : ((0 : Int) < (k : Int)) = False := by simp; omega
     simp -implicitDefEqProofs only [go_sem, hlt]
     refine drawn (by kernel_rfl) ?_
     simp -implicitDefEqProofs only [go_sem, zaf, hlt, hkf]
     refine zdb (HA) (by simp -implicitDefEqProofs only [go_sem]) ?_
     simp -implicitDefEqProofs only [go_sem]
     refine zdb (HI) (by simp -implicitDefEqProofs only [go_sem, hkf]) ?_
     simp -implicitDefEqProofs only [go_sem, hkf]
     refine ⟨by kernel_rfl, ?_⟩
     rw [zaw (by omega)]
     refine ⟨k + 1, ⟨hlt, ?_, fun _ => ?_⟩, by omega, zad (by simp -implicitDefEqProofs only [go_sem])⟩
     ·have hpv : pv c k = 0 := by unfold pv; rw [if_pos hk0]
      rw [hr, hsu, hpv, show decide (0 < ab c[k]) = true by simpa using hab.1, show decide (ab c[k] <= 12) = true by simpa using hab.2]; rfl
     ·rw [Nat.add_sub_cancel, hgd]; exact hin
    ·have hkp : (0 : Int) < k := by omega
     have hk1 : k - 1 < c.length := by omega
     have hw1 : IntKind.i64.wrap ((k : Int) - 1) = ((k - 1 : Nat) : Int) := by rw [zas (by omega) (by omega)]; omega
     have hg1 : c.getD (k - 1) 0 = c[k - 1] := by rw [List.getD_eq_getElem?_getD, List.getElem?_eq_getElem hk1]; rfl
     have hp1 := hpr (by omega)
     rw [hg1] at hp1
     have HB := zgs c[k - 1]
     rw [zus (by omega) (by omega)] at HB HA
     have hpv : pv c k = ab c[k - 1] := by unfold pv; rw [if_neg hk0, hg1]
     rw [hpv] at hr
     simp -implicitDefEqProofs only [go_sem, hlt]
     refine drawn (by kernel_rfl) ?_
     simp -implicitDefEqProofs only [go_sem, zaf, hlt]
     refine zdb (zgs c[k]) (by simp -implicitDefEqProofs only [go_sem]) ?_
     simp -implicitDefEqProofs only [go_sem]
     refine zdb (HI) (by simp -implicitDefEqProofs only [go_sem, hkp, hw1, hk1, hlt, zaf]) ?_
     simp -implicitDefEqProofs only [go_sem, hkp, hw1, hk1, hlt, zaf]
     refine zun (HB) (by simp -implicitDefEqProofs only [go_sem, hlt, zaf]) ?_
     simp -implicitDefEqProofs only [go_sem, hlt, zaf]
     refine zun (HA) (by simp -implicitDefEqProofs only [go_sem]) ?_
     simp -implicitDefEqProofs only [go_sem]
     refine ⟨by kernel_rfl, ?_⟩
     rw [zaw (by omega)]
     refine ⟨fun h => ?_, fun h => ⟨k + 1, ⟨hlt, ?_, fun _ => ?_⟩, by omega, zad (by simp -implicitDefEqProofs only [go_sem])⟩⟩
     ·have : ¬ ab c[k - 1] < ab c[k] := by simp at h; omega
      rw [hr, show decide (ab c[k - 1] < ab c[k]) = false by simpa using this]; simp
     ·have : ab c[k - 1] < ab c[k] := by simp at h; omega
      rw [hr, hsu, show decide (ab c[k - 1] < ab c[k]) = true by simpa using this, show decide (ab c[k] <= 12) = true by simpa using hab.2]; rfl
     ·rw [Nat.add_sub_cancel, hgd]; exact hin
  ·simp -implicitDefEqProofs only [go_sem, hlt]
   rw [hr, List.drop_of_length_le (by omega)]; rfl
end Go.Proofs.Yteeaofpphmhjdaa
namespace Go.Proofs.Yteeaofpphmhjdaa
set_option linter.unusedSimpArgs false
set_option linter.unusedVariables false
set_option linter.unusedSectionVars false
set_option maxRecDepth 4000
open Go.RowKit
theorem zgl (xs : List (List Int)) (p : List Int -> Bool) (g : FuncId) (caps : List T) (H : ∀ x ∈ xs, FC Try.prog g (.one (za8 x) :: caps.map .one) [bD (p x)]) : FC Try.prog 57 [.one (za9 xs), .one (.fn g caps)] [iD (zwe xs p)] := by
 refine zdh (fun hw => ?_) Try.call57
 have hl : xs.length <= 9223372036854775807 := by simpa [zlh, wfT] using hw.1.1
 refine zav Try.call57 Try.func57 rfl (by kernel_rfl) (zbi (by kernel_rfl)) ?_
 simp -implicitDefEqProofs only [go_sem, Try.results57]
 refine zaj (fun k : Nat => hd [(0, vT (za9 xs)), (1, vT (.fn g caps)), (7, vI xs.length), (8, vI k)] [] []) (fun k => k <= xs.length /\ ∀ x ∈ xs.take k, p x = false) (fun k => xs.length - k) 0 (zad ?_) ?_ ?_
 ·simp -implicitDefEqProofs only [go_sem]
 ·simp
 ·intro k ⟨hk, hr⟩
  by_cases hlt : k < xs.length
  ·simp -implicitDefEqProofs only [go_sem, zaf, hlt, ne_eq]
   refine callF (H xs[k] (List.getElem_mem hlt)) (by simp -implicitDefEqProofs only [go_sem, ne_eq]) ?_
   simp -implicitDefEqProofs only [go_sem, ne_eq]
   refine ⟨fun h => ?_, fun h => ⟨k + 1, ⟨hlt, zg5 hlt hr h⟩, by omega, zad (by simp -implicitDefEqProofs only [go_sem]; rw [zaw (by omega)])⟩⟩
   rw [zmk hlt hr h]
  ·simp -implicitDefEqProofs only [go_sem, hlt]
   rw [List.take_of_length_le (by omega)] at hr
   rw [zqv hr]
theorem zeu (xs : List (List Int)) (p : List Int -> Bool) (g : FuncId) (caps : List T) (H : ∀ x ∈ xs, FC Try.prog g (.one (za8 x) :: caps.map .one) [bD (p x)]) : FC Try.prog 76 [.one (za9 xs), .one (.fn g caps)] [bD (xs.any p)] := by
 refine zav Try.call76 Try.func76 rfl (by kernel_rfl) (zbi (by kernel_rfl)) ?_
 simp -implicitDefEqProofs only [go_sem, Try.results76]
 refine callF (zgl xs p g caps H) (by simp -implicitDefEqProofs only [go_sem]) ?_
 simp -implicitDefEqProofs only [go_sem]
 rw [zrx]
theorem zjq (c : List Int) : FC Try.prog 100 [.one (za8 c)] [bD (!pcl c)] := by
 refine zav Try.call100 Try.func100 rfl (by kernel_rfl) (zbi (by kernel_rfl)) ?_
 simp -implicitDefEqProofs only [go_sem, Try.results100]
 refine callF (zb9 c) (by simp -implicitDefEqProofs only [go_sem]) ?_
 simp -implicitDefEqProofs only [go_sem]
theorem zvb (S : List (List Int)) : zin S = (decide ((S.length : Int) <= 40) && !(S.any fun c => !pcl c)) := by
 unfold zin
 congr 1
 ·rw [decide_eq_decide]; omega
 ·rw [List.not_any_eq_all_not]; simp
theorem zex (S : List (List Int)) : FC Try.prog 54 [.one (za9 S)] [bD (zin S)] := by
 have H := zeu S (fun c => !pcl c) 100 [] fun x _ => zjq x
 rw [zvb]
 refine zav Try.call54 Try.func54 rfl (by kernel_rfl) (zbi (by kernel_rfl)) ?_
 simp -implicitDefEqProofs only [go_sem, Try.results54]
 cases h : decide ((S.length : Int) <= 40)
 ·simp -implicitDefEqProofs only [go_sem, h]
 ·simp -implicitDefEqProofs only [go_sem, h]
  refine callF (H) (by simp -implicitDefEqProofs only [go_sem]) ?_
  simp -implicitDefEqProofs only [go_sem]
theorem zuc (S : List (List Int)) : FC Try.prog 48 [.one (za9 S)] [bD (zin S)] := by
 refine zdh (fun hw => ?_) Try.call48
 have hl : S.length <= 9223372036854775807 := by simpa [zlh, wfT] using hw.1.1
 have hle : ((S.length : Int) <= 40) = (S.length <= 40) := by simp; omega
 refine zav Try.call48 Try.func48 rfl (by kernel_rfl) (zbi (by kernel_rfl)) ?_
 simp -implicitDefEqProofs only [go_sem, Try.results48]
 refine zaj (fun k : Nat => hd [(0, vT (za9 S)), (3, vI k)] [] []) (fun k => k <= S.length /\ k <= 41 /\ ∀ x ∈ S.take k, pcl x = true) (fun k => S.length - k) 0 (zad ?_) ?_ ?_
 ·simp -implicitDefEqProofs only [go_sem]
 ·simp
 ·intro k ⟨hk, hk2, hr⟩
  by_cases hlt : k < S.length
  ·by_cases h40 : (k : Int) <= 40
   ·have HC := zjk S[k]
    simp -implicitDefEqProofs only [go_sem, hlt, h40, zaf]
    refine callF (HC) (by simp -implicitDefEqProofs only [go_sem]) ?_
    simp -implicitDefEqProofs only [go_sem]
    rw [zaw (by omega)]
    refine ⟨fun h => ?_, fun h => ⟨k + 1, ⟨hlt, by omega, fun x hx => ?_⟩, by omega, zad (by simp -implicitDefEqProofs only [go_sem])⟩⟩
    ·have hf : pcl S[k] = false := by simpa using h
     have : zin S = false := by
      rw [<- Bool.not_eq_true]
      intro hp
      rw [zg4 hp (List.getElem_mem hlt)] at hf; cases hf
     rw [this]
    ·rw [List.take_succ_eq_append_getElem hlt] at hx
     rcases List.mem_append.1 hx with hx | hx
     ·exact hr x hx
     ·rw [List.mem_singleton.1 hx]; simpa using h
   ·have : zin S = false := by
     unfold zin
     rw [show decide (S.length <= 40) = false by simp; omega]; rfl
    have h40' : ((S.length : Int) <= 40) = False := by simp; omega
    have h40k : ((k : Int) <= 40) = False := by simp; omega
    simp -implicitDefEqProofs only [go_sem, hlt, h40k, h40']
    rw [this]
  ·rw [List.take_of_length_le (by omega)] at hr
   have hall : S.all pcl = true := List.all_eq_true.2 hr
   simp -implicitDefEqProofs only [go_sem, hlt]
   unfold zin
   rw [hall, Bool.and_true]
   have : decide ((S.length : Int) <= 40) = decide (S.length <= 40) := by rw [decide_eq_decide]; omega
   rw [this]
theorem zg0 (xs : List Int) (s : Int) : FC Try.prog 99 [.one (za8 xs), iD s] [bD (xs.contains s)] := by
 refine zdh (fun hw => ?_) Try.call99
 have hl : xs.length <= 9223372036854775807 := by simpa [zlh, wfT] using hw.1.1
 refine zav Try.call99 Try.func99 rfl (by kernel_rfl) (zbi (by kernel_rfl)) ?_
 simp -implicitDefEqProofs only [go_sem, Try.results99]
 refine zaj (fun k : Nat => hd [(0, vT (za8 xs)), (1, vT (.int .i64 s)), (5, vI k)] [] []) (fun k => k <= xs.length /\ s ∉ xs.take k) (fun k => xs.length - k) 0 (zad ?_) ?_ ?_
 ·simp -implicitDefEqProofs only [go_sem]
 ·simp
 ·intro k ⟨hk, hr⟩
  by_cases hlt : k < xs.length
  ·simp -implicitDefEqProofs only [go_sem, zaf, hlt]
   refine ⟨fun h => ?_, fun h => ?_⟩
   ·have e : xs[k] = s := beq_iff_eq.1 h
    have hm : s ∈ xs := e ▸ List.getElem_mem hlt
    rw [show xs.contains s = true by simpa using hm]
   ·have e : xs[k] ≠ s := fun e => by simp [e] at h
    rw [zaw (by omega)]
    exact ⟨k + 1, ⟨hlt, zdw hlt hr e⟩, by omega, zad (by simp -implicitDefEqProofs only [go_sem])⟩
  ·simp -implicitDefEqProofs only [go_sem, hlt]
   rw [List.take_of_length_le (by omega)] at hr
   rw [show xs.contains s = false by simpa using hr]
theorem zp0 : ∀ xs : List Int, flR (xs.map fun s => [T.int .i64 s]) = true
 | [] => rfl
 | a :: xs => by rw [List.map_cons]; unfold flR; rw [zp0 xs]; rfl
attribute [go_sem] zp0
end Go.Proofs.Yteeaofpphmhjdaa
namespace Go.Proofs.Yteeaofpphmhjdaa
set_option linter.unusedSimpArgs false
set_option linter.unusedVariables false
set_option linter.unusedSectionVars false
set_option maxRecDepth 4000
open Go.RowKit
abbrev Sm (c : List Int) : Prop := ∀ l ∈ c, -1073741824 <= l /\ l <= 1073741824
theorem zil {c : List Int} (h : pcl c = true) : Sm c := fun l hl => by have := zvk (zj4 h hl); omega
end Go.Proofs.Yteeaofpphmhjdaa
namespace Go.Proofs.Yteeaofpphmhjdaa
set_option linter.unusedSimpArgs false
set_option linter.unusedVariables false
set_option linter.unusedSectionVars false
set_option maxRecDepth 4000
open Go.RowKit Go.Sort Go.Proofs
def zur (x : Int) : Int := max x (wrap64 (-x))
def cmp3 (a b : Int) : Int := if a < b then -1 else if b < a then 1 else 0
def cfV (x y : Int) : Int := cmp3 (zur x) (zur y)
theorem zn7 {x : Int} (h : -1073741824 <= x /\ x <= 1073741824) : zur x = ab x := by
 have : wrap64 (-x) = -x := by unfold wrap64; omega
 unfold zur ab
 rw [this]
theorem zll (x y : Int) : ltOf cfV x y = decide (zur x < zur y) := by
 unfold ltOf cfV cmp3
 split
 ·rename_i h; simp [h]
 ·rename_i h; split <;> simp [h]
theorem swoV : SWO (ltOf cfV) where
 irrefl x := by rw [zll]; simp
 trans x y z h1 h2 := by rw [zll] at *; simp at *; omega
 ntrans x y z h1 h2 := by rw [zll] at *; simp at *; omega
theorem zlz {a b : Int} (h : a = b) : Ending.returned (.int .i64 a) = .returned (.int .i64 b) := by rw [h]
set_option maxHeartbeats 400000 in
theorem zmj (x : Int) (w : World) :
  Calls Try.prog 96 #[.int .i64 x] w fun e w' => e = .returned (.int .i64 (zur x)) /\ w' = w := by
 go_enter Try.func96, Try.ntmps96
 go_wp2
 all_goals (go_ret; refine ⟨zlz ?_, rfl⟩; unfold zur; omega)
set_option maxHeartbeats 400000 in
theorem zn5 (x y : Int) (w : World) :
  Calls Try.prog 108 #[.int .i64 x, .int .i64 y] w fun e w' => e = .returned (.int .i64 (cmp3 x y)) /\ w' = w := by
 have hx : (x != x) = false := by simp
 have hy : (y != y) = false := by simp
 go_enter Try.func108, Try.ntmps108
 go_wp2
 all_goals (go_ret; refine ⟨zlz ?_, rfl⟩; unfold cmp3; first | (rw [if_pos (by omega)]; done) | (rw [if_neg (by omega), if_pos (by omega)]; done) | (rw [if_neg (by omega), if_neg (by omega)]; done))
set_option maxHeartbeats 400000 in
theorem zim (x y : Int) (w : World) :
  Calls Try.prog 62 #[.int .i64 x, .int .i64 y] w fun e w' => e = .returned (.int .i64 (cfV x y)) /\ w' = w := by
 go_enter Try.func62, Try.ntmps62
 go_wp2_with (first | (go_at_call 96; refine (zmj _ _).mono ?_; rintro e w' ⟨rfl, hw⟩; rw [hw]; clear hw) | (go_at_call 108; refine (zn5 _ _ _).mono ?_; rintro e w' ⟨rfl, hw⟩; rw [hw]; clear hw))
 go_ret
 exact ⟨rfl, rfl⟩
theorem zlt {w : World} : ∀ {ss : List Int} {vs : List Value} {fps : List Nat}, zao w (ss.map (T.int .i64)) vs fps -> vs = ss.map (Value.int .i64) /\ fps = [] /\ ∀ s ∈ ss, IntKind.min .i64 <= s /\ s <= IntKind.max .i64
 | [], vs, fps, h => ⟨h.1, h.2, by simp⟩
 | s :: ss, vs, fps, h => by
  obtain ⟨v, vs', f1, f2, rfl, rfl, h1, h2⟩ := h
  unfold zan at h1
  obtain ⟨rfl, k1, k1', rfl⟩ := h1
  obtain ⟨rfl, rfl, k2⟩ := zlt h2
  exact ⟨rfl, rfl, fun x hx => (List.mem_cons.1 hx).elim (fun e => e ▸ ⟨k1, k1'⟩) (k2 x)⟩
theorem zk8 {w : World} : ∀ {ss : List Int}, (∀ s ∈ ss, IntKind.min .i64 <= s /\ s <= IntKind.max .i64) -> zao w (ss.map (T.int .i64)) (ss.map (Value.int .i64)) []
 | [], _ => ⟨rfl, rfl⟩
 | s :: ss, h => ⟨_, _, [], [], rfl, rfl, by unfold zan; exact ⟨rfl, (h s (by simp)).1, (h s (by simp)).2, rfl⟩, zk8 fun x hx => h x (by simp [hx])⟩
theorem zi7 (ss : List Int) : (ss.map fun s => [T.int .i64 s]).flatten = ss.map (T.int .i64) := by induction ss <;> simp_all
theorem zo4 (ss : List Int) : lens 1 (ss.map fun s => [T.int .i64 s]) := fun r hr => by obtain ⟨s, _, rfl⟩ := List.mem_map.1 hr; rfl
theorem zq4 {xs ys : List Int} {d' : Array Int} (hp : PermIn 0 xs.toArray.size xs.toArray d') (hs : SortedIn (ltOf cfV) 0 xs.toArray.size d') (hxy : xs.Perm ys) (hy : Ris ys) (hb : Sm ys) : d'.toList = ys := by
 obtain ⟨p1, _, p3⟩ := hp
 have hsz : d'.size = xs.length := by rw [p1]; simp
 have e1 : (d'.extract 0 xs.toArray.size).toList = d'.toList := by simp [<- p1]
 have e2 : (xs.toArray.extract 0 xs.toArray.size).toList = xs := by simp
 rw [e1, e2] at p3
 have hpy := p3.trans hxy
 refine zl7 hpy hy (List.pairwise_iff_getElem.2 fun i j hi hj hij => ?_)
 have hj' : j < d'.size := by simpa using hj
 have hi' : i < d'.size := by simpa using hi
 have h := hs i j (Nat.zero_le _) hij (by rw [<- p1]; exact hj')
 rw [zll, getElem!_pos d' j hj', getElem!_pos d' i hi', decide_eq_false_iff_not] at h
 have m1 : d'[i] ∈ ys := hpy.mem_iff.1 (by rw [<- Array.getElem_toList hi']; exact List.getElem_mem _)
 have m2 : d'[j] ∈ ys := hpy.mem_iff.1 (by rw [<- Array.getElem_toList hj']; exact List.getElem_mem _)
 rw [zn7 (hb _ m1), zn7 (hb _ m2)] at h
 rw [Array.getElem_toList, Array.getElem_toList]
 omega
set_option maxHeartbeats 1000000 in
theorem znz (p : Option Addr) (cap : Nat) (fv : Value) (w : World) :
  Calls Try.prog 119 #[.slice p 0 cap, .int .i64 0, .int .i64 0, fv] w fun e w' => e = .returned (.tuple #[]) /\ w' = w := by
 go_enter Try.func119, Try.ntmps119
 go_wp2
 refine wp_loop_rounds 1 ?_
 rw [rounds_succ]
 go_wp2
 go_end0
 exact ⟨rfl, rfl⟩
set_option maxHeartbeats 2000000 in
theorem zqo (p : Option Addr) (cap : Nat) (lim : Int) (fv : Value) (w : World) :
  Calls Try.prog 106 #[.slice p 0 cap, .int .i64 0, .int .i64 0, .int .i64 lim, fv] w fun e w' => e = .returned (.tuple #[]) /\ w' = w := by
 go_enter Try.func106, Try.ntmps106
 go_wp2
 refine wp_loop_rounds 1 ?_
 rw [rounds_succ]
 go_wp2_with (go_at_call 119; refine (znz p cap fv _).mono ?_; rintro e w' ⟨rfl, rfl⟩)
 (try simp only [Exit.inBlock, Exit.then]); refine bodyPost_ret (results_none rfl _ _ _) rfl ?_
 exact ⟨rfl, rfl⟩
set_option maxHeartbeats 2000000 in
theorem zms (p : Option Addr) (cap : Nat) (fv : Value) (w : World) :
  Calls Try.prog 61 #[.slice p 0 cap, fv] w fun e w' => e = .returned (.tuple #[]) /\ w' = w := by
 have hl : ∀ W, Calls Try.prog 107 #[.int .u64 0] W fun e w' => e = .returned (.int .i64 (Lib.bitLen 0 : Nat)) /\ w' = W := fun W =>
  Any.bits_Len (SlLaysF0.n15.bits (P := Try.prog) (ρ := Try.laysSF_ren) { Try.laysSF with }) 0 W (by omega) (by omega)
 go_enter Try.func61, Try.ntmps61
 go_wp2_with (first | (go_at_call 107; refine (hl _).mono ?_; rintro e w' ⟨rfl, rfl⟩) | (go_at_call 106; refine (zqo p cap _ fv _).mono ?_; rintro e w' ⟨rfl, rfl⟩))
 go_end0
 exact ⟨rfl, rfl⟩
set_option maxHeartbeats 1000000 in
theorem zwr (xs ys : List Int) (hp : xs.Perm ys) (hr : Ris ys) (hb : Sm ys) (hl : xs.length < 4611686018427387904) : IC Try.prog 61 [] (.one (za8 xs)) [.one (.fn 62 [])] (.one (za8 ys)) [] := by
 refine ⟨Try.call61, fun w us1 v us2 fp tp h1 hg h2 hn => ?_⟩
 rw [show us1 = [] from h1]
 obtain ⟨u, us, e0, h2, h3⟩ := h2
 rw [show us = [] from h3] at e0
 subst e0
 have h2 : zag w _ (T.fn 62 []) u := h2
 unfold zag at h2
 obtain ⟨cs, rfl, h4⟩ := h2
 rw [show cs = [] by unfold zaa at h4; exact h4]
 have hlen : ys.length = xs.length := hp.length_eq.symm
 have eg : ∀ args w, (callFunc 62 args).run Try.prog w = .ok (.enter 62 args) w := enters_of Try.func62 (by kernel_rfl) rfl
 obtain ⟨hg, _⟩ := hg
 unfold zan at hg
 obtain ⟨ao, cap, rfl, q1, q2, q3⟩ := hg
 rw [List.length_map] at q1 ⊢
 rcases q3 with ⟨rfl, rfl, q3, rfl⟩ | ⟨b, cells, ty, fps, rfl, rfl, q3, q4, q5⟩
 ·have hs : xs = [] := List.map_eq_nil_iff.1 q3
  subst hs
  have hy : ys = [] := List.length_eq_zero_iff.1 hlen
  subst hy
  refine (zms none 0 _ w).mono ?_
  rintro e w' ⟨rfl, rfl⟩
  refine ⟨[], [], [], rfl, ⟨_, [], [], [], [], [], rfl, rfl, rfl, ⟨?_, rfl⟩, rfl, rfl, rfl⟩, List.nodup_nil, by simp, Bk.refl _ _⟩
  unfold zan
  exact ⟨none, 0, by simp, by simp, by simp, Or.inl ⟨rfl, rfl, by simp, rfl⟩⟩
 ·obtain ⟨_, vs, k1, k2, k3⟩ := q5.vals
  rw [zi7] at k3
  obtain ⟨rfl, rfl, k4⟩ := zlt k3
  have hsz : xs.length <= cells.size := by omega
  have ht : cells.toList.take xs.length = xs.map (Value.int .i64) := by
   apply List.ext_getElem?
   intro j
   by_cases hj : j < xs.length
   ·rw [List.getElem?_take_of_lt hj, Array.getElem?_toList]
    have := k2 j _ (List.getElem?_eq_getElem (by simpa using hj))
    rw [Nat.zero_add] at this
    rw [this, List.getElem?_eq_getElem (by simpa using hj)]
   ·rw [List.getElem?_take_eq_none (by omega), List.getElem?_eq_none (by simp; omega)]
  have hH := holds_of_blockI q3 ht
  have hcmp : CmpReads Try.prog 62 #[] (Value.int .i64) cfV b 0 xs.toArray.size w := fun m os dk _ x y => (zim x y _).mono fun e w' ⟨he, hw⟩ => ⟨he, 0, hw⟩
  have hC := Any.slices_SortFunc Try.laysSF (Value.int .i64) (fun _ => rfl) cfV swoV 62 #[] b 0 cap xs.toArray w eg hcmp.lays hH (Array.getElem?_eq_some_iff.1 q3).1 (by simpa using hl)
  refine Calls.mono (show Calls Try.prog 61 _ w _ from hC) ?_
  rintro e w' ⟨rfl, d', n, os, hp', hs', rfl⟩
  have hd : d'.toList = ys := zq4 hp' hs' hp hr hb
  have hd2 : d' = ys.toArray := by rw [<- hd]
  subst hd2
  have hgr := grownBy_sortedI (w := w) (g := b) (n := n) (os := os) ys.toArray
  have htk := take_putCellsI cells ys (by omega)
  refine ⟨[], [b], [b], rfl, ⟨_, [], [b], [], [b], [], rfl, rfl, rfl, ⟨?_, rfl⟩, rfl, rfl, rfl⟩, by simp, fun x hx => Or.inl hx, ⟨hgr.os, hgr.tape, hgr.output, hgr.size, fun k hk => hgr.block k hk.1 fun e => hk.2 (by cases e; simp)⟩⟩
  unfold zan
  refine ⟨_, cap, by rw [List.length_map, hlen], by rw [List.length_map, hlen]; exact q1, q2, Or.inr ⟨b, _, ty, [], rfl, rfl, heap_sortedI _ q3, by simp [putCells, q4], ?_⟩⟩
  refine zac.of_vals (zo4 _) (by rw [zi7]; exact zk8 fun s hs => k4 s (hp.mem_iff.2 hs)) fun j u hu => ?_
  rw [<- htk, List.getElem?_take] at hu
  split at hu
  ·simpa using hu
  ·cases hu
end Go.Proofs.Yteeaofpphmhjdaa
namespace Go.Proofs.Yteeaofpphmhjdaa
set_option linter.unusedSimpArgs false
set_option linter.unusedVariables false
set_option linter.unusedSectionVars false
set_option maxRecDepth 4000
open Go.RowKit
set_option maxRecDepth 100000 in
theorem zps (n : Nat) (hn : n <= 1099511627776) : FC Try.prog 130 [.one (.pin (.slice none 0 0) (.sl 1 [])), iD n] [.one (.sl 1 [])] := by
 refine ⟨Try.call130, fun w vs fp tp hv hnd => ?_⟩
 obtain ⟨v1, _, rfl, h1, hv⟩ := hv
 obtain ⟨v2, _, rfl, h2, hv⟩ := hv
 obtain ⟨rfl, rfl, rfl⟩ := hv
 have e1 : v1 = .slice none 0 0 := by
  have h : zag w (fun b => b < w.heap.size /\ ¬b ∈ []) (.pin (.slice none 0 0) (.sl 1 [])) v1 := h1
  unfold zag at h; exact h.1
 have e2 : v2 = .int .i64 n := by
  have h : zag w (fun b => b < w.heap.size /\ ¬b ∈ []) (.int .i64 n) v2 := h2
  unfold zag at h; exact h.1
 clear h1 h2
 subst e1 e2
 obtain ⟨i, hi, hz, hs, hby⟩ : ∃ i, Try.prog.info? 3 = some i /\ i.zero = some (.int .i64 0) /\ i.size = 1 /\ i.bytes = 8 := ⟨_, rfl, rfl, rfl, rfl⟩
 have g1 : ¬ ((n : Int) < 0) := by omega
 have g2 : wrap64 ((0 : Int) - 0) = 0 := by unfold wrap64; omega
 have g3 : wrap64 ((n : Int) - 0) = n := by unfold wrap64; omega
 by_cases h0 : n = 0
 ·subst h0
  go_enter Try.func130, Try.ntmps130
  go_wp2
  go_ret
  refine ⟨[.slice none 0 0], rfl, [], ⟨_, _, [], [], [], _, [], rfl, rfl, rfl, ⟨?_, rfl⟩, rfl, rfl, rfl⟩, List.nodup_nil, by simp, Bk.refl _ _⟩
  unfold zan
  exact ⟨none, 0, rfl, Nat.le_refl _, by simp, Or.inl ⟨rfl, rfl, rfl, rfl⟩⟩
 ·have g4 : (n : Int) > 0 := by omega
  have hrz := fun ty => Lib.run_append_nil_zeros (P := Try.prog) w 27 3 ty 3 i (.int .i64 0) .i64 .i64 Try.underlying27 Try.underlying3 hi hz n (by omega) (by omega) (by omega) (by rw [hby]; omega)
  go_enter Try.func130, Try.ntmps130
  go_wp2_with (at_builtin; refine Lib.wpList_append_run _ rfl _ _ _ _ rfl _ _ rfl rfl _ _ (hrz _) ?_)
  go_ret
  have hge := grownCap_ge w n 0 3
  have hle := grownCap_le_maxLen w n 0 3 (by unfold maxLen; omega)
  generalize grownCap w n 0 3 = G at hge hle ⊢
  refine ⟨[.slice (some ⟨w.heap.size, 0, none⟩) 0 G], rfl, [w.heap.size], ⟨_, _, [], [w.heap.size], [], _, [], rfl, rfl, rfl, ⟨?_, rfl⟩, rfl, rfl, rfl⟩, by simp, by simp, ⟨rfl, rfl, rfl, ?_, fun k hk => ?_⟩⟩
  ·unfold zan
   refine ⟨_, G, rfl, Nat.zero_le _, by unfold maxLen at hle; omega, Or.inr ⟨w.heap.size, Builtin.zeroCells #[.int .i64 0] n ++ Builtin.zeroCells #[.int .i64 0] (G - n), 3, [], rfl, rfl, ?_, ?_, by unfold zac; rfl⟩⟩
   ·show (w.heap.push _)[w.heap.size]? = _
    simp
   ·simp [size_zeroCells]; omega
  ·show w.heap.size <= (w.heap.push _).size
   rw [Array.size_push]; omega
  ·show (w.heap.push _)[k]? = _
   have hk : k < w.heap.size := by simpa using hk
   rw [Array.getElem?_push_lt hk, Array.getElem?_eq_getElem hk]
def zst (A B : List Int) : Nat -> Nat
 | 0 => 0
 | 1 => A.length
 | _ => A.length + B.length
def ztt (A B : List Int) : Nat -> List Int
 | 0 => []
 | 1 => A
 | _ => A ++ B
theorem zqs (A B : List Int) : zst A B 0 = 0 := rfl
theorem zpf (A B : List Int) : zst A B 1 = A.length := rfl
theorem zor (A B : List Int) : zst A B 2 = A.length + B.length := rfl
theorem zno (A B : List Int) : ztt A B 0 = [] := rfl
theorem zoa (A B : List Int) : ztt A B 1 = A := rfl
theorem zpu (A B : List Int) : ztt A B 2 = A ++ B := rfl
set_option maxHeartbeats 1000000 in
theorem zjj (A B : List Int) (hA : A.length + B.length <= 4194304) : FC Try.prog 114 [.one (.sl 1 [[za8 A], [za8 B]])] [.one (za8 (A ++ B))] := by
 have hG := zps (A.length + B.length) (by omega)
 have w1 : IntKind.i64.wrap ((A.length : Int) + (B.length : Int)) = ((A.length + B.length : Nat) : Int) := by rw [zas (by omega) (by omega)]; omega
 have w0 : IntKind.i64.wrap (0 + (A.length : Int)) = ((A.length : Nat) : Int) := by rw [zas (by omega) (by omega)]; omega
 have u1 : IntKind.i64.wrap 1 = 1 := rfl
 have u2 : IntKind.i64.wrap 2 = 2 := rfl
 have ha1 : A.length <= 4294967296 := by omega
 have ha2 : A.length + B.length <= 4294967296 := by omega
 refine zav Try.call114 Try.func114 rfl (by kernel_rfl) (zbi (by kernel_rfl)) ?_
 simp -implicitDefEqProofs only [go_sem, Try.results114]
 refine zaj (fun k : Nat => hd [(0, vT (.sl 1 [[za8 A], [za8 B]])), (3, vI (zst A B k)), (9, vT (.sl 1 [[za8 A], [za8 B]])), (10, vI 2), (11, vI k)] [] []) (fun k => k <= 2) (fun k => 2 - k) 0 (zad ?_) (Nat.zero_le _) ?_
 ·simp -implicitDefEqProofs only [go_sem, zqs]
 ·intro k hk
  rcases (by omega : k = 0 \/ k = 1 \/ k = 2) with rfl | rfl | rfl
  ·simp -implicitDefEqProofs only [go_sem, zqs, w0]
   refine ⟨1, by omega, by omega, zad ?_⟩
   simp -implicitDefEqProofs only [go_sem, zpf, u1]
  ·simp -implicitDefEqProofs only [go_sem, zpf, w1]
   refine ⟨2, by omega, by omega, zad ?_⟩
   simp -implicitDefEqProofs only [go_sem, zor, u2]
  ·simp -implicitDefEqProofs only [go_sem, zor]
   refine callFn hG (by simp -implicitDefEqProofs only [go_sem, vdn_nl, vdn_t, zvh]) ?_
   simp -implicitDefEqProofs only [go_sem]
   refine zaj (fun k : Nat => hd [(6, .one (.ow 768 0)), (25, vT (.sl 1 [[za8 A], [za8 B]])), (26, vI 2), (27, vI k)] [] [(768, ⟨true, 1, (ztt A B k).map fun s => [.int .i64 s], 0, true⟩)]) (fun k => k <= 2) (fun k => 2 - k) 0 (zad ?_) (Nat.zero_le _) ?_
   ·simp -implicitDefEqProofs only [go_sem, zno, List.map_nil]
   ·intro k hk
    rcases (by omega : k = 0 \/ k = 1 \/ k = 2) with rfl | rfl | rfl
    ·simp -implicitDefEqProofs only [go_sem, zno, List.map_nil]
     refine apD true (by simp -implicitDefEqProofs only [go_sem, ne_eq, List.length_map, ha1, Nat.zero_add]) ?_
     simp -implicitDefEqProofs only [go_sem, ne_eq, List.length_map, ha1, Nat.zero_add]
     refine ⟨1, by omega, by omega, zad ?_⟩
     simp -implicitDefEqProofs only [go_sem, zoa, u1]
    ·simp -implicitDefEqProofs only [go_sem, zoa]
     refine apD true (by simp -implicitDefEqProofs only [go_sem, ne_eq, List.length_map, ha2]) ?_
     simp -implicitDefEqProofs only [go_sem, ne_eq, List.length_map, ha2]
     refine ⟨2, by omega, by omega, zad ?_⟩
     simp -implicitDefEqProofs only [go_sem, zpu, u2, List.map_append]
    ·simp -implicitDefEqProofs only [go_sem, zpu]
end Go.Proofs.Yteeaofpphmhjdaa
namespace Go.Proofs.Yteeaofpphmhjdaa
set_option linter.unusedSimpArgs false
set_option linter.unusedVariables false
set_option linter.unusedSectionVars false
set_option maxRecDepth 4000
open Go.RowKit
set_option maxHeartbeats 1000000 in
theorem ztr (c : List Int) (x : Int) (hc : Sm c) (hx : -1073741824 <= x /\ x <= 1073741824) (hl : c.length <= 4294967290) : FC Try.prog 66 [.one (za8 c), iD x] [.one (za8 (zfy c x))] := by
 have HX := zlc x (by omega)
 refine zav Try.call66 Try.func66 rfl (by kernel_rfl) (zbi (by kernel_rfl)) ?_
 simp -implicitDefEqProofs only [go_sem, Try.results66]
 refine zaj (fun k : Nat => hd [(0, vT (za8 c)), (1, vI x), (5, vI k)] [] []) (fun k => k <= c.length /\ zfy c x = c.take k ++ zfy (c.drop k) x) (fun k => c.length - k) 0 (zad ?_) ?_ ?_
 ·simp -implicitDefEqProofs only [go_sem]
 ·simp
 ·intro k ⟨hk, hr⟩
  have fin : zfy (c.drop k) x = x :: c.drop k -> zfy c x = c.take k ++ [x] ++ c.drop k := fun e => by rw [hr, e]; simp
  have hl0 : min k c.length <= 4294967296 := by omega
  have hl1 : min k c.length <= 4294967295 := by omega
  have hl2 : min k c.length + 1 <= 4294967295 := by omega
  have hl3 : min k c.length + 1 + (c.length - k) <= 4294967296 := by omega
  by_cases hlt : k < c.length
  ·have HA := zlc c[k] (by have := hc _ (List.getElem_mem hlt); omega)
   rw [List.drop_eq_getElem_cons hlt] at hr fin
   by_cases hab : ab c[k] < ab x
   ·have hab' : (ab c[k] < ab x) = True := by simpa using hab
    simp -implicitDefEqProofs only [go_sem, hlt, zaf]
    refine callF (HA) (by simp -implicitDefEqProofs only [go_sem]) ?_
    simp -implicitDefEqProofs only [go_sem]
    refine callF (HX) (by simp -implicitDefEqProofs only [go_sem, hab']) ?_
    simp -implicitDefEqProofs only [go_sem, hab']
    rw [zaw (by omega)]
    refine ⟨k + 1, ⟨hlt, ?_⟩, by omega, zad (by simp -implicitDefEqProofs only [go_sem])⟩
    rw [hr, show zfy (c[k] :: c.drop (k + 1)) x = c[k] :: zfy (c.drop (k + 1)) x by rw [zfy, if_pos hab], List.take_succ_eq_append_getElem hlt, List.append_assoc]
    rfl
   ·have hab' : (ab c[k] < ab x) = False := by simpa using hab
    have hf := fin (by rw [zfy, if_neg hab])
    rw [<- List.drop_eq_getElem_cons hlt] at hf
    rw [hf]
    simp -implicitDefEqProofs only [go_sem, hlt, zaf]
    refine callF (HA) (by simp -implicitDefEqProofs only [go_sem]) ?_
    simp -implicitDefEqProofs only [go_sem]
    refine callF (HX) (by simp -implicitDefEqProofs only [go_sem, hab']) ?_
    simp -implicitDefEqProofs only [go_sem, hab']
    refine drawn (by kernel_rfl) ?_
    simp -implicitDefEqProofs only [go_sem]
    refine ze6 (by simp -implicitDefEqProofs only [go_sem, hk, <- List.map_take]) ?_
    simp -implicitDefEqProofs only [go_sem, hk, <- List.map_take]
    refine dApD true (by simp -implicitDefEqProofs only [go_sem, ne_eq, List.length_map, List.length_take, Nat.zero_add, hl0]) ?_
    simp -implicitDefEqProofs only [go_sem, ne_eq, List.length_map, List.length_take, Nat.zero_add, hl0]
    refine ze6 (by simp -implicitDefEqProofs only [go_sem]) ?_
    simp -implicitDefEqProofs only [go_sem]
    refine dApD true (by simp -implicitDefEqProofs only [go_sem, ne_eq, List.length_map, List.length_append, List.length_take, hl1]) ?_
    simp -implicitDefEqProofs only [go_sem, ne_eq, List.length_map, List.length_append, List.length_take, hl1]
    refine ⟨hk, ?_⟩
    rw [<- List.map_take, List.take_length, <- List.map_drop]
    refine dApD true (by simp -implicitDefEqProofs only [go_sem, ne_eq, List.length_map, List.length_append, List.length_take, List.length_cons, List.length_nil, List.length_drop, hl3]) ?_
    simp -implicitDefEqProofs only [go_sem, ne_eq, List.length_map, List.length_append, List.length_take, List.length_cons, List.length_nil, List.length_drop, hl3]
    refine ⟨by kernel_rfl, ?_⟩
    rw [List.map_append, List.map_append]
    rfl
  ·have hf := fin (by rw [List.drop_of_length_le (by omega)]; rfl)
   rw [hf]
   simp -implicitDefEqProofs only [go_sem, hlt]
   refine drawn (by kernel_rfl) ?_
   simp -implicitDefEqProofs only [go_sem]
   refine ze6 (by simp -implicitDefEqProofs only [go_sem, hk, <- List.map_take]) ?_
   simp -implicitDefEqProofs only [go_sem, hk, <- List.map_take]
   refine dApD true (by simp -implicitDefEqProofs only [go_sem, ne_eq, List.length_map, List.length_take, Nat.zero_add, hl0]) ?_
   simp -implicitDefEqProofs only [go_sem, ne_eq, List.length_map, List.length_take, Nat.zero_add, hl0]
   refine ze6 (by simp -implicitDefEqProofs only [go_sem]) ?_
   simp -implicitDefEqProofs only [go_sem]
   refine dApD true (by simp -implicitDefEqProofs only [go_sem, ne_eq, List.length_map, List.length_append, List.length_take, hl1]) ?_
   simp -implicitDefEqProofs only [go_sem, ne_eq, List.length_map, List.length_append, List.length_take, hl1]
   refine ⟨hk, ?_⟩
   rw [<- List.map_take, List.take_length, <- List.map_drop]
   refine dApD true (by simp -implicitDefEqProofs only [go_sem, ne_eq, List.length_map, List.length_append, List.length_take, List.length_cons, List.length_nil, List.length_drop, hl3]) ?_
   simp -implicitDefEqProofs only [go_sem, ne_eq, List.length_map, List.length_append, List.length_take, List.length_cons, List.length_nil, List.length_drop, hl3]
   refine ⟨by kernel_rfl, ?_⟩
   rw [List.map_append, List.map_append]
   rfl
theorem zgm (p : Int -> Bool) (xs : List Int) {k : Nat} (h : k < xs.length) : (xs.take (k + 1)).filter p = (xs.take k).filter p ++ if p xs[k] = true then [xs[k]] else [] := by
 rw [List.take_succ_eq_append_getElem h, List.filter_append]
 congr 1
 rw [List.filter_cons]
 split <;> simp
set_option maxHeartbeats 2000000 in
theorem zhx (a b : List Int) (v : Int) (ha : Sm a) (hb : Sm b) (hv : -1073741824 <= v /\ v <= 1073741824) (hl : a.length + b.length <= 1073741824) : FC Try.prog 112 [.one (za8 a), .one (za8 b), iD v] [.one (za8 (ze4 a b v).1), bD (ze4 a b v).2] := by
 have H1 := zg0 a v
 have H2 := zg0 b (-v)
 have hwn : IntKind.i64.wrap (0 - v) = -v := by rw [zas (by omega) (by omega)]; omega
 unfold ze4
 cases h1 : a.contains v
 ·rw [h1] at H1
  rw [Bool.false_and, if_neg (by simp)]
  refine zav Try.call112 Try.func112 rfl (by kernel_rfl) (zbi (by kernel_rfl)) ?_
  simp -implicitDefEqProofs only [go_sem, Try.results112]
  refine callF (H1) (by simp -implicitDefEqProofs only [go_sem]) ?_
  simp -implicitDefEqProofs only [go_sem]
  refine zbv (by simp -implicitDefEqProofs only [go_sem]) ?_
  simp -implicitDefEqProofs only [go_sem]
 ·rw [h1] at H1
  cases h2 : b.contains (-v)
  ·rw [h2] at H2
   rw [Bool.and_false, if_neg (by simp)]
   refine zav Try.call112 Try.func112 rfl (by kernel_rfl) (zbi (by kernel_rfl)) ?_
   simp -implicitDefEqProofs only [go_sem, Try.results112]
   refine callF (H1) (by simp -implicitDefEqProofs only [go_sem]) ?_
   simp -implicitDefEqProofs only [go_sem]
   rw [hwn]
   refine callF (H2) (by simp -implicitDefEqProofs only [go_sem]) ?_
   simp -implicitDefEqProofs only [go_sem]
   refine zbv (by simp -implicitDefEqProofs only [go_sem]) ?_
   simp -implicitDefEqProofs only [go_sem]
  ·rw [h2] at H2
   rw [Bool.and_self, if_pos rfl]
   obtain ⟨R, hR⟩ : ∃ R, znh v (a.filter fun x => !(x == v)) b = R := ⟨_, rfl⟩
   rw [hR]
   refine zav Try.call112 Try.func112 rfl (by kernel_rfl) (zbi (by kernel_rfl)) ?_
   simp -implicitDefEqProofs only [go_sem, Try.results112]
   refine callF (H1) (by simp -implicitDefEqProofs only [go_sem]) ?_
   simp -implicitDefEqProofs only [go_sem]
   rw [hwn]
   refine callF (H2) (by simp -implicitDefEqProofs only [go_sem]) ?_
   simp -implicitDefEqProofs only [go_sem]
   refine zbv (by simp -implicitDefEqProofs only [go_sem]) ?_
   simp -implicitDefEqProofs only [go_sem]
   refine zaj (fun k : Nat => hd [(0, vT (za8 a)), (1, vT (za8 b)), (2, vI v), (8, .one (.ow 736 ((a.take k).filter fun x => !(x == v)).length)), (9, vI k)] [] [(736, ⟨true, 1, ((a.take k).filter fun x => !(x == v)).map fun s => [.int .i64 s], ((a.take k).filter fun x => !(x == v)).length, true⟩)]) (fun k => k <= a.length) (fun k => a.length - k) 0 (zad ?_) (Nat.zero_le _) ?_
   ·simp -implicitDefEqProofs only [go_sem]
    rfl
   ·intro k hk
    have hfl := List.length_filter_le (fun x => !(x == v)) (a.take k)
    rw [List.length_take] at hfl
    by_cases hlt : k < a.length
    ·have hs := zgm (fun x => !(x == v)) a hlt
     have hol : ((a.take k).filter fun x => !(x == v)).length <= 4294967295 := by omega
     cases hx : a[k] == v
     ·have hx' : (a[k] != v) = true := by unfold bne; rw [hx]; rfl
      rw [hx, Bool.not_false, if_pos rfl] at hs
      simp -implicitDefEqProofs only [go_sem, hlt, zaf, hx']
      refine zbv (by simp -implicitDefEqProofs only [go_sem]) ?_
      simp -implicitDefEqProofs only [go_sem]
      refine apD true (by simp -implicitDefEqProofs only [go_sem, ne_eq, List.length_map, hol]) ?_
      simp -implicitDefEqProofs only [go_sem, ne_eq, List.length_map, hol]
      rw [zaw (by omega)]
      refine ⟨k + 1, hlt, by omega, zad ?_⟩
      simp -implicitDefEqProofs only [go_sem]
      rw [hs, List.map_append, List.length_append]
      rfl
     ·have hx' : (a[k] != v) = false := by unfold bne; rw [hx]; rfl
      rw [hx, Bool.not_true, if_neg (by simp), List.append_nil] at hs
      simp -implicitDefEqProofs only [go_sem, hlt, zaf, hx']
      rw [zaw (by omega)]
      refine ⟨k + 1, hlt, by omega, zad ?_⟩
      simp -implicitDefEqProofs only [go_sem]
      rw [hs]
    ·have hkn : k = a.length := by omega
     subst hkn
     rw [List.take_length] at hfl ⊢
     have hsm : Sm (a.filter fun x => !(x == v)) := fun l hl => ha l (List.mem_filter.1 hl).1
     generalize (a.filter fun x => !(x == v)) = F at hfl hsm hR ⊢
     simp -implicitDefEqProofs only [go_sem, hlt]
     refine zaj (fun x : Nat × Nat × List Int => hd [(1, vT (za8 b)), (2, vI v), (8, .one (.ow 736 x.2.1)), (10, vI x.1)] [] [(736, ⟨true, 1, x.2.2.map fun s => [.int .i64 s], x.2.1, true⟩)]) (fun x => x.1 <= b.length /\ znh v x.2.2 (b.drop x.1) = R /\ Sm x.2.2 /\ x.2.2.length <= a.length + x.1) (fun x => b.length - x.1) (0, F.length, F) (zad ?_) ?_ ?_
     ·simp -implicitDefEqProofs only [go_sem]
     ·exact ⟨Nat.zero_le _, hR, hsm, by simp only; omega⟩
     ·rintro ⟨j, gn, out⟩ ⟨hj, hr, hso, hlo⟩
      simp only at hj hr hso hlo
      by_cases hjl : j < b.length
      ·rw [List.drop_eq_getElem_cons hjl, znh] at hr
       have hbj := hb _ (List.getElem_mem hjl)
       have HA := zg0 out b[j]
       have HB := zg0 out (-b[j])
       have hwb : IntKind.i64.wrap (0 - b[j]) = -b[j] := by rw [zas (by omega) (by omega)]; omega
       have HP := ztr out b[j] hso hbj (by omega)
       have hwj : IntKind.i64.wrap ((j : Int) + 1) = ((j + 1 : Nat) : Int) := zaw (by omega)
       cases e1 : b[j] == -v
       ·rw [e1, Bool.false_or] at hr
        cases e2 : out.contains b[j]
        ·rw [e2, if_neg (by simp)] at hr
         rw [e2] at HA
         cases e3 : out.contains (-b[j])
         ·rw [e3, if_neg (by simp)] at hr
          rw [e3] at HB
          simp -implicitDefEqProofs only [go_sem, hjl, zaf]
          rw [hwn]
          simp -implicitDefEqProofs only [go_sem, e1, hjl, zaf]
          refine callF (HA) (by simp -implicitDefEqProofs only [go_sem, hjl, zaf]) ?_
          simp -implicitDefEqProofs only [go_sem, hjl, zaf]
          rw [hwb]
          refine callF (HB) (by simp -implicitDefEqProofs only [go_sem, hjl, zaf]) ?_
          simp -implicitDefEqProofs only [go_sem, hjl, zaf]
          refine callF (HP) (by simp -implicitDefEqProofs only [go_sem]) ?_
          simp -implicitDefEqProofs only [go_sem]
          rw [hwj]
          refine ⟨(j + 1, 0, zfy out b[j]), ⟨hjl, hr, ?_, ?_⟩, by simp only; omega, zsv 736 2464 ?_⟩
          ·intro l hl
           rcases zgw.1 hl with rfl | hl
           ·exact hbj
           ·exact hso l hl
          ·simp only; rw [zj2]; omega
          ·simp -implicitDefEqProofs only [go_sem]
         ·rw [e3, if_pos rfl] at hr
          rw [e3] at HB
          subst hr
          simp -implicitDefEqProofs only [go_sem, hjl, zaf]
          rw [hwn]
          simp -implicitDefEqProofs only [go_sem, e1, hjl, zaf]
          refine callF (HA) (by simp -implicitDefEqProofs only [go_sem, hjl, zaf]) ?_
          simp -implicitDefEqProofs only [go_sem, hjl, zaf]
          rw [hwb]
          refine callF (HB) (by simp -implicitDefEqProofs only [go_sem]) ?_
          simp -implicitDefEqProofs only [go_sem]
          refine zbv (by simp -implicitDefEqProofs only [go_sem]) ?_
          simp -implicitDefEqProofs only [go_sem]
        ·rw [e2, if_pos rfl] at hr
         rw [e2] at HA
         simp -implicitDefEqProofs only [go_sem, hjl, zaf]
         rw [hwn]
         simp -implicitDefEqProofs only [go_sem, e1, hjl, zaf]
         refine callF (HA) (by simp -implicitDefEqProofs only [go_sem]) ?_
         simp -implicitDefEqProofs only [go_sem]
         rw [hwj]
         refine ⟨(j + 1, gn, out), ⟨hjl, hr, hso, by simp only; omega⟩, by simp only; omega, zad ?_⟩
         simp -implicitDefEqProofs only [go_sem]
       ·rw [e1, Bool.true_or, if_pos rfl] at hr
        simp -implicitDefEqProofs only [go_sem, hjl, zaf]
        rw [hwn]
        simp -implicitDefEqProofs only [go_sem, e1]
        rw [hwj]
        refine ⟨(j + 1, gn, out), ⟨hjl, hr, hso, by simp only; omega⟩, by simp only; omega, zad ?_⟩
        simp -implicitDefEqProofs only [go_sem]
      ·rw [List.drop_of_length_le (by omega)] at hr
       have hr : (out, true) = R := hr
       subst hr
       simp -implicitDefEqProofs only [go_sem, hjl]
end Go.Proofs.Yteeaofpphmhjdaa
namespace Go.Proofs.Yteeaofpphmhjdaa
set_option linter.unusedSimpArgs false
set_option linter.unusedVariables false
set_option linter.unusedSectionVars false
set_option maxRecDepth 4000
open Go.RowKit
def rsO (a b : List Int) (v : Int) : List Int × Bool := if (pcl a && pcl b && inB v 1 12) = true then ze4 a b v else ([], false)
theorem zhw {a b : List Int} {v : Int} (h : (pcl a && pcl b && inB v 1 12 && a.contains v && b.contains (-v)) = false) : rsO a b v = ([], false) := by
 unfold rsO ze4
 split
 next h1 =>
  rw [h1, Bool.true_and] at h
  rw [if_neg (by rw [h]; simp)]
 next => rfl
set_option maxHeartbeats 2000000 in
theorem zjs (a b : List Int) (v : Int) (hl : a.length + b.length <= 1073741824) : FC Try.prog 82 [.one (za8 a), .one (za8 b), iD v] [.one (za8 (rsO a b v).1), bD (rsO a b v).2] := by
 have H1 := zb9 a
 have H2 := zb9 b
 have H3 := zer v
 have H4 := zb2 a v
 have H5 := zb2 b (-v)
 cases h1 : pcl a
 ·rw [zhw (by rw [h1]; rfl)]
  rw [h1] at H1
  refine zav Try.call82 Try.func82 rfl (by kernel_rfl) (zbi (by kernel_rfl)) ?_
  simp -implicitDefEqProofs only [go_sem, Try.results82]
  refine callF (H1) (by simp -implicitDefEqProofs only [go_sem]) ?_
  simp -implicitDefEqProofs only [go_sem]
 ·rw [h1] at H1
  cases h2 : pcl b
  ·rw [zhw (by rw [h1, h2]; rfl)]
   rw [h2] at H2
   refine zav Try.call82 Try.func82 rfl (by kernel_rfl) (zbi (by kernel_rfl)) ?_
   simp -implicitDefEqProofs only [go_sem, Try.results82]
   refine callF (H1) (by simp -implicitDefEqProofs only [go_sem]) ?_
   simp -implicitDefEqProofs only [go_sem]
   refine callF (H2) (by simp -implicitDefEqProofs only [go_sem]) ?_
   simp -implicitDefEqProofs only [go_sem]
  ·rw [h2] at H2
   cases h3 : inB v 1 12
   ·rw [zhw (by rw [h1, h2, h3]; rfl)]
    rw [h3] at H3
    refine zav Try.call82 Try.func82 rfl (by kernel_rfl) (zbi (by kernel_rfl)) ?_
    simp -implicitDefEqProofs only [go_sem, Try.results82]
    refine callF (H1) (by simp -implicitDefEqProofs only [go_sem]) ?_
    simp -implicitDefEqProofs only [go_sem]
    refine callF (H2) (by simp -implicitDefEqProofs only [go_sem]) ?_
    simp -implicitDefEqProofs only [go_sem]
    refine callF (H3) (by simp -implicitDefEqProofs only [go_sem]) ?_
    simp -implicitDefEqProofs only [go_sem]
   ·rw [h3] at H3
    have hv : 1 <= v /\ v <= 12 := by unfold inB at h3; simpa using h3
    have hwn : IntKind.i64.wrap (0 - v) = -v := by rw [zas (by omega) (by omega)]; omega
    cases h4 : a.contains v
    ·rw [zhw (by rw [h1, h2, h3, h4]; rfl)]
     rw [h4] at H4
     refine zav Try.call82 Try.func82 rfl (by kernel_rfl) (zbi (by kernel_rfl)) ?_
     simp -implicitDefEqProofs only [go_sem, Try.results82]
     refine callF (H1) (by simp -implicitDefEqProofs only [go_sem]) ?_
     simp -implicitDefEqProofs only [go_sem]
     refine callF (H2) (by simp -implicitDefEqProofs only [go_sem]) ?_
     simp -implicitDefEqProofs only [go_sem]
     refine callF (H3) (by simp -implicitDefEqProofs only [go_sem]) ?_
     simp -implicitDefEqProofs only [go_sem]
     refine callF (H4) (by simp -implicitDefEqProofs only [go_sem]) ?_
     simp -implicitDefEqProofs only [go_sem]
    ·rw [h4] at H4
     cases h5 : b.contains (-v)
     ·rw [zhw (by rw [h1, h2, h3, h4, h5]; rfl)]
      rw [h5] at H5
      refine zav Try.call82 Try.func82 rfl (by kernel_rfl) (zbi (by kernel_rfl)) ?_
      simp -implicitDefEqProofs only [go_sem, Try.results82]
      refine callF (H1) (by simp -implicitDefEqProofs only [go_sem]) ?_
      simp -implicitDefEqProofs only [go_sem]
      refine callF (H2) (by simp -implicitDefEqProofs only [go_sem]) ?_
      simp -implicitDefEqProofs only [go_sem]
      refine callF (H3) (by simp -implicitDefEqProofs only [go_sem]) ?_
      simp -implicitDefEqProofs only [go_sem]
      refine callF (H4) (by simp -implicitDefEqProofs only [go_sem]) ?_
      simp -implicitDefEqProofs only [go_sem]
      rw [hwn]
      refine callF (H5) (by simp -implicitDefEqProofs only [go_sem]) ?_
      simp -implicitDefEqProofs only [go_sem]
     ·rw [h5] at H5
      have hO : rsO a b v = ze4 a b v := by unfold rsO; rw [h1, h2, h3]; rfl
      rw [hO]
      have hres := zrs h1 h2 hv.1 (List.contains_iff_mem.1 h4) (List.contains_iff_mem.1 h5)
      have hpc := zlu h1 h2 v
      have hC := zjj a b (by have := zd6 h1; have := zd6 h2; omega)
      have hla := zd6 h1
      have hlb := zd6 h2
      have hsm : Sm (a ++ b) := fun l hl => by
       rcases List.mem_append.1 hl with hl | hl
       ·exact zil h1 l hl
       ·exact zil h2 l hl
      have hlen : (a ++ b).length <= 24 := by simp; omega
      obtain ⟨R, hR⟩ : ∃ R, zq2 v [] (a ++ b) = R := ⟨_, rfl⟩
      rw [hR] at hres
      generalize a ++ b = C at hC hsm hlen hR
      refine zav Try.call82 Try.func82 rfl (by kernel_rfl) (zbi (by kernel_rfl)) ?_
      simp -implicitDefEqProofs only [go_sem, Try.results82]
      refine callF (H1) (by simp -implicitDefEqProofs only [go_sem]) ?_
      simp -implicitDefEqProofs only [go_sem]
      refine callF (H2) (by simp -implicitDefEqProofs only [go_sem]) ?_
      simp -implicitDefEqProofs only [go_sem]
      refine callF (H3) (by simp -implicitDefEqProofs only [go_sem]) ?_
      simp -implicitDefEqProofs only [go_sem]
      refine callF (H4) (by simp -implicitDefEqProofs only [go_sem]) ?_
      simp -implicitDefEqProofs only [go_sem]
      rw [hwn]
      refine callF (H5) (by simp -implicitDefEqProofs only [go_sem]) ?_
      simp -implicitDefEqProofs only [go_sem]
      refine zbv (by simp -implicitDefEqProofs only [go_sem]) ?_
      simp -implicitDefEqProofs only [go_sem]
      refine zwa (by simp -implicitDefEqProofs only [go_sem]) ?_
      simp -implicitDefEqProofs only [go_sem]
      refine callF (hC) (by simp -implicitDefEqProofs only [go_sem]) ?_
      simp -implicitDefEqProofs only [go_sem]
      refine zaj (fun x : Nat × List Int => hd [(2, vI v), (8, .one (.ow 1184 x.2.length)), (41, .one (.ow 1312 0)), (42, vI C.length), (43, vI x.1)] [] [(1184, ⟨true, 1, x.2.map fun s => [.int .i64 s], x.2.length, true⟩), (1312, ⟨true, 1, C.map fun s => [.int .i64 s], 0, true⟩)]) (fun x => x.1 <= C.length /\ zq2 v x.2 (C.drop x.1) = R /\ x.2.length <= x.1) (fun x => C.length - x.1) (0, []) (zad ?_) ?_ ?_
      ·simp -implicitDefEqProofs only [go_sem]
      ·exact ⟨Nat.zero_le _, hR, Nat.le_refl _⟩
      ·rintro ⟨j, out⟩ ⟨hj, hr, hlo⟩
       simp only at hj hr hlo
       by_cases hjl : j < C.length
       ·rw [List.drop_eq_getElem_cons hjl, zq2] at hr
        have hcj := hsm _ (List.getElem_mem hjl)
        have HA := zb2 out C[j]
        have HB := zb2 out (-C[j])
        have hwb : IntKind.i64.wrap (0 - C[j]) = -C[j] := by rw [zas (by omega) (by omega)]; omega
        have hwj : IntKind.i64.wrap ((j : Int) + 1) = ((j + 1 : Nat) : Int) := zaw (by omega)
        have hol : out.length <= 4294967295 := by omega
        cases e1 : C[j] == v
        ·cases e2 : C[j] == -v
         ·rw [e1, e2, Bool.false_or, Bool.false_or] at hr
          cases e3 : out.contains C[j]
          ·rw [e3, if_neg (by simp)] at hr
           rw [e3] at HA
           cases e4 : out.contains (-C[j])
           ·rw [e4, if_neg (by simp)] at hr
            rw [e4] at HB
            simp -implicitDefEqProofs only [go_sem, hjl, zaf, e1]
            rw [hwn]
            simp -implicitDefEqProofs only [go_sem, e2]
            refine callF (HA) (by simp -implicitDefEqProofs only [go_sem]) ?_
            simp -implicitDefEqProofs only [go_sem]
            rw [hwb]
            refine callF (HB) (by simp -implicitDefEqProofs only [go_sem]) ?_
            simp -implicitDefEqProofs only [go_sem]
            refine zbv (by simp -implicitDefEqProofs only [go_sem]) ?_
            simp -implicitDefEqProofs only [go_sem]
            refine apD true (by simp -implicitDefEqProofs only [go_sem, ne_eq, List.length_map, hol]) ?_
            simp -implicitDefEqProofs only [go_sem, ne_eq, List.length_map, hol]
            rw [hwj]
            refine ⟨(j + 1, out ++ [C[j]]), ⟨hjl, hr, by simp; omega⟩, by simp only; omega, zad ?_⟩
            simp -implicitDefEqProofs only [go_sem]
            rw [List.map_append]
            rfl
           ·rw [e4, if_pos rfl] at hr
            rw [e4] at HB
            subst hr
            have hres : ze4 a b v = ([], false) := hres
            rw [hres]
            simp -implicitDefEqProofs only [go_sem, hjl, zaf, e1]
            rw [hwn]
            simp -implicitDefEqProofs only [go_sem, e2]
            refine callF (HA) (by simp -implicitDefEqProofs only [go_sem]) ?_
            simp -implicitDefEqProofs only [go_sem]
            rw [hwb]
            refine callF (HB) (by simp -implicitDefEqProofs only [go_sem]) ?_
            simp -implicitDefEqProofs only [go_sem]
          ·rw [e3, if_pos rfl] at hr
           rw [e3] at HA
           simp -implicitDefEqProofs only [go_sem, hjl, zaf, e1]
           rw [hwn]
           simp -implicitDefEqProofs only [go_sem, e2]
           refine callF (HA) (by simp -implicitDefEqProofs only [go_sem]) ?_
           simp -implicitDefEqProofs only [go_sem]
           rw [hwj]
           refine ⟨(j + 1, out), ⟨hjl, hr, by simp only; omega⟩, by simp only; omega, zad ?_⟩
           simp -implicitDefEqProofs only [go_sem]
         ·rw [e1, e2, Bool.false_or, Bool.true_or, if_pos rfl] at hr
          simp -implicitDefEqProofs only [go_sem, hjl, zaf, e1]
          rw [hwn]
          simp -implicitDefEqProofs only [go_sem, e2]
          rw [hwj]
          refine ⟨(j + 1, out), ⟨hjl, hr, by simp only; omega⟩, by simp only; omega, zad ?_⟩
          simp -implicitDefEqProofs only [go_sem]
        ·rw [e1, Bool.true_or, Bool.true_or, if_pos rfl] at hr
         simp -implicitDefEqProofs only [go_sem, hjl, zaf, e1]
         rw [hwj]
         refine ⟨(j + 1, out), ⟨hjl, hr, by simp only; omega⟩, by simp only; omega, zad ?_⟩
         simp -implicitDefEqProofs only [go_sem]
       ·rw [List.drop_of_length_le (by omega)] at hr
        have hr : some out = R := hr
        subst hr
        obtain ⟨o, ho, hpo, hro⟩ := (show ∃ o, ze4 a b v = (o, true) /\ out.Perm o /\ Ris o from hres)
        rw [ho] at hpc ⊢
        have HS := zwr out o hpo hro (zil hpc) (by omega)
        simp -implicitDefEqProofs only [go_sem, hjl]
        refine callIs (HS) (by simp -implicitDefEqProofs only [go_sem]) (by simp -implicitDefEqProofs only [go_sem]) rfl ?_
        simp -implicitDefEqProofs only [go_sem]
end Go.Proofs.Yteeaofpphmhjdaa
namespace Go.Proofs.Yteeaofpphmhjdaa
set_option linter.unusedSimpArgs false
set_option linter.unusedVariables false
set_option linter.unusedSectionVars false
set_option maxRecDepth 4000
open Go.RowKit
def zf0 : Int -> Nat -> Int × Nat
 | o0, k => (((k : Nat) : Int), (k + 1))
def zcd : List Int -> Nat -> List Int × Nat
 | [], k => ([], k)
 | a :: xs, k => ((zf0 a k).1 :: (zcd xs (zf0 a k).2).1, (zcd xs (zf0 a k).2).2)
def zii : Int -> Nat
 | _ => 1 + 1
def zhi : List Int -> Nat
 | [] => 0
 | a :: xs => zii a + zhi xs
theorem zrq : ∀ (a : Int) (k : Nat), k <= (zf0 a k).2 /\ (zf0 a k).2 <= k + zii a
 | o0, k => by simp only [zf0, zii]; omega
theorem zee : ∀ (xs : List Int) (k : Nat), k <= (zcd xs k).2 /\ (zcd xs k).2 <= k + zhi xs
 | [], k => ⟨Nat.le_refl _, Nat.le_refl _⟩
 | a :: xs, k => by have h1 := zrq a k; have h2 := zee xs (zf0 a k).2; simp only [zcd, zhi]; omega
theorem zgt : ∀ xs : List Int, xs.length <= zhi xs
 | [] => Nat.le_refl _
 | a :: xs => by
  have := zgt xs
  have : 1 <= zii a := by simp only [zii]; omega
  simp only [List.length_cons, zhi]; omega
theorem zjf (xs : List Int) :
  ∀ k : Nat, 0 < k -> k + zhi xs <= 4611686018427387904 -> IC Try.prog 40 [] (.one (za8 xs)) [iD k] (.one (za8 (zcd xs k).1)) [iD (zcd xs k).2] := by
 intro k h0 hk
 refine zpt Try.call40 Try.func40 rfl (by kernel_rfl) (by simp only [zc9, rd, List.map_cons, List.map_nil, List.nil_append, List.length_cons, List.length_nil, Try.ntmps40]; omega) (by simp only [Try.ntmps40]; omega) (fun vs => ?_)
 simp -implicitDefEqProofs only [go_sem, Try.results40, zso, zm4, zc9, PI]
 refine zaj (fun (x : List Int × List Int × Nat) => hd [(0, .one (.ow 0 0)), (1000000, .one (.ow 0 0)), (1, vI x.2.2), (5, vI x.1.length)] [] [(0, ⟨true, 1, x.1.map (fun s => [T.int .i64 s]) ++ zdd vs x.1.length (x.2.1.map (fun s => [T.int .i64 s])), 0, true⟩)])
  (fun x => (zcd xs k).1 = x.1 ++ (zcd x.2.1 x.2.2).1 /\ (zcd xs k).2 = (zcd x.2.1 x.2.2).2 /\ 0 < x.2.2 /\ x.2.2 + zhi x.2.1 <= 4611686018427387904 /\ x.1.length + x.2.1.length = xs.length /\ ∀ a ∈ x.2.1, a ∈ xs) (fun x => x.2.1.length) ([], xs, k) (zad ?_) ?_ ?_
 ·simp -implicitDefEqProofs only [go_sem]
 ·exact ⟨rfl, rfl, h0, hk, by simp, fun _ h => h⟩
 ·intro ⟨dn, rest, kk⟩ ⟨h1, h2, h3, h4, h6, h5⟩
  simp only at h1 h2 h3 h4 h5 h6
  cases rest with
  | nil =>
   simp only [zcd, List.append_nil] at h1 h2
   simp -implicitDefEqProofs only [go_sem, h1, h2]
  | cons o0 rest =>
   simp only [zcd, zf0, zhi, zii] at h1 h2 h4
   have w0 : IntKind.i64.wrap (((kk : Nat) : Int) + 1) = ((kk + 1 : Nat) : Int) := zaw (by omega)
   have hln := zgt xs
   rw [List.length_cons] at h6
   have wl : IntKind.i64.wrap ((dn.length : Int) + 1) = ((dn.length + 1 : Nat) : Int) := zaw (by omega)
   simp -implicitDefEqProofs only [go_sem, List.map_cons]
   refine zcw (by simp -implicitDefEqProofs only [go_sem, implies_true, w0]) ?_
   simp -implicitDefEqProofs only [go_sem, implies_true, w0]
   refine ⟨(dn ++ [((kk : Nat) : Int)], rest, (kk + 1)), ⟨by simpa using h1, h2, by show 0 < (kk + 1); omega, by show (kk + 1) + zhi rest <= _; omega, by simp; omega, fun b hb => h5 b (by simp [hb])⟩, by simp, zad ?_⟩
   simp -implicitDefEqProofs only [go_sem, wl, List.map_cons, List.map_append, List.append_assoc]
theorem zd2 (xs : List Int) (k : Nat) (h0 : 0 < k) (hk : k + zhi xs <= 4611686018427387904) : IC Try.prog 40 [] (.one (za8 xs)) [iD k] (.one (za8 (zcd xs k).1)) [iD (zcd xs k).2] := zjf xs k h0 hk
theorem zjo (xs : List Int) :
  ∀ k : Nat, 0 < k -> k + zhi xs <= 4611686018427387904 -> FC Try.prog 41 [.one (za8 (zcd xs k).1), iD k] [iD (zcd xs k).2] := by
 intro k h0 hk
 refine zav Try.call41 Try.func41 rfl (by kernel_rfl) (zbi (by kernel_rfl)) ?_
 simp -implicitDefEqProofs only [go_sem, Try.results41]
 refine zaj (fun (x : List Int × List Int × Nat) => hd [(0, vT (.sl 1 (x.1.map (fun s => [T.int .i64 s]) ++ (zcd x.2.1 x.2.2).1.map (fun s => [T.int .i64 s])))), (1, vI x.2.2), (5, vI x.1.length)] [] [])
  (fun x => (zcd xs k).1 = x.1 ++ (zcd x.2.1 x.2.2).1 /\ (zcd xs k).2 = (zcd x.2.1 x.2.2).2 /\ 0 < x.2.2 /\ x.2.2 + zhi x.2.1 <= 4611686018427387904 /\ x.1.length + x.2.1.length = xs.length /\ ∀ a ∈ x.2.1, a ∈ xs) (fun x => x.2.1.length) ([], xs, k) (zad ?_) ?_ ?_
 ·simp -implicitDefEqProofs only [go_sem]
 ·exact ⟨rfl, rfl, h0, hk, by simp, fun _ h => h⟩
 ·intro ⟨dn, rest, kk⟩ ⟨h1, h2, h3, h4, h6, h5⟩
  simp only at h1 h2 h3 h4 h5 h6
  cases rest with
  | nil =>
   simp only [zcd, List.append_nil] at h1 h2
   simp -implicitDefEqProofs only [go_sem, h2, zcd]
  | cons o0 rest =>
   simp only [zcd, zf0, zhi, zii] at h1 h2 h4
   have w0 : IntKind.i64.wrap (((kk : Nat) : Int) + 1) = ((kk + 1 : Nat) : Int) := zaw (by omega)
   have hln := zgt xs
   rw [List.length_cons] at h6
   have wl : IntKind.i64.wrap ((dn.length : Int) + 1) = ((dn.length + 1 : Nat) : Int) := zaw (by omega)
   simp -implicitDefEqProofs only [go_sem, zcd, zf0, List.map_cons]
   simp only [bne_self_eq_false]
   simp -implicitDefEqProofs only [go_sem, w0]
   refine ⟨(dn ++ [((kk : Nat) : Int)], rest, (kk + 1)), ⟨by simpa using h1, h2, by show 0 < (kk + 1); omega, by show (kk + 1) + zhi rest <= _; omega, by simp; omega, fun b hb => h5 b (by simp [hb])⟩, by simp, zad ?_⟩
   simp -implicitDefEqProofs only [go_sem, wl, List.map_cons, List.map_append, List.append_assoc]
theorem zm1 (xs : List Int) (k : Nat) (h0 : 0 < k) (hk : k + zhi xs <= 4611686018427387904) : FC Try.prog 41 [.one (za8 (zcd xs k).1), iD k] [iD (zcd xs k).2] := zjo xs k h0 hk
theorem zgp (xs ys : List Int) : FC Try.prog 35 [.one (za8 xs), .one (za8 ys)] [bD (same xs ys)] := by
 refine zdh (fun hw => ?_) Try.call35
 have hl : xs.length <= 9223372036854775807 := by simpa [zlh, wfT] using hw.1.1
 have hl2 : ys.length <= 9223372036854775807 := by simpa [zlh, wfT] using hw.2.1.1
 refine zav Try.call35 Try.func35 rfl (by kernel_rfl) (zbi (by kernel_rfl)) ?_
 simp -implicitDefEqProofs only [go_sem, Try.results35]
 refine ⟨fun h => ?_, fun h => ?_⟩
 ·rw [zby.2 (by rintro rfl; simp at h)]
 ·have hlen : xs.length = ys.length := by simp at h; omega
  refine zaj (fun k : Nat => hd [(0, vT (za8 xs)), (1, vT (za8 ys)), (4, vB false), (5, vI k)] [] []) (fun k => k <= xs.length /\ same xs ys = same (xs.drop k) (ys.drop k)) (fun k => xs.length - k) 0 (zad ?_) ?_ ?_
  ·simp -implicitDefEqProofs only [go_sem]
  ·simp
  ·intro k ⟨hk, hr⟩
   by_cases hlt : k < xs.length
   ·have hk2 : k < ys.length := by omega
    simp -implicitDefEqProofs only [go_sem, List.length_map, hlt]
    refine drawn (by kernel_rfl) ?_
    simp -implicitDefEqProofs only [go_sem, List.length_map, zaf, hlt, hk2]
    refine ⟨by kernel_rfl, fun h => ?_, fun h => ?_⟩
    ·rw [hr, List.drop_eq_getElem_cons hlt, List.drop_eq_getElem_cons hk2, zce, show same xs[k] ys[k] = false from zby.2 (by simpa using h)]; rfl
    ·rw [List.drop_eq_getElem_cons hlt, List.drop_eq_getElem_cons hk2, zce, show same xs[k] ys[k] = true from zbx.2 (by simpa using h), Bool.true_and] at hr
     rw [zaw (by omega)]
     exact ⟨k + 1, ⟨by omega, hr⟩, by omega, zad (by simp -implicitDefEqProofs only [go_sem])⟩
   ·simp -implicitDefEqProofs only [go_sem, List.length_map, hlt]
    rw [hr, List.drop_of_length_le (by omega), List.drop_of_length_le (by omega), ztl]
theorem zhh : ∀ xs : List Int, zhi xs = 2 * xs.length
 | [] => rfl
 | a :: xs => by rw [zhi, zhh xs, zii, List.length_cons]; omega
end Go.Proofs.Yteeaofpphmhjdaa
namespace Go.Proofs.Yteeaofpphmhjdaa
set_option linter.unusedSimpArgs false
set_option linter.unusedVariables false
set_option linter.unusedSectionVars false
set_option maxRecDepth 4000
open Go.RowKit
def Ps.wt (s : Ps) : Nat := s.c.length
def zbz (xs : List (List Int)) : Nat := xs.length + (xs.map List.length).sum
def za2 (xs : List Ps) : Nat := xs.length + (xs.map Ps.wt).sum
theorem zk5 (xs : List Int) (l : Int) (h0 : 0 <= l) (h1 : l <= 1048576) : FC Try.prog 86 [.one (za8 xs), iD l] [iD (szR xs.length l)] := by
 refine zdh (fun hw => ?_) Try.call86
 have hl : xs.length <= 9223372036854775807 := by have := hw.1.1; simpa using this
 refine zav Try.call86 Try.func86 rfl (by kernel_rfl) (zbi (by kernel_rfl)) ?_
 simp -implicitDefEqProofs only [go_sem, Try.results86]
 rw [zas (by omega) (by omega)]
 refine ⟨fun h => ?_, fun h => ?_⟩
 ·rw [zea (by simp at h; omega)]
 ·rw [zn3 (by simp at h; omega)]
theorem zi1 (a : Ps) (l : Int) (h0 : 0 <= l) (h1 : l <= 1048576) : FC Try.prog 87 [psD a, iD l] [iD (szR a.wt l)] := by
 have H := zk5 a.c l h0 h1
 unfold Ps.wt
 simp only [psD, zay]
 refine zav Try.call87 Try.func87 rfl (by kernel_rfl) (zbi (by kernel_rfl)) ?_
 simp -implicitDefEqProofs only [go_sem, Try.results87]
 refine callF (H) (by simp -implicitDefEqProofs only [go_sem]) ?_
 simp -implicitDefEqProofs only [go_sem]
 refine ⟨fun h => ?_, fun h => ?_⟩
 ·have := zj6 h0 (by simpa using h)
  rw [zea (by omega)]
 ·trivial
theorem zkl (xs : List Int) (hs : xs.length <= 1048576) : FC Try.prog 91 [.one (za8 xs)] [.one (za8 xs)] := by
 refine zav Try.call91 Try.func91 rfl (by kernel_rfl) (zbi (by kernel_rfl)) ?_
 simp -implicitDefEqProofs only [go_sem, Try.results91]
 refine zqc (by simp -implicitDefEqProofs only [go_sem]; omega) ?_
 simp -implicitDefEqProofs only [go_sem]
 refine zaj (fun k : Nat => hd [(0, vT (za8 xs)), (3, .one (.ow 224 0)), (4, vI k)] [] [(224, ⟨true, 1, (xs.take k).map (fun s => [.int .i64 s]) ++ List.replicate (xs.length - k) [T.int .i64 0], 0, true⟩)]) (fun k => k <= xs.length) (fun k => xs.length - k) 0 (zad ?_) (Nat.zero_le _) ?_
 ·simp -implicitDefEqProofs only [go_sem]
  simp
 ·intro k hk
  by_cases hlt : k < xs.length
  ·have hlen : ((xs.take k).map (fun s => [T.int .i64 s]) ++ List.replicate (xs.length - k) [T.int .i64 0]).length = xs.length := by simp; omega
   have hlt2 : k < k + (xs.length - k) := by omega
   simp -implicitDefEqProofs only [go_sem, List.length_map, zaf, hlt, hlen, List.length_append, List.length_take, List.length_replicate, Nat.min_eq_left hk, hlt2]
   refine zcw (by simp -implicitDefEqProofs only [go_sem]; simp) ?_
   simp -implicitDefEqProofs only [go_sem]
   rw [zaw (by omega)]
   refine ⟨k + 1, by omega, by omega, zad ?_⟩
   simp -implicitDefEqProofs only [go_sem]
   have hf := zfv ((xs.take k).map fun s => [T.int .i64 s]) xs.length k [T.int .i64 0] [T.int .i64 xs[k]] (by simp; omega) hlt (by simp)
   rw [hf, List.take_succ_eq_append_getElem hlt, List.map_append, List.map_singleton]
  ·simp -implicitDefEqProofs only [go_sem, List.length_map, hlt]
   simp [List.take_of_length_le (show xs.length <= k by omega), show xs.length - k = 0 by omega]
theorem zhv (a : Ps) (hs : a.wt <= 1048576) : FC Try.prog 92 [psD a] [psD a] := by
 have H := zkl a.c hs
 simp only [psD, zay]
 refine zav Try.call92 Try.func92 rfl (by kernel_rfl) (zbi (by kernel_rfl)) ?_
 simp -implicitDefEqProofs only [go_sem, Try.results92]
 refine callF (H) (by simp -implicitDefEqProofs only [go_sem]) ?_
 simp -implicitDefEqProofs only [go_sem]
theorem zik (a b : Ps) : FC Try.prog 93 [psD a, psD b] [bD (same a b)] := by
 have H := zgp a.c b.c
 simp only [psD, zay]
 obtain ⟨l1, r1, p1, c1⟩ := a
 obtain ⟨l2, r2, p2, c2⟩ := b
 simp only at H ⊢
 refine zav Try.call93 Try.func93 rfl (by kernel_rfl) (zbi (by kernel_rfl)) ?_
 simp -implicitDefEqProofs only [go_sem, Try.results93]
 refine ⟨fun h1 => ?_, fun h1 => ⟨fun h2 => ?_, fun h2 => ⟨fun h3 => ?_, fun h3 => ?_⟩⟩⟩
 ·rw [zby.2 (by rintro e; cases e; simp at h1)]
 ·rw [zby.2 (by rintro e; cases e; simp at h2)]
 ·rw [zby.2 (by rintro e; cases e; simp at h3)]
 ·refine callF (H) (by simp -implicitDefEqProofs only [go_sem]) ?_
  simp -implicitDefEqProofs only [go_sem]
  refine ⟨fun h4 => ?_, fun h4 => ?_⟩
  ·rw [zby.2 (by rintro e; cases e; simp [zax] at h4)]
  ·rw [zbx.2 (by simp [zbx] at h1 h2 h3 h4 ⊢; exact ⟨h1, h2, h3, h4⟩)]
theorem zoz (xs : List (List Int)) (l : Int) (h0 : 0 <= l) (h1 : l <= 1048576) : FC Try.prog 30 [.one (za9 xs), iD l] [iD (szR (zbz xs) l)] := by
 refine zdh (fun hw => ?_) Try.call30
 have hl : xs.length <= 9223372036854775807 := by simpa [zlh, wfT] using hw.1.1
 refine zav Try.call30 Try.func30 rfl (by kernel_rfl) (zbi (by kernel_rfl)) ?_
 simp -implicitDefEqProofs only [go_sem, Try.results30]
 rw [zas (by omega) (by omega)]
 have hW : zbz xs = xs.length + (xs.map List.length).sum := rfl
 refine ⟨fun h => ?_, fun h => ?_⟩
 ·rw [zea (by simp at h; omega)]
 ·have hlen : (xs.length : Int) <= l := by simp at h; omega
  refine zaj (fun k : Nat => hd [(0, vT (za9 xs)), (1, vI (l - xs.length - zka List.length xs k)), (5, vI k)] [] []) (fun k => k <= xs.length /\ 0 <= l - xs.length - zka List.length xs k) (fun k => xs.length - k) 0 (zad ?_) ?_ ?_
  ·simp -implicitDefEqProofs only [go_sem]
   simp [zdx]
  ·simpa [zdx] using hlen
  ·intro k ⟨hk, hp⟩
   by_cases hlt : k < xs.length
   ·have hs := zja List.length xs k hlt
    have hs2 := zqi List.length xs (k + 1)
    simp -implicitDefEqProofs only [go_sem, List.length_map, zaf, hlt]
    refine callF (zk5 xs[k] (l - xs.length - zka List.length xs k) hp (by omega)) (by simp -implicitDefEqProofs only [go_sem]) ?_
    simp -implicitDefEqProofs only [go_sem]
    refine ⟨fun h => ?_, fun h => ?_⟩
    ·have := zj6 hp (by simpa using h)
     rw [zea (by omega)]
    ·obtain ⟨h2, h3⟩ := zgy (by simpa using h)
     rw [zaw (by omega)]
     exact ⟨k + 1, ⟨hlt, by omega⟩, by omega, zad (by simp -implicitDefEqProofs only [go_sem]; rw [h3]; congr 1; omega)⟩
   ·simp -implicitDefEqProofs only [go_sem, List.length_map, hlt]
    have hall := zlk List.length xs k (by omega)
    rw [hall, zn3 (by omega)]; congr 1; omega
set_option maxHeartbeats 400000 in
theorem zrb (xs : List (List Int)) (hs : zbz xs <= 1048576) : FC Try.prog 33 [.one (za9 xs)] [.one (za9 xs)] := by
 have hW : zbz xs = xs.length + (xs.map List.length).sum := rfl
 refine zav Try.call33 Try.func33 rfl (by kernel_rfl) (zbi (by kernel_rfl)) ?_
 simp -implicitDefEqProofs only [go_sem, Try.results33]
 refine zqc (by simp -implicitDefEqProofs only [go_sem]; omega) ?_
 simp -implicitDefEqProofs only [go_sem]
 refine zaj (fun k : Nat => hd [(0, vT (za9 xs)), (3, .one (.ow 224 0)), (4, vI k)] [] [(224, ⟨true, 1, (xs.take k).map (fun s => [za8 s]) ++ List.replicate (xs.length - k) [T.sl 1 []], 0, true⟩)]) (fun k => k <= xs.length) (fun k => xs.length - k) 0 (zad ?_) (Nat.zero_le _) ?_
 ·simp -implicitDefEqProofs only [go_sem]
  simp
 ·intro k hk
  by_cases hlt : k < xs.length
  ·have hlen : ((xs.take k).map (fun s => [za8 s]) ++ List.replicate (xs.length - k) [T.sl 1 []]).length = xs.length := by simp; omega
   have hlt2 : k < k + (xs.length - k) := by omega
   have hmw := zqj List.length xs xs[k] (List.getElem_mem hlt)
   simp -implicitDefEqProofs only [go_sem, List.length_map, zaf, hlt]
   refine callF (zkl xs[k] (by omega)) (by simp -implicitDefEqProofs only [go_sem, hlen, hlt, List.length_append, List.length_map, List.length_take, List.length_replicate, Nat.min_eq_left hk, hlt2]) ?_
   simp -implicitDefEqProofs only [go_sem, hlen, hlt, List.length_append, List.length_map, List.length_take, List.length_replicate, Nat.min_eq_left hk, hlt2]
   refine zcw (by simp -implicitDefEqProofs only [go_sem]; simp) ?_
   simp -implicitDefEqProofs only [go_sem]
   rw [zaw (by omega)]
   refine ⟨k + 1, by omega, by omega, zad ?_⟩
   simp -implicitDefEqProofs only [go_sem]
   have hf := zfv ((xs.take k).map (fun s => [za8 s])) xs.length k [T.sl 1 []] [za8 xs[k]] (by simp; omega) hlt (by simp)
   rw [hf, List.take_succ_eq_append_getElem hlt, List.map_append, List.map_singleton]
  ·simp -implicitDefEqProofs only [go_sem, List.length_map, hlt]
   simp [List.take_of_length_le (show xs.length <= k by omega), show xs.length - k = 0 by omega]
theorem zgz (xs : List Ps) (l : Int) (h0 : 0 <= l) (h1 : l <= 1048576) : FC Try.prog 31 [.one (psS xs), iD l] [iD (szR (za2 xs) l)] := by
 refine zdh (fun hw => ?_) Try.call31
 have hl : xs.length <= 9223372036854775807 := by simpa [zlh, wfT] using hw.1.1
 refine zav Try.call31 Try.func31 rfl (by kernel_rfl) (zbi (by kernel_rfl)) ?_
 simp -implicitDefEqProofs only [go_sem, Try.results31]
 rw [zas (by omega) (by omega)]
 have hW : za2 xs = xs.length + (xs.map Ps.wt).sum := rfl
 refine ⟨fun h => ?_, fun h => ?_⟩
 ·rw [zea (by simp at h; omega)]
 ·have hlen : (xs.length : Int) <= l := by simp at h; omega
  refine zaj (fun k : Nat => hd [(0, vT (psS xs)), (1, vI (l - xs.length - zka Ps.wt xs k)), (5, vI k)] [] []) (fun k => k <= xs.length /\ 0 <= l - xs.length - zka Ps.wt xs k) (fun k => xs.length - k) 0 (zad ?_) ?_ ?_
  ·simp -implicitDefEqProofs only [go_sem]
   simp [zdx]
  ·simpa [zdx] using hlen
  ·intro k ⟨hk, hp⟩
   by_cases hlt : k < xs.length
   ·have hs := zja Ps.wt xs k hlt
    have hs2 := zqi Ps.wt xs (k + 1)
    simp -implicitDefEqProofs only [go_sem, List.length_map, zaf, hlt, zay]
    refine callF (zi1 xs[k] (l - xs.length - zka Ps.wt xs k) hp (by omega)) (by simp -implicitDefEqProofs only [go_sem, zay]) ?_
    simp -implicitDefEqProofs only [go_sem, zay]
    refine ⟨fun h => ?_, fun h => ?_⟩
    ·have := zj6 hp (by simpa using h)
     rw [zea (by omega)]
    ·obtain ⟨h2, h3⟩ := zgy (by simpa using h)
     rw [zaw (by omega)]
     exact ⟨k + 1, ⟨hlt, by omega⟩, by omega, zad (by simp -implicitDefEqProofs only [go_sem]; rw [h3]; congr 1; omega)⟩
   ·simp -implicitDefEqProofs only [go_sem, List.length_map, hlt]
    have hall := zlk Ps.wt xs k (by omega)
    rw [hall, zn3 (by omega)]; congr 1; omega
set_option maxHeartbeats 400000 in
theorem zhd (xs : List Ps) (hs : za2 xs <= 1048576) : FC Try.prog 34 [.one (psS xs)] [.one (psS xs)] := by
 have hW : za2 xs = xs.length + (xs.map Ps.wt).sum := rfl
 refine zav Try.call34 Try.func34 rfl (by kernel_rfl) (zbi (by kernel_rfl)) ?_
 simp -implicitDefEqProofs only [go_sem, Try.results34]
 refine zqc (by simp -implicitDefEqProofs only [go_sem]; omega) ?_
 simp -implicitDefEqProofs only [go_sem]
 refine zaj (fun k : Nat => hd [(0, vT (psS xs)), (3, .one (.ow 224 0)), (4, vI k)] [] [(224, ⟨true, 4, (xs.take k).map psC ++ List.replicate (xs.length - k) [T.int .i64 0, T.int .i64 0, T.int .i64 0, T.sl 1 []], 0, true⟩)]) (fun k => k <= xs.length) (fun k => xs.length - k) 0 (zad ?_) (Nat.zero_le _) ?_
 ·simp -implicitDefEqProofs only [go_sem]
  simp
 ·intro k hk
  by_cases hlt : k < xs.length
  ·have hlen : ((xs.take k).map psC ++ List.replicate (xs.length - k) [T.int .i64 0, T.int .i64 0, T.int .i64 0, T.sl 1 []]).length = xs.length := by simp; omega
   have hlt2 : k < k + (xs.length - k) := by omega
   have hmw := zqj Ps.wt xs xs[k] (List.getElem_mem hlt)
   simp -implicitDefEqProofs only [go_sem, List.length_map, zaf, hlt, zay]
   refine callF (zhv xs[k] (by omega)) (by simp -implicitDefEqProofs only [go_sem, hlen, hlt, List.length_append, List.length_map, List.length_take, List.length_replicate, Nat.min_eq_left hk, hlt2, zay]) ?_
   simp -implicitDefEqProofs only [go_sem, hlen, hlt, List.length_append, List.length_map, List.length_take, List.length_replicate, Nat.min_eq_left hk, hlt2, zay]
   refine zcw (by simp -implicitDefEqProofs only [go_sem]; simp) ?_
   simp -implicitDefEqProofs only [go_sem]
   rw [zaw (by omega)]
   refine ⟨k + 1, by omega, by omega, zad ?_⟩
   simp -implicitDefEqProofs only [go_sem]
   have hf := zfv ((xs.take k).map psC) xs.length k [T.int .i64 0, T.int .i64 0, T.int .i64 0, T.sl 1 []] (psC xs[k]) (by simp; omega) hlt (by simp [zay])
   simp only [zay] at hf
   rw [hf, List.take_succ_eq_append_getElem hlt, List.map_append, List.map_singleton]
   rfl
  ·simp -implicitDefEqProofs only [go_sem, List.length_map, hlt]
   simp [List.take_of_length_le (show xs.length <= k by omega), show xs.length - k = 0 by omega]
theorem zqr (xs ys : List (List Int)) : FC Try.prog 36 [.one (za9 xs), .one (za9 ys)] [bD (same xs ys)] := by
 refine zdh (fun hw => ?_) Try.call36
 have hl : xs.length <= 9223372036854775807 := by simpa [zlh, wfT] using hw.1.1
 by_cases hne : xs.length = ys.length
 ·have hni : ((xs.length : Int) != (ys.length : Int)) = false := by rw [hne]; simp
  refine zav Try.call36 Try.func36 rfl (by kernel_rfl) (zbi (by kernel_rfl)) ?_
  simp -implicitDefEqProofs only [go_sem, Try.results36, hni]
  refine zaj (fun k : Nat => hd [(0, vT (za9 xs)), (1, vT (za9 ys)), (5, vI k)] [] []) (fun k => k <= xs.length /\ same xs ys = same (xs.drop k) (ys.drop k)) (fun k => xs.length - k) 0 (zad ?_) ?_ ?_
  ·simp -implicitDefEqProofs only [go_sem]
  ·simp
  ·intro k ⟨hk, hr⟩
   by_cases hlt : k < xs.length
   ·have hlt2 : k < ys.length := by omega
    have hwk : IntKind.i64.wrap ((k : Int) + 1) = ((k + 1 : Nat) : Int) := zaw (by omega)
    have HE := zgp xs[k] ys[k]
    rw [List.drop_eq_getElem_cons hlt, List.drop_eq_getElem_cons hlt2, zce] at hr
    simp -implicitDefEqProofs only [go_sem, hlt]
    refine drawn (by kernel_rfl) ?_
    simp -implicitDefEqProofs only [go_sem, zaf, hlt, hlt2]
    refine zdb (HE) (by simp -implicitDefEqProofs only [go_sem]) ?_
    simp -implicitDefEqProofs only [go_sem]
    refine ⟨by kernel_rfl, ?_⟩
    rw [hwk]
    refine ⟨fun h => ?_, fun h => ⟨k + 1, ⟨hlt, ?_⟩, by omega, zad (by simp -implicitDefEqProofs only [go_sem])⟩⟩
    ·rw [hr, show same xs[k] ys[k] = false by simpa using h, Bool.false_and]
    ·rw [hr, show same xs[k] ys[k] = true by simpa using h, Bool.true_and]
   ·simp -implicitDefEqProofs only [go_sem, hlt]
    rw [hr, List.drop_of_length_le (by omega), List.drop_of_length_le (by omega), zax]
 ·have hni : ((xs.length : Int) != (ys.length : Int)) = true := by simp; omega
  refine zav Try.call36 Try.func36 rfl (by kernel_rfl) (zbi (by kernel_rfl)) ?_
  simp -implicitDefEqProofs only [go_sem, Try.results36, hni]
  rw [zby.2 (fun e => hne (by rw [e]))]
theorem zgv (xs ys : List Ps) : FC Try.prog 37 [.one (psS xs), .one (psS ys)] [bD (same xs ys)] := by
 refine zdh (fun hw => ?_) Try.call37
 have hl : xs.length <= 9223372036854775807 := by simpa [zlh, wfT] using hw.1.1
 by_cases hne : xs.length = ys.length
 ·have hni : ((xs.length : Int) != (ys.length : Int)) = false := by rw [hne]; simp
  refine zav Try.call37 Try.func37 rfl (by kernel_rfl) (zbi (by kernel_rfl)) ?_
  simp -implicitDefEqProofs only [go_sem, Try.results37, hni]
  refine zaj (fun k : Nat => hd [(0, vT (psS xs)), (1, vT (psS ys)), (5, vI k)] [] []) (fun k => k <= xs.length /\ same xs ys = same (xs.drop k) (ys.drop k)) (fun k => xs.length - k) 0 (zad ?_) ?_ ?_
  ·simp -implicitDefEqProofs only [go_sem]
  ·simp
  ·intro k ⟨hk, hr⟩
   by_cases hlt : k < xs.length
   ·have hlt2 : k < ys.length := by omega
    have hwk : IntKind.i64.wrap ((k : Int) + 1) = ((k + 1 : Nat) : Int) := zaw (by omega)
    have HE := zik xs[k] ys[k]
    rw [List.drop_eq_getElem_cons hlt, List.drop_eq_getElem_cons hlt2, zce] at hr
    simp -implicitDefEqProofs only [go_sem, hlt]
    refine drawn (by kernel_rfl) ?_
    simp -implicitDefEqProofs only [go_sem, zaf, hlt, hlt2, zay]
    refine zdb (HE) (by simp -implicitDefEqProofs only [go_sem, zay]) ?_
    simp -implicitDefEqProofs only [go_sem, zay]
    refine ⟨by kernel_rfl, ?_⟩
    rw [hwk]
    refine ⟨fun h => ?_, fun h => ⟨k + 1, ⟨hlt, ?_⟩, by omega, zad (by simp -implicitDefEqProofs only [go_sem])⟩⟩
    ·rw [hr, show same xs[k] ys[k] = false by simpa using h, Bool.false_and]
    ·rw [hr, show same xs[k] ys[k] = true by simpa using h, Bool.true_and]
   ·simp -implicitDefEqProofs only [go_sem, hlt]
    rw [hr, List.drop_of_length_le (by omega), List.drop_of_length_le (by omega), zax]
 ·have hni : ((xs.length : Int) != (ys.length : Int)) = true := by simp; omega
  refine zav Try.call37 Try.func37 rfl (by kernel_rfl) (zbi (by kernel_rfl)) ?_
  simp -implicitDefEqProofs only [go_sem, Try.results37, hni]
  rw [zby.2 (fun e => hne (by rw [e]))]
end Go.Proofs.Yteeaofpphmhjdaa
namespace Go.Proofs.Yteeaofpphmhjdaa
set_option linter.unusedSimpArgs false
set_option linter.unusedVariables false
set_option linter.unusedSectionVars false
set_option maxRecDepth 4000
open Go.RowKit
section
variable {P : Program}
theorem ct0_A {n0 : Nat -> Prop} {N : Nat} {σ : St} {g : Gh} {a : Act} {w : World} (hR : Rel n0 N σ g a w) {c : C} {t : T} (h : CT0 σ c t) {v : Value} (hv : CR σ g w c v) : zag w (fun b => b < w.heap.size /\ g.A0 b) t v := by
 have hF : ∀ b, Fix σ g w b -> b < w.heap.size /\ g.A0 b := fun b hb => ⟨hb.2.2.1, hb.2.2.2⟩
 have hFr : ∀ b, zc7 σ g w b -> b < w.heap.size /\ g.A0 b := fun b hb => hF b hb.1
 cases c with
 | t x =>
  have h : x = t := h
  subst h
  exact zag.keep (fun _ _ => rfl) hF x v hv
 | rn x =>
  have h : x = t := h
  subst h
  exact zag.keep (fun _ _ => rfl) hFr x v hv
 | nl s =>
  cases t with
  | sl sz rows =>
   have h : rows = [] := h
   subst h
   have hv : v = .slice none 0 0 := hv
   subst hv
   unfold zag
   exact ⟨none, 0, rfl, Nat.le_refl _, by simp, Or.inl rfl⟩
  | _ => exact h.elim
 | ow e n =>
  cases t with
  | sl sz rows =>
   obtain ⟨d, o, he⟩ := h
   obtain ⟨rfl, -⟩ := hv
   cases o
   ·exact zag.keep (fun _ _ => rfl) hF _ _ (hR.offs e _ he rfl).1
   ·have hOn : σ.On e := ⟨_, he, rfl⟩
    have hlt : ∀ b ∈ g.φ e, b < w.heap.size := (hR.evs e _ he rfl).lt
    obtain ⟨ao, cap, e1, e2, e3, e4⟩ := hR.evs e _ he rfl
    unfold zag
    refine ⟨ao, cap, e1, e2, e3, ?_⟩
    rcases e4 with ⟨_, _, e4, _⟩ | ⟨b, cells, ty, fps, k1, k2, k3, k4, k5⟩
    ·exact Or.inl e4
    ·have hA : ∀ b' ∈ g.φ e, b' < w.heap.size /\ g.A0 b' := fun b' hb' => ⟨hlt b' hb', (hR.ebase e hOn b' hb').1⟩
     refine Or.inr ⟨b, 0, k1, hA b (by rw [k2]; simp), ?_⟩
     split at k5
     ·exact zac.rep b cells ty k3 0 sz rows fps k5 fun b' hb' => hA b' (by rw [k2]; simp [hb'])
     ·exact zah.keep (fun _ _ => rfl) hF b rfl 0 sz rows k5.2
  | _ => exact h.elim
 | el cs o =>
  cases t with
  | ptr cs' =>
   obtain ⟨rfl, rfl⟩ := h
   obtain ⟨b, q, h1, h2, h3⟩ := hv
   unfold zag
   exact ⟨b, q, h1, hF b h2, zar.keep (fun _ _ => rfl) hF b rfl q cs h3⟩
  | _ => exact h.elim
 | er cs o =>
  cases t with
  | ptr cs' =>
   obtain ⟨rfl, rfl⟩ := h
   obtain ⟨b, q, h1, h2, h3⟩ := hv
   unfold zag
   exact ⟨b, q, h1, hFr b h2, zar.keep (fun _ _ => rfl) hFr b rfl q cs h3⟩
  | _ => exact h.elim
 | _ => cases t <;> exact h.elim
theorem zul {n0 : Nat -> Prop} {N : Nat} {σ : St} {g : Gh} {a : Act} {w : World} (hR : Rel n0 N σ g a w) : ∀ {cs : List C} {ts : List T}, znf σ cs ts -> ∀ {vs : List Value}, CRs σ g w cs vs -> zaa w (fun b => b < w.heap.size /\ g.A0 b) ts vs
 | [], ts, h, vs, hv => by rw [show ts = [] from h]; unfold zaa; exact hv
 | c :: cs, ts, h, vs, hv => by
  obtain ⟨t, ts', rfl, h1, h2⟩ := h
  obtain ⟨v, vs', rfl, k1, k2⟩ := hv
  unfold zaa
  exact ⟨v, vs', rfl, ct0_A hR h1 k1, zul hR h2 k2⟩
def RVe (σ : St) : List V -> List D -> Prop
 | [], [] => True
 | .one c :: vs, .one t :: ds => CT0 σ c t /\ RVe σ vs ds
 | .agg cs :: vs, .agg ts :: ds => znf σ cs ts /\ RVe σ vs ds
 | _, _ => False
theorem RVe.rep {n0 : Nat -> Prop} {N : Nat} {σ : St} {g : Gh} {a : Act} {w : World} (hR : Rel n0 N σ g a w) : ∀ {vs : List V} {ds : List D}, RVe σ vs ds -> ∀ {us : List Value}, VRl σ g w vs us -> za0 w (fun b => b < w.heap.size /\ g.A0 b) ds us
 | [], [], _, us, hv => hv
 | .one c :: vs, .one t :: ds, h, us, hv => by
  obtain ⟨u, us', rfl, k1, k2⟩ := hv
  exact ⟨u, us', rfl, ct0_A hR h.1 k1, RVe.rep hR h.2 k2⟩
 | .agg cs :: vs, .agg ts :: ds, h, us, hv => by
  obtain ⟨u, us', rfl, ⟨q, rfl, k1⟩, k2⟩ := hv
  exact ⟨_, us', rfl, ⟨q, rfl, zul hR h.1 k1⟩, RVe.rep hR h.2 k2⟩
 | [], _ :: _, h, _, _ => h.elim
 | .one _ :: _, [], h, _, _ => h.elim
 | .one _ :: _, .agg _ :: _, h, _, _ => h.elim
 | .agg _ :: _, [], h, _, _ => h.elim
 | .agg _ :: _, .one _ :: _, h, _, _ => h.elim
 | .tup _ :: _, [], h, _, _ => h.elim
 | .tup _ :: _, _ :: _, h, _, _ => h.elim
def PRe (P : Program) (rs : List ResultVar) (res : List D) (e : Exit) (σ : St) : Prop := match e with
 | .normal => zal (zbe P σ rs) fun vs => RVe σ vs res
 | .ret => zal (zbe P σ rs) fun vs => RVe σ vs res
 | _ => False
theorem zh0 {f : FuncId} {fn : Func} {c : Code} {args res : List D} (hc : zaz P f) (hf : P.funcs[f]? = some fn) (hb : fn.body = some c) (hd : za7 fn.ntmps c = true) (hN : (rd args).length <= fn.ntmps)
  (h : ex P c [] (PRe P fn.results.toList res) (zdi (rd args))) : RC P f args res := by
 refine ⟨hc, fun w vs A hv => ?_⟩
 refine calls_of_wp hf hb ?_
 have hg : ∀ (ds : List D) (vs : List Value), za0 w (fun b => b < w.heap.size /\ A b) ds vs -> zbh w (fun b => b < w.heap.size /\ A b /\ b ∉ ([] : List Nat)) (rd ds) vs [] [] := by
  intro ds
  induction ds with
  | nil => intro vs h; exact ⟨h, rfl, rfl⟩
  | cons d ds ih =>
   rintro vs ⟨v, vs', rfl, h1, h2⟩
   refine ⟨v, vs', rfl, ?_, ih _ h2⟩
   cases d with
   | one t => exact zag.keep (fun _ _ => rfl) (fun b hb => ⟨hb.1, hb.2, by simp⟩) t _ h1
   | agg ts => obtain ⟨a, h0, h1⟩ := h1; exact ⟨a, h0, zaa.keep (fun _ _ => rfl) (fun b hb => ⟨hb.1, hb.2, by simp⟩) ts a h1⟩
 obtain ⟨g, hg, hR⟩ := Rel.start (A := A) (A0 := fun b => A b \/ w.heap.size <= b) (R0 := RP.of fun _ => True) (N := fn.ntmps) (hg _ _ hv) List.nodup_nil (zb5 args) hN (fun _ hb => Or.inl hb) (fun b hb => by simp at hb) (fun b hb => ⟨Or.inr (by
  refine Nat.le_of_not_lt fun hlt => hb ⟨hlt, by simp⟩), trivial⟩)
 refine wp_mono (za5 (w0 := w) c (zdi (rd args)) _ hd h g _ w hR (fun k hk => hk.1) (Bk.refl _ _) hg) fun e a' w' hq => ?_
 obtain ⟨σ', g', h1, h2, h3, h4, h5⟩ := hq
 have key : zal (zbe P σ' fn.results.toList) (fun vs => RVe σ' vs res) -> ∃ v, (results fn a'.tmps).run P w' = .ok v w' /\ ∃ us, Ending.returned v = .returned (zbp us) /\ za0 w' (fun b => b < w'.heap.size /\ (A b \/ w.heap.size <= b)) res us /\ Below w.heap.size w w' := fun hk => by
  unfold zal at hk
  split at hk
  ·rename_i vs hvs
   obtain ⟨us, r1, r2⟩ := zbk h2 fn hvs
   refine ⟨_, r1, us, rfl, (RVe.rep h2 hk r2).keep (fun _ _ => rfl) fun b hb => ⟨hb.1, ?_⟩, h4.os, h4.tape, h4.output, h4.size, fun k hk => h4.block k ⟨hk, by simp⟩⟩
   have := hb.2
   simp only [Prod.mk.injEq] at h5
   rw [h5.1] at this
   exact this
  ·exact hk.elim
 cases e with
 | normal => exact ⟨h2.defers, key h1⟩
 | ret => exact ⟨h2.defers, key h1⟩
 | exit _ => exact h1.elim
 | goto _ => exact h1.elim
 | panic _ => exact h1.elim
 | outgrown => exact h1.elim
attribute [go_sem] PRe RVe
end
end Go.Proofs.Yteeaofpphmhjdaa
namespace Go.Proofs.Yteeaofpphmhjdaa
set_option linter.unusedSimpArgs false
set_option linter.unusedVariables false
set_option linter.unusedSectionVars false
set_option maxRecDepth 4000
open Go.RowKit
theorem zsm (xs ys : List Int) : FC Try.prog 116 [.one (za8 xs), .one (za8 ys)] [bD (same xs ys)] := by
 refine zdh (fun hw => ?_) Try.call116
 have hl : xs.length <= 9223372036854775807 := by have := hw.1.1; simpa using this
 by_cases hne : xs.length = ys.length
 ·have hni : ((xs.length : Int) != (ys.length : Int)) = false := by rw [hne]; simp
  refine zav Try.call116 Try.func116 rfl (by kernel_rfl) (zbi (by kernel_rfl)) ?_
  simp -implicitDefEqProofs only [go_sem, Try.results116, hni]
  refine zaj (fun k : Nat => hd [(0, vT (za8 xs)), (1, vT (za8 ys)), (5, vI k)] [] []) (fun k => k <= xs.length /\ same xs ys = same (xs.drop k) (ys.drop k)) (fun k => xs.length - k) 0 (zad ?_) ?_ ?_
  ·simp -implicitDefEqProofs only [go_sem]
  ·simp
  ·intro k ⟨hk, hr⟩
   by_cases hlt : k < xs.length
   ·have hlt2 : k < ys.length := by omega
    have hwk : IntKind.i64.wrap ((k : Int) + 1) = ((k + 1 : Nat) : Int) := zaw (by omega)
    rw [List.drop_eq_getElem_cons hlt, List.drop_eq_getElem_cons hlt2, zce] at hr
    simp -implicitDefEqProofs only [go_sem, hlt]
    refine drawn (by kernel_rfl) ?_
    simp -implicitDefEqProofs only [go_sem, zaf, hlt, hlt2]
    refine ⟨by kernel_rfl, ?_⟩
    rw [hwk]
    refine ⟨fun h => ?_, fun h => ⟨k + 1, ⟨hlt, ?_⟩, by omega, zad (by simp -implicitDefEqProofs only [go_sem])⟩⟩
    ·rw [hr, zby.2 (by simpa using h), Bool.false_and]
    ·rw [hr, zbx.2 (by simpa using h), Bool.true_and]
   ·simp -implicitDefEqProofs only [go_sem, hlt]
    rw [hr, List.drop_of_length_le (by omega), List.drop_of_length_le (by omega), zax]
 ·have hni : ((xs.length : Int) != (ys.length : Int)) = true := by simp; omega
  refine zav Try.call116 Try.func116 rfl (by kernel_rfl) (zbi (by kernel_rfl)) ?_
  simp -implicitDefEqProofs only [go_sem, Try.results116, hni]
  rw [zby.2 (fun e => hne (by rw [e]))]
theorem zud (xs ys : List Int) : FC Try.prog 83 [.one (za8 xs), .one (za8 ys)] [bD (same xs ys)] := by
 refine zdh (fun hw => ?_) Try.call83
 have hl : xs.length <= 9223372036854775807 := by have := hw.1.1; simpa using this
 by_cases hne : xs.length = ys.length
 ·have hni : ((xs.length : Int) != (ys.length : Int)) = false := by rw [hne]; simp
  refine zav Try.call83 Try.func83 rfl (by kernel_rfl) (zbi (by kernel_rfl)) ?_
  simp -implicitDefEqProofs only [go_sem, Try.results83, hni]
  refine zaj (fun k : Nat => hd [(0, vT (za8 xs)), (1, vT (za8 ys)), (12, vI xs.length), (13, vI k)] [] []) (fun k => k <= xs.length /\ same xs ys = same (xs.drop k) (ys.drop k)) (fun k => xs.length - k) 0 (zad ?_) ?_ ?_
  ·simp -implicitDefEqProofs only [go_sem]
  ·simp
  ·intro k ⟨hk, hr⟩
   by_cases hlt : k < xs.length
   ·have hlt2 : k < ys.length := by omega
    have hwk : IntKind.i64.wrap ((k : Int) + 1) = ((k + 1 : Nat) : Int) := zaw (by omega)
    rw [List.drop_eq_getElem_cons hlt, List.drop_eq_getElem_cons hlt2, zce] at hr
    simp -implicitDefEqProofs only [go_sem, hlt]
    refine drawn (by kernel_rfl) ?_
    simp -implicitDefEqProofs only [go_sem, zaf, hlt, hlt2]
    refine ⟨by kernel_rfl, ?_⟩
    rw [hwk]
    refine ⟨fun h => ?_, fun h => ⟨k + 1, ⟨hlt, ?_⟩, by omega, zad (by simp -implicitDefEqProofs only [go_sem])⟩⟩
    ·rw [hr, zby.2 (by simpa using h), Bool.false_and]
    ·rw [hr, zbx.2 (by simpa using h), Bool.true_and]
   ·simp -implicitDefEqProofs only [go_sem, hlt]
    rw [hr, List.drop_of_length_le (by omega), List.drop_of_length_le (by omega), zax]
 ·have hni : ((xs.length : Int) != (ys.length : Int)) = true := by simp; omega
  refine zav Try.call83 Try.func83 rfl (by kernel_rfl) (zbi (by kernel_rfl)) ?_
  simp -implicitDefEqProofs only [go_sem, Try.results83, hni]
  rw [zby.2 (fun e => hne (by rw [e]))]
def clI (S : List (List Int)) (st : List Ps) (i : Int) : List Int × Bool := if (inB i 0 (S.length - 1) || inB i S.length (S.length + st.length - 1)) = true then (clA S st i, true) else ([], false)
theorem zuy {S : List (List Int)} {st : List Ps} {i : Int} : (clI S st i).2 = (decide (0 <= i) && decide (i < (S.length : Int) + st.length)) := by
 unfold clI inB
 by_cases h : 0 <= i /\ i < (S.length : Int) + st.length
 ·rw [if_pos, show decide (0 <= i) = true by simpa using h.1, show decide (i < (S.length : Int) + st.length) = true by simpa using h.2]; · rfl
  simp only [Bool.or_eq_true, Bool.and_eq_true, decide_eq_true_eq]
  omega
 ·rw [if_neg]
  ·symm
   rw [Bool.and_eq_false_iff, decide_eq_false_iff_not, decide_eq_false_iff_not]
   omega
  ·simp only [Bool.or_eq_true, Bool.and_eq_true, decide_eq_true_eq]
   omega
theorem zf8 (S : List (List Int)) (st : List Ps) (i : Int) (hS : S.length <= 1048576) (hst : st.length <= 1048576) : RC Try.prog 81 [.one (za9 S), .one (psS st), iD i] [.one (za8 (clI S st i).1), bD (clI S st i).2] := by
 have H1 := zdu i 0 ((S.length : Int) - 1)
 have H2 := zdu i S.length ((S.length : Int) + st.length - 1)
 have w1 : IntKind.i64.wrap ((S.length : Int) - 1) = (S.length : Int) - 1 := zas (by omega) (by omega)
 have w2 : IntKind.i64.wrap (IntKind.i64.wrap ((S.length : Int) + (st.length : Int)) - 1) = (S.length : Int) + st.length - 1 := by rw [zas (n := (S.length : Int) + (st.length : Int)) (by omega) (by omega), zas (by omega) (by omega)]
 unfold clI
 cases h1 : inB i 0 ((S.length : Int) - 1)
 ·rw [h1] at H1
  cases h2 : inB i S.length ((S.length : Int) + st.length - 1)
  ·rw [h2] at H2
   rw [Bool.or_self, if_neg (by simp)]
   refine zh0 Try.call81 Try.func81 rfl (by kernel_rfl) (zbi (by kernel_rfl)) ?_
   simp -implicitDefEqProofs only [go_sem, Try.results81]
   rw [w1]
   refine callF (H1) (by simp -implicitDefEqProofs only [go_sem]) ?_
   simp -implicitDefEqProofs only [go_sem]
   rw [w2]
   refine callF (H2) (by simp -implicitDefEqProofs only [go_sem]) ?_
   simp -implicitDefEqProofs only [go_sem]
   skip
  ·rw [h2] at H2
   rw [Bool.or_true, if_pos rfl]
   unfold inB at h1 h2
   simp at h1 h2
   obtain ⟨q, hq⟩ : ∃ q : Nat, i = (S.length : Int) + q := ⟨(i - S.length).toNat, by omega⟩
   have hql : q < st.length := by omega
   have w3 : IntKind.i64.wrap (i - (S.length : Int)) = (q : Int) := by rw [zas (by omega) (by omega)]; omega
   have e : clA S st i = st[q].c := by
    unfold clA
    rw [if_neg (by omega), show i.toNat - S.length = q by omega, List.getD_eq_getElem?_getD, List.getElem?_eq_getElem hql]; rfl
   rw [e]
   refine zh0 Try.call81 Try.func81 rfl (by kernel_rfl) (zbi (by kernel_rfl)) ?_
   simp -implicitDefEqProofs only [go_sem, Try.results81]
   rw [w1]
   refine callF (H1) (by simp -implicitDefEqProofs only [go_sem]) ?_
   simp -implicitDefEqProofs only [go_sem]
   rw [w2]
   refine callF (H2) (by simp -implicitDefEqProofs only [go_sem]) ?_
   simp -implicitDefEqProofs only [go_sem]
   rw [w3]
   simp -implicitDefEqProofs only [go_sem, hql, zaf, zay]
   skip
 ·rw [h1] at H1
  rw [Bool.true_or, if_pos rfl]
  unfold inB at h1
  simp at h1
  obtain ⟨q, hq⟩ : ∃ q : Nat, i = (q : Int) := ⟨i.toNat, by omega⟩
  subst hq
  have hql : q < S.length := by omega
  have e : clA S st q = S[q] := by
   unfold clA
   rw [if_pos (by omega), Int.toNat_natCast, List.getD_eq_getElem?_getD, List.getElem?_eq_getElem hql]; rfl
  rw [e]
  refine zh0 Try.call81 Try.func81 rfl (by kernel_rfl) (zbi (by kernel_rfl)) ?_
  simp -implicitDefEqProofs only [go_sem, Try.results81]
  rw [w1]
  refine callF (H1) (by simp -implicitDefEqProofs only [go_sem, hql, zaf]) ?_
  simp -implicitDefEqProofs only [go_sem, hql, zaf]
  skip
end Go.Proofs.Yteeaofpphmhjdaa
namespace Go.Proofs.Yteeaofpphmhjdaa
set_option linter.unusedSimpArgs false
set_option linter.unusedVariables false
set_option linter.unusedSectionVars false
set_option maxRecDepth 4000
open Go.RowKit
def zrl (S : List (List Int)) (st : List Ps) : Bool := zin S && inB st.length 1 200
theorem zr0 {S : List (List Int)} {st : List Ps} (hS : ∀ c ∈ S, pcl c = true) {k : Nat} (hk : k < st.length) (hp : ∀ j < k, zba S st j = true) :
  zba S st k = ((clI S (st.take k) st[k].l).2 && (clI S (st.take k) st[k].r).2 && ((rsO (clI S (st.take k) st[k].l).1 (clI S (st.take k) st[k].r).1 st[k].p).2 && same (rsO (clI S (st.take k) st[k].l).1 (clI S (st.take k) st[k].r).1 st[k].p).1 st[k].c)) := by
 have hg : st.getD k ps0 = st[k] := by rw [List.getD_eq_getElem?_getD, List.getElem?_eq_getElem hk]; rfl
 have hl : (st.take k).length = k := by rw [List.length_take]; omega
 have hcl : ∀ i : Int, (clI S (st.take k) i).2 = true -> 0 <= i /\ i < S.length + k /\ (clI S (st.take k) i).1 = clA S st i := fun i h => by
  have h2 := h
  rw [zuy, Bool.and_eq_true, decide_eq_true_eq, decide_eq_true_eq, hl] at h2
  refine ⟨h2.1, h2.2, ?_⟩
  have e : clA S (st.take k) i = clA S st i := by
   conv => rhs; rw [<- List.take_append_drop k st]
   rw [zmh (by rw [hl]; exact h2.2)]
  rw [<- e]
  unfold clI at h ⊢
  split
  ·rfl
  next hn => rw [if_neg hn] at h; cases h
 have hno : ∀ i : Int, (clI S (st.take k) i).2 = false -> ¬ (0 <= i /\ i < S.length + k) := fun i h => by
  rw [zuy, Bool.and_eq_false_iff, decide_eq_false_iff_not, decide_eq_false_iff_not, hl] at h
  omega
 cases h1 : (clI S (st.take k) st[k].l).2
 ·rw [Bool.false_and, Bool.false_and, <- Bool.not_eq_true, zci, hg]
  exact fun h => hno _ h1 ⟨h.1.1, h.1.2⟩
 ·cases h2 : (clI S (st.take k) st[k].r).2
  ·rw [Bool.and_false, Bool.false_and, <- Bool.not_eq_true, zci, hg]
   exact fun h => hno _ h2 ⟨h.2.1.1, h.2.1.2⟩
  ·obtain ⟨a1, a2, a3⟩ := hcl _ h1
   obtain ⟨b1, b2, b3⟩ := hcl _ h2
   rw [Bool.true_and, Bool.true_and, a3, b3]
   have pa := zd3 hS hp a1 a2
   have pb := zd3 hS hp b1 b2
   rw [Bool.eq_iff_iff, zci, hg, Bool.and_eq_true, zbx]
   unfold rsO
   rw [pa, pb, Bool.true_and, Bool.true_and]
   cases h3 : inB st[k].p 1 12
   ·unfold inB at h3
    rw [Bool.and_eq_false_iff, decide_eq_false_iff_not, decide_eq_false_iff_not] at h3
    rw [if_neg (by simp)]
    constructor
    ·rintro ⟨_, _, h, _⟩; exact absurd h (by omega)
    ·rintro ⟨h, _⟩; cases h
   ·unfold inB at h3
    rw [Bool.and_eq_true, decide_eq_true_eq, decide_eq_true_eq] at h3
    rw [if_pos rfl]
    exact ⟨fun h => h.2.2.2, fun h => ⟨⟨a1, a2⟩, ⟨b1, b2⟩, h3, h⟩⟩
theorem zoy {S : List (List Int)} {st : List Ps} (hS : ∀ c ∈ S, c.length <= 1048576) (hst : ∀ s ∈ st, s.c.length <= 1048576) (i : Int) : (clI S st i).1.length <= 1048576 := by
 unfold clI
 split
 ·unfold clA
  split
  ·rw [List.getD_eq_getElem?_getD]
   cases h : S[i.toNat]? with
   | none => simp
   | some c => exact hS c (List.mem_of_getElem? h)
  ·rw [List.getD_eq_getElem?_getD]
   cases h : st[i.toNat - S.length]? with
   | none => simp [ps0]
   | some c => exact hst c (List.mem_of_getElem? h)
 ·simp
set_option maxHeartbeats 2000000 in
theorem zec (S : List (List Int)) (st : List Ps) (hSl : S.length <= 1048576) (hst : st.length <= 1048576) (hSc : ∀ c ∈ S, c.length <= 1048576) (hsc : ∀ s ∈ st, s.c.length <= 1048576) : FC Try.prog 27 [.one (za9 S), .one (psS st)] [iD (if zrl S st = true then chk S st else 0), bD (zrl S st)] := by
 have H1 := zex S
 have H2 := zdu st.length 1 200
 unfold zrl
 cases h1 : zin S
 ·rw [h1] at H1
  rw [Bool.false_and, if_neg (by simp)]
  refine zav Try.call27 Try.func27 rfl (by kernel_rfl) (zbi (by kernel_rfl)) ?_
  simp -implicitDefEqProofs only [go_sem, Try.results27]
  refine callF (H1) (by simp -implicitDefEqProofs only [go_sem]) ?_
  simp -implicitDefEqProofs only [go_sem]
 ·rw [h1] at H1
  cases h2 : inB st.length 1 200
  ·rw [h2] at H2
   rw [Bool.and_false, if_neg (by simp)]
   refine zav Try.call27 Try.func27 rfl (by kernel_rfl) (zbi (by kernel_rfl)) ?_
   simp -implicitDefEqProofs only [go_sem, Try.results27]
   refine callF (H1) (by simp -implicitDefEqProofs only [go_sem]) ?_
   simp -implicitDefEqProofs only [go_sem]
   refine callF (H2) (by simp -implicitDefEqProofs only [go_sem]) ?_
   simp -implicitDefEqProofs only [go_sem]
  ·rw [h2] at H2
   rw [Bool.and_self, if_pos rfl]
   unfold inB at h2
   simp at h2
   have hSp : ∀ c ∈ S, pcl c = true := fun c hc => zg4 h1 hc
   refine zav Try.call27 Try.func27 rfl (by kernel_rfl) (zbi (by kernel_rfl)) ?_
   simp -implicitDefEqProofs only [go_sem, Try.results27]
   refine callF (H1) (by simp -implicitDefEqProofs only [go_sem]) ?_
   simp -implicitDefEqProofs only [go_sem]
   refine callF (H2) (by simp -implicitDefEqProofs only [go_sem]) ?_
   simp -implicitDefEqProofs only [go_sem]
   refine zaj (fun k : Nat => hd [(0, vT (za9 S)), (1, vT (psS st)), (23, vT (psS st)), (24, vI st.length), (25, vI k)] [] []) (fun k => k <= st.length /\ ∀ j < k, zba S st j = true) (fun k => st.length - k) 0 (zad ?_) ?_ ?_
   ·simp -implicitDefEqProofs only [go_sem]
   ·exact ⟨Nat.zero_le _, fun j hj => absurd hj (by omega)⟩
   ·intro k ⟨hk, hp⟩
    by_cases hlt : k < st.length
    ·have hI := zr0 hSp hlt hp
     have HA := zf8 S (st.take k) st[k].l hSl (by rw [List.length_take]; omega)
     have HB := zf8 S (st.take k) st[k].r hSl (by rw [List.length_take]; omega)
     have hla := zoy hSc (st := st.take k) (fun s hs => hsc s (List.mem_of_mem_take hs)) st[k].l
     have hlb := zoy hSc (st := st.take k) (fun s hs => hsc s (List.mem_of_mem_take hs)) st[k].r
     generalize clI S (st.take k) st[k].l = A at hI HA hla
     generalize clI S (st.take k) st[k].r = B at hI HB hlb
     obtain ⟨a, a2⟩ := A
     obtain ⟨b, b2⟩ := B
     simp only at hI HA HB hla hlb
     have HR := zjs a b st[k].p (by omega)
     have HE := zud (rsO a b st[k].p).1 st[k].c
     generalize rsO a b st[k].p = R at hI HR HE
     obtain ⟨r, r2⟩ := R
     simp only at hI HR HE
     have hwk : IntKind.i64.wrap ((k : Int) + 1) = ((k + 1 : Nat) : Int) := zaw (by omega)
     have hkl : k <= st.length := by omega
     have fin : zba S st k = false -> chk S st = k := fun h => zhz hlt hp h
     have nxt : zba S st k = true -> ∀ j < k + 1, zba S st j = true := fun h j hj => by
      by_cases hjk : j < k
      ·exact hp j hjk
      ·rw [show j = k by omega]; exact h
     cases a2
     ·rw [fin (by rw [hI]; simp)]
      simp -implicitDefEqProofs only [go_sem, hlt, zaf, zay]
      refine drawn (by kernel_rfl) ?_
      simp -implicitDefEqProofs only [go_sem, hkl, <- List.map_take]
      refine zcq HA (by simp -implicitDefEqProofs only [go_sem]) ?_
      simp -implicitDefEqProofs only [go_sem]
      refine ⟨by kernel_rfl, ?_⟩
      refine drawn (by kernel_rfl) ?_
      simp -implicitDefEqProofs only [go_sem, hkl, <- List.map_take]
      refine zcq HB (by simp -implicitDefEqProofs only [go_sem]) ?_
      simp -implicitDefEqProofs only [go_sem]
      kernel_rfl
     ·cases b2
      ·rw [fin (by rw [hI]; simp)]
       simp -implicitDefEqProofs only [go_sem, hlt, zaf, zay]
       refine drawn (by kernel_rfl) ?_
       simp -implicitDefEqProofs only [go_sem, hkl, <- List.map_take]
       refine zcq HA (by simp -implicitDefEqProofs only [go_sem]) ?_
       simp -implicitDefEqProofs only [go_sem]
       refine ⟨by kernel_rfl, ?_⟩
       refine drawn (by kernel_rfl) ?_
       simp -implicitDefEqProofs only [go_sem, hkl, <- List.map_take]
       refine zcq HB (by simp -implicitDefEqProofs only [go_sem]) ?_
       simp -implicitDefEqProofs only [go_sem]
       kernel_rfl
      ·rw [Bool.true_and, Bool.true_and] at hI
       cases r2
       ·rw [fin (by rw [hI]; simp)]
        simp -implicitDefEqProofs only [go_sem, hlt, zaf, zay]
        refine drawn (by kernel_rfl) ?_
        simp -implicitDefEqProofs only [go_sem, hkl, <- List.map_take]
        refine zcq HA (by simp -implicitDefEqProofs only [go_sem]) ?_
        simp -implicitDefEqProofs only [go_sem]
        refine ⟨by kernel_rfl, ?_⟩
        refine drawn (by kernel_rfl) ?_
        simp -implicitDefEqProofs only [go_sem, hkl, <- List.map_take]
        refine zcq HB (by simp -implicitDefEqProofs only [go_sem]) ?_
        simp -implicitDefEqProofs only [go_sem]
        refine ⟨by kernel_rfl, ?_⟩
        refine callF (HR) (by simp -implicitDefEqProofs only [go_sem]) ?_
        simp -implicitDefEqProofs only [go_sem]
       ·rw [Bool.true_and] at hI
        simp -implicitDefEqProofs only [go_sem, hlt, zaf, zay]
        refine drawn (by kernel_rfl) ?_
        simp -implicitDefEqProofs only [go_sem, hkl, <- List.map_take]
        refine zcq HA (by simp -implicitDefEqProofs only [go_sem]) ?_
        simp -implicitDefEqProofs only [go_sem]
        refine ⟨by kernel_rfl, ?_⟩
        refine drawn (by kernel_rfl) ?_
        simp -implicitDefEqProofs only [go_sem, hkl, <- List.map_take]
        refine zcq HB (by simp -implicitDefEqProofs only [go_sem]) ?_
        simp -implicitDefEqProofs only [go_sem]
        refine ⟨by kernel_rfl, ?_⟩
        refine callF (HR) (by simp -implicitDefEqProofs only [go_sem]) ?_
        simp -implicitDefEqProofs only [go_sem]
        refine callF (HE) (by simp -implicitDefEqProofs only [go_sem]) ?_
        simp -implicitDefEqProofs only [go_sem]
        rw [hwk]
        refine ⟨fun h => ?_, fun h => ⟨k + 1, ⟨hlt, nxt (by rw [hI]; simpa using h)⟩, by omega, zad (by simp -implicitDefEqProofs only [go_sem])⟩⟩
        rw [fin (by rw [hI]; simpa using h)]
    ·have hkn : k = st.length := by omega
     subst hkn
     rw [zhq hp]
     have hpos : st.length - 1 < st.length := by omega
     have hw1 : IntKind.i64.wrap ((st.length : Int) - 1) = ((st.length - 1 : Nat) : Int) := by rw [zas (by omega) (by omega)]; omega
     have hg : st.getD (st.length - 1) ps0 = st[st.length - 1] := by rw [List.getD_eq_getElem?_getD, List.getElem?_eq_getElem hpos]; rfl
     rw [hg]
     simp -implicitDefEqProofs only [go_sem, hlt]
     rw [hw1]
     simp -implicitDefEqProofs only [go_sem, hpos, zaf, zay]
     refine ⟨fun h => ?_, fun h => ?_⟩
     ·rw [if_pos (by simp at h; omega)]
     ·rw [if_neg (by simp at h; rw [h]; simp)]
end Go.Proofs.Yteeaofpphmhjdaa
namespace Go.Proofs.Yteeaofpphmhjdaa
set_option linter.unusedSimpArgs false
set_option linter.unusedVariables false
set_option linter.unusedSectionVars false
set_option maxRecDepth 4000
open Go.RowKit
theorem zkn (S : List (List Int)) (st : List Ps) (i : Int) (hS : S.length <= 1048576) (hst : st.length <= 1048576) (h0 : 0 <= i) (hi : i < (S.length : Int) + st.length) : RC Try.prog 111 [.one (.ptr [za9 S, psS st]), iD i] [.one (za8 (clA S st i))] := by
 by_cases hlt : i < S.length
 ·obtain ⟨q, hq⟩ : ∃ q : Nat, i = (q : Int) := ⟨i.toNat, by omega⟩
  subst hq
  have hql : q < S.length := by omega
  have e : clA S st q = S[q] := by
   unfold clA
   rw [if_pos (by omega), Int.toNat_natCast, List.getD_eq_getElem?_getD, List.getElem?_eq_getElem hql]; rfl
  rw [e]
  refine zh0 Try.call111 Try.func111 rfl (by kernel_rfl) (zbi (by kernel_rfl)) ?_
  simp -implicitDefEqProofs only [go_sem, Try.results111, hql, zaf]
 ·obtain ⟨q, hq⟩ : ∃ q : Nat, i = (S.length : Int) + q := ⟨(i - S.length).toNat, by omega⟩
  have hql : q < st.length := by omega
  have w3 : IntKind.i64.wrap (i - (S.length : Int)) = (q : Int) := by rw [zas (by omega) (by omega)]; omega
  have e : clA S st i = st[q].c := by
   unfold clA
   rw [if_neg (by omega), show i.toNat - S.length = q by omega, List.getD_eq_getElem?_getD, List.getElem?_eq_getElem hql]; rfl
  have hli : (i < (S.length : Int)) = False := by simpa using hlt
  rw [e]
  refine zh0 Try.call111 Try.func111 rfl (by kernel_rfl) (zbi (by kernel_rfl)) ?_
  simp -implicitDefEqProofs only [go_sem, Try.results111, hli]
  refine drawn (by kernel_rfl) ?_
  simp -implicitDefEqProofs only [go_sem]
  rw [w3]
  simp -implicitDefEqProofs only [go_sem, hql, zaf, zay]
  kernel_rfl
theorem zs9 {S : List (List Int)} {st : List Ps} {k : Nat} (hk : k < st.length) :
  zba S st k = (inB st[k].l 0 (S.length + k - 1) && inB st[k].r 0 (S.length + k - 1) && inB st[k].p 1 12 && ((ze4 (clA S st st[k].l) (clA S st st[k].r) st[k].p).2 && same (ze4 (clA S st st[k].l) (clA S st st[k].r) st[k].p).1 st[k].c)) := by
 have hg : st.getD k ps0 = st[k] := by rw [List.getD_eq_getElem?_getD, List.getElem?_eq_getElem hk]; rfl
 unfold zba
 rw [hg]
 have e : ((ze4 (clA S st st[k].l) (clA S st st[k].r) st[k].p).1 == st[k].c) = same (ze4 (clA S st st[k].l) (clA S st st[k].r) st[k].p).1 st[k].c := by
  rw [Bool.eq_iff_iff, beq_iff_eq, zbx]
 dsimp only
 rw [e]
 rfl
theorem zl9 (S : List (List Int)) (st : List Ps) : FC Try.prog 88 [.one (za9 S), .one (psS st)] [bD (zrl S st)] := by
 have H1 := zuc S
 have H2 := ziv st.length 1 200
 unfold zrl
 cases h1 : zin S
 ·rw [h1] at H1
  rw [Bool.false_and]
  refine zav Try.call88 Try.func88 rfl (by kernel_rfl) (zbi (by kernel_rfl)) ?_
  simp -implicitDefEqProofs only [go_sem, Try.results88]
  refine callF (H1) (by simp -implicitDefEqProofs only [go_sem]) ?_
  simp -implicitDefEqProofs only [go_sem]
 ·rw [h1] at H1
  rw [Bool.true_and]
  refine zav Try.call88 Try.func88 rfl (by kernel_rfl) (zbi (by kernel_rfl)) ?_
  simp -implicitDefEqProofs only [go_sem, Try.results88]
  refine callF (H1) (by simp -implicitDefEqProofs only [go_sem]) ?_
  simp -implicitDefEqProofs only [go_sem]
  refine callF (H2) (by simp -implicitDefEqProofs only [go_sem]) ?_
  simp -implicitDefEqProofs only [go_sem]
set_option maxHeartbeats 2000000 in
theorem zmb (S : List (List Int)) (st : List Ps) (hS : zin S = true) (hst : 1 <= st.length /\ st.length <= 1048576) : FC Try.prog 89 [.one (za9 S), .one (psS st)] [iD (chk S st)] := by
 have hSl := zgj hS
 have hSp : ∀ c ∈ S, pcl c = true := fun c hc => zg4 hS hc
 refine zav Try.call89 Try.func89 rfl (by kernel_rfl) (zbi (by kernel_rfl)) ?_
 simp -implicitDefEqProofs only [go_sem, Try.results89]
 refine zaj (fun k : Nat => hd [(0, vT (za9 S)), (1, vT (psS st)), (5, .one (.el [za9 S, psS st] 0)), (6, vI k)] [] []) (fun k => k <= st.length /\ ∀ j < k, zba S st j = true) (fun k => st.length - k) 0 (Wk.trans (fb_wk (j := 14) rfl rfl) (zad ?_)) ?_ ?_
 ·simp -implicitDefEqProofs only [go_sem]
 ·exact ⟨Nat.zero_le _, fun j hj => absurd hj (by omega)⟩
 ·intro k ⟨hk, hp⟩
  by_cases hlt : k < st.length
  ·have hI := zs9 (S := S) hlt
   have fin : zba S st k = false -> chk S st = k := fun h => zhz hlt hp h
   have nxt : zba S st k = true -> ∀ j < k + 1, zba S st j = true := fun h j hj => by
    by_cases hjk : j < k
    ·exact hp j hjk
    ·rw [show j = k by omega]; exact h
   have hwk : IntKind.i64.wrap ((k : Int) + 1) = ((k + 1 : Nat) : Int) := zaw (by omega)
   have w1 : IntKind.i64.wrap ((S.length : Int) + (k : Int)) = (S.length : Int) + k := zas (by omega) (by omega)
   have w2 : IntKind.i64.wrap ((S.length : Int) + (k : Int) - 1) = (S.length : Int) + k - 1 := zas (by omega) (by omega)
   have H1 := ziv st[k].l 0 ((S.length : Int) + k - 1)
   have H2 := ziv st[k].r 0 ((S.length : Int) + k - 1)
   have H3 := ziv st[k].p 1 12
   cases h1 : inB st[k].l 0 ((S.length : Int) + k - 1)
   ·rw [fin (by rw [hI, h1]; simp)]
    rw [h1] at H1
    simp -implicitDefEqProofs only [go_sem, hlt, zaf, zay]
    rw [w1, w2]
    refine callF (H1) (by simp -implicitDefEqProofs only [go_sem]) ?_
    simp -implicitDefEqProofs only [go_sem]
   ·rw [h1] at H1
    cases h2 : inB st[k].r 0 ((S.length : Int) + k - 1)
    ·rw [fin (by rw [hI, h1, h2]; simp)]
     rw [h2] at H2
     simp -implicitDefEqProofs only [go_sem, hlt, zaf, zay]
     rw [w1, w2]
     refine callF (H1) (by simp -implicitDefEqProofs only [go_sem]) ?_
     simp -implicitDefEqProofs only [go_sem]
     rw [w2]
     refine callF (H2) (by simp -implicitDefEqProofs only [go_sem]) ?_
     simp -implicitDefEqProofs only [go_sem]
    ·rw [h2] at H2
     cases h3 : inB st[k].p 1 12
     ·rw [fin (by rw [hI, h1, h2, h3]; simp)]
      rw [h3] at H3
      simp -implicitDefEqProofs only [go_sem, hlt, zaf, zay]
      rw [w1, w2]
      refine callF (H1) (by simp -implicitDefEqProofs only [go_sem]) ?_
      simp -implicitDefEqProofs only [go_sem]
      rw [w2]
      refine callF (H2) (by simp -implicitDefEqProofs only [go_sem]) ?_
      simp -implicitDefEqProofs only [go_sem]
      refine callF (H3) (by simp -implicitDefEqProofs only [go_sem]) ?_
      simp -implicitDefEqProofs only [go_sem]
     ·rw [h3] at H3
      rw [h1, h2, h3, Bool.true_and, Bool.true_and, Bool.true_and] at hI
      unfold inB at h1 h2 h3
      simp only [Bool.and_eq_true, decide_eq_true_eq] at h1 h2 h3
      have HA := zkn S st st[k].l (by omega) hst.2 h1.1 (by omega)
      have HB := zkn S st st[k].r (by omega) hst.2 h2.1 (by omega)
      have pa := zd3 hSp hp h1.1 (by omega)
      have pb := zd3 hSp hp h2.1 (by omega)
      have la := zd6 pa
      have lb := zd6 pb
      have HR := zhx (clA S st st[k].l) (clA S st st[k].r) st[k].p (zil pa) (zil pb) (by omega) (by omega)
      generalize clA S st st[k].l = a at hI HA HR
      generalize clA S st st[k].r = b at hI HB HR
      have HE := zsm (ze4 a b st[k].p).1 st[k].c
      generalize ze4 a b st[k].p = R at hI HR HE
      obtain ⟨r, r2⟩ := R
      simp only at hI HR HE
      cases r2
      ·rw [fin (by rw [hI]; simp)]
       simp -implicitDefEqProofs only [go_sem, hlt, zaf, zay]
       rw [w1, w2]
       refine callF (H1) (by simp -implicitDefEqProofs only [go_sem]) ?_
       simp -implicitDefEqProofs only [go_sem]
       rw [w2]
       refine callF (H2) (by simp -implicitDefEqProofs only [go_sem]) ?_
       simp -implicitDefEqProofs only [go_sem]
       refine callF (H3) (by simp -implicitDefEqProofs only [go_sem]) ?_
       simp -implicitDefEqProofs only [go_sem]
       refine drawn (by kernel_rfl) ?_
       simp -implicitDefEqProofs only [go_sem]
       refine zcq HA (by simp -implicitDefEqProofs only [go_sem]) ?_
       simp -implicitDefEqProofs only [go_sem]
       refine zcq HB (by simp -implicitDefEqProofs only [go_sem]) ?_
       simp -implicitDefEqProofs only [go_sem]
       refine zdb (HR) (by simp -implicitDefEqProofs only [go_sem]) ?_
       simp -implicitDefEqProofs only [go_sem]
       kernel_rfl
      ·rw [Bool.true_and] at hI
       simp -implicitDefEqProofs only [go_sem, hlt, zaf, zay]
       rw [w1, w2]
       refine callF (H1) (by simp -implicitDefEqProofs only [go_sem]) ?_
       simp -implicitDefEqProofs only [go_sem]
       rw [w2]
       refine callF (H2) (by simp -implicitDefEqProofs only [go_sem]) ?_
       simp -implicitDefEqProofs only [go_sem]
       refine callF (H3) (by simp -implicitDefEqProofs only [go_sem]) ?_
       simp -implicitDefEqProofs only [go_sem]
       refine drawn (by kernel_rfl) ?_
       simp -implicitDefEqProofs only [go_sem]
       refine zcq HA (by simp -implicitDefEqProofs only [go_sem]) ?_
       simp -implicitDefEqProofs only [go_sem]
       refine zcq HB (by simp -implicitDefEqProofs only [go_sem]) ?_
       simp -implicitDefEqProofs only [go_sem]
       refine zdb (HR) (by simp -implicitDefEqProofs only [go_sem]) ?_
       simp -implicitDefEqProofs only [go_sem]
       refine ⟨by kernel_rfl, ?_⟩
       refine callF (HE) (by simp -implicitDefEqProofs only [go_sem]) ?_
       simp -implicitDefEqProofs only [go_sem]
       rw [hwk]
       refine ⟨fun h => ?_, fun h => ⟨k + 1, ⟨hlt, nxt (by rw [hI]; simpa using h)⟩, by omega, zad (by simp -implicitDefEqProofs only [go_sem])⟩⟩
       rw [fin (by rw [hI]; simpa using h)]
  ·have hkn : k = st.length := by omega
   subst hkn
   rw [zhq hp]
   have hpos : st.length - 1 < st.length := by omega
   have hw1 : IntKind.i64.wrap ((st.length : Int) - 1) = ((st.length - 1 : Nat) : Int) := by rw [zas (by omega) (by omega)]; omega
   have hg : st.getD (st.length - 1) ps0 = st[st.length - 1] := by rw [List.getD_eq_getElem?_getD, List.getElem?_eq_getElem hpos]; rfl
   rw [hg]
   simp -implicitDefEqProofs only [go_sem, hlt]
   rw [hw1]
   simp -implicitDefEqProofs only [go_sem, hpos, zaf, zay]
   refine ⟨fun h => ?_, fun h => ?_⟩
   ·rw [if_pos (by simp at h; omega)]
   ·rw [if_neg (by simp at h; rw [h]; simp)]
end Go.Proofs.Yteeaofpphmhjdaa
namespace Go.Proofs.Yteeaofpphmhjdaa
set_option linter.unusedSimpArgs false
set_option linter.unusedVariables false
set_option linter.unusedSectionVars false
set_option maxRecDepth 4000
open Go.RowKit
abbrev bolS (xs : List Bool) : T := .sl 1 (xs.map fun b => [T.bool b])
theorem zgb (xs : List Bool) (i : Nat) (v : Bool) (hi : i < xs.length) : zb8 (xs.map fun s => [T.bool s]) i 0 [.bool v] = (xs.set i v).map fun s => [T.bool s] := by
 unfold zb8
 rw [List.getD_eq_getElem?_getD, List.getElem?_eq_getElem (by simpa using hi), List.map_set]
 simp [setR]
def ndK (n : Nat) (st : List Ps) : Nat -> List Bool
 | 0 => nd0 n st.length
 | k + 1 => zmw n (st.getD (st.length - 1 - k) ps0) (st.length - 1 - k) (ndK n st k)
theorem zos (n : Nat) (st : List Ps) : ∀ k, k <= st.length -> ndB n st (st.length - k) (ndK n st k) = nd n st
 | 0, _ => rfl
 | k + 1, h => by
  have := zos n st k (by omega)
  rw [show st.length - k = (st.length - (k + 1)) + 1 by omega, ndB] at this
  rw [ndK, show st.length - 1 - k = st.length - (k + 1) by omega]
  exact this
theorem zpl (n : Nat) (st : List Ps) : ∀ k, (ndK n st k).length = n + st.length
 | 0 => by unfold ndK nd0; simp
 | k + 1 => by rw [ndK, zln, zpl n st k]
def ndH (S : List (List Int)) (st : List Ps) (k : Nat) : St :=
 hd [(2, .one (.bx 2 0)), (5, .one (.bx 5 0)), (20, .one (.fn 131 [20]))]
  [(2, [.rn (za9 S)]), (5, [.ow 416 0]), (20, [.rn (psS st)])] [(416, ⟨true, 1, (ndK S.length st k).map fun b => [.bool b], 0, true⟩)]
set_option maxHeartbeats 2000000 in
theorem zsu (S : List (List Int)) (st : List Ps) (hS : S.length <= 100000) (hst : st.length <= 100000) (hpos : 0 < st.length) (hb : ∀ i < st.length, 0 <= (st.getD i ps0).l /\ (st.getD i ps0).l < S.length + i /\ 0 <= (st.getD i ps0).r /\ (st.getD i ps0).r < S.length + i) : FC Try.prog 85 [.one (za9 S), .one (psS st)] [.one (bolS (nd S.length st))] := by
 have e1 : IntKind.i64.wrap ((S.length : Int) + st.length) = ((S.length + st.length : Nat) : Int) := by rw [zas (by omega) (by omega)]; omega
 have e2 : IntKind.i64.wrap (((S.length + st.length : Nat) : Int) - 1) = ((S.length + st.length - 1 : Nat) : Int) := by rw [zas (by omega) (by omega)]; omega
 have hlt : S.length + st.length - 1 < (List.replicate (S.length + st.length) false).length := by simp; omega
 have hs0 := zgb (List.replicate (S.length + st.length) false) (S.length + st.length - 1) true hlt
 refine zwc Try.call85 Try.func85 rfl rfl (by kernel_rfl) (zbi (by kernel_rfl)) ?_
 simp -implicitDefEqProofs only [go_sem, Try.results85]
 rw [e1]
 refine zqc (by simp -implicitDefEqProofs only [go_sem]; omega) ?_
 simp -implicitDefEqProofs only [go_sem]
 rw [List.length_replicate, e2]
 refine ⟨by omega, ?_⟩
 refine zcw (by simp -implicitDefEqProofs only [go_sem]; simp) ?_
 simp -implicitDefEqProofs only [go_sem]
 rw [<- List.map_replicate (f := fun s => [T.bool s]) (a := false), hs0]
 refine callB (sz := 4) (rows := st.map psC) zri (by simp -implicitDefEqProofs only [go_sem]) ?_
 simp -implicitDefEqProofs only [go_sem]
 refine loopR ztc Try.call131 20 (ndH S st) (st.map psC) (by kernel_rfl) rfl (fun k => ⟨rfl, rfl⟩) (fun k => by repeat (first | exact trivial | refine ⟨rfl, ?_⟩)) (zad ?_) ?_ ?_
 ·simp -implicitDefEqProofs only [go_sem]
  rfl
 ·intro k hk
  rw [List.length_map] at hk ⊢
  have hi : st.length - 1 - k < st.length := by omega
  have hrow : (st.map psC).getD (st.length - 1 - k) [] = psC (st.getD (st.length - 1 - k) ps0) := by
   simp [List.getD, hi]
  rw [hrow]
  have hK : ndK S.length st (k + 1) = zmw S.length (st.getD (st.length - 1 - k) ps0) (st.length - 1 - k) (ndK S.length st k) := rfl
  have hbi := hb _ hi
  have hol := zpl S.length st k
  unfold ndH
  rw [hK]
  generalize st.getD (st.length - 1 - k) ps0 = s at hbi ⊢
  generalize st.length - 1 - k = j at hi hbi ⊢
  obtain ⟨sl, sr, sp, sc⟩ := s
  simp only at hbi
  obtain ⟨l, rfl⟩ : ∃ l : Nat, sl = l := ⟨sl.toNat, by omega⟩
  obtain ⟨r, rfl⟩ : ∃ r : Nat, sr = r := ⟨sr.toNat, by omega⟩
  generalize ndK S.length st k = out at hol ⊢
  have hwj : IntKind.i64.wrap ((S.length : Int) + (j : Int)) = ((S.length + j : Nat) : Int) := by rw [zas (by omega) (by omega)]; omega
  have hjl : S.length + j < out.length := by omega
  have hll : l < out.length := by omega
  have hrl : r < out.length := by omega
  have hrl2 : r < (out.set l true).length := by rw [List.length_set]; omega
  have hsl := zgb out l true hll
  have hsr := zgb (out.set l true) r true hrl2
  have hgo : out.getD (S.length + j) false = out[S.length + j] := by rw [List.getD_eq_getElem?_getD, List.getElem?_eq_getElem hjl]; rfl
  simp -implicitDefEqProofs only [go_sem, zay, rowN, T.toN]
  refine zd0.block (zd0.seq (zd0.ofEx (by kernel_rfl) (by intro d hd; simp [zbl] at hd ⊢; omega) ?_))
  simp -implicitDefEqProofs only [go_sem]
  rw [hwj]
  simp -implicitDefEqProofs only [go_sem, hjl, zaf]
  refine zd0.cond (b := out[S.length + j]) (by simp -implicitDefEqProofs only [go_sem]) (fun ht => ?_) (fun hf => ?_)
  ·have hN : zmw S.length ⟨l, r, sp, sc⟩ j out = (out.set l true).set r true := by
    unfold zmw
    rw [hgo, if_pos ht]
    rfl
   rw [hN]
   refine zd0.drawn (by kernel_rfl) (by kernel_rfl) (by kernel_rfl) (by intro d hd; simp [zbl] at hd ⊢; omega) ?_
   simp -implicitDefEqProofs only [go_sem, hll]
   refine zpz (by simp -implicitDefEqProofs only [go_sem]; simp) ?_
   simp -implicitDefEqProofs only [go_sem]
   rw [hsl]
   simp -implicitDefEqProofs only [go_sem, List.length_set, hrl]
   refine zpz (by simp -implicitDefEqProofs only [go_sem]; simp) ?_
   simp -implicitDefEqProofs only [go_sem]
   rw [hsr]
   refine ⟨by kernel_rfl, zad ?_⟩
   simp -implicitDefEqProofs only [go_sem]
   skip
  ·have hN : zmw S.length ⟨l, r, sp, sc⟩ j out = out := by
    unfold zmw
    rw [hgo, if_neg (by rw [hf]; simp)]
   rw [hN]
   refine zd0.skip ?_
   simp -implicitDefEqProofs only [go_sem]
   refine zad ?_
   simp -implicitDefEqProofs only [go_sem]
 ·rw [List.length_map]
  unfold ndH
  have hall := zos S.length st st.length (Nat.le_refl _)
  rw [Nat.sub_self, ndB] at hall
  rw [hall]
  simp -implicitDefEqProofs only [go_sem, Try.results85]
  skip
end Go.Proofs.Yteeaofpphmhjdaa
