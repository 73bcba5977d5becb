/-
  The walk over plain data, and contracts of functions of the program and of its laws.
  Conditions: those that each theorem names.
-/
import Derived.Test.YtmhbmpbgpjljeaaGreatQT5
import Derived.Test.YtmhbmpbgpjljeaaGreatQT4
import Derived.Sort.OwnSorted
import Derived.Sort.KeysCollected
import Derived.Sort.Walk0
import Derived.Laws.AppendOwn
import Derived.Deep.LoopGhost
import Derived.Lib.SliceRun
import Derived.Shelf.Sort.Plain
import Derived.Shelf.Slices.In.SortNone
import Derived.Shelf.Slices.CompactS
import Derived.RangeFuncNested
import Derived.RangeFuncBound
import Derived.RangeFuncCalls
import Derived.TacticsInMore
import Derived.LoopNIn
import Derived.LoopIn
import Derived.Lib.Walk
import Derived.Lib.AppendZeros
namespace Go.Proofs.YtmhbmpbgpjljeaaGreat
set_option linter.unusedSimpArgs false
set_option linter.unusedVariables false
set_option linter.unusedSectionVars false
set_option maxRecDepth 4000
open Go.RowKit
variable {P : Program} {N : Nat}
theorem zbj.cond {c : Operand} {x y : Code} {σ : St} {J : Hj} {Q : Exit -> St -> Hj -> Prop} {b : Bool} (hv : σ.get P 0 c = .one (.t (.bool b))) (ht : b = true -> zbj P N x σ J Q) (hf : b = false -> zbj P N y σ J Q) : zbj P N (.cond c x y) σ J Q := fun n0 w0 A0 g a w h1 h2 h3 => by
 obtain ⟨n1, z1, z2, z4, z5⟩ := h1.rel
 have hs := z4.get P 0 c
 rw [hv] at hs
 simp only [VR, CR, zai] at hs
 exact wp_cond_split hs (fun e => ht e n0 w0 A0 g a w h1 h2 h3) (fun e => hf e n0 w0 A0 g a w h1 h2 h3)
theorem zbj.mono {c : Code} {σ : St} {J : Hj} {Q R : Exit -> St -> Hj -> Prop} (h : ∀ e σ' J', Q e σ' J' -> R e σ' J') (k : zbj P N c σ J Q) : zbj P N c σ J R := fun n0 w0 A0 g a w h1 h2 h3 => by
 refine wp_mono (k n0 w0 A0 g a w h1 h2 h3) fun e a' w' hq => ?_
 obtain ⟨σ', r', g', k1, k2, k3, k4⟩ := hq
 exact ⟨σ', r', g', h _ _ _ k1, k2, k3, k4⟩
theorem zbj.cut : ∀ (n : Nat) {c : Code} {σ : St} {H : Hj} {Q : Exit -> St -> Hj -> Prop}, okC n c = true -> zcf N (preC n c) = true -> ex P (preC n c) [] (fun e σ' => zuu P N (sufC n c) Q e σ' H) σ -> zbj P N c σ H Q
 | 0, .seq x y, σ, H, Q, _, hd, h => zbj.seq (zbj.ofEx hd h)
 | n + 1, .seq x y, σ, H, Q, ho, hd, h => by
  simp only [preC, zcf, Bool.and_eq_true] at hd
  refine zbj.seq (zbj.mono (Q := fun e σ' r => r = H /\ zut P [.seq (preC n y)] (fun e σ' => zuu P N (sufC n y) Q e σ' H) e σ') (fun e σ' r k => ?_) (zbj.ofEx hd.1 (zck (fun e σ' k => ⟨rfl, k⟩) h)))
  obtain ⟨rfl, k⟩ := k
  cases e with
  | normal => exact zbj.cut n ho hd.2 k
  | exit i => exact k
  | goto l => exact k
  | ret => exact k
  | panic ch => exact k
  | outgrown => exact k
def Hj.wide (J : Hj) (E : Nat -> Prop) (C : World -> Prop) : Hj := ⟨J.F, fun x => J.R x \/ E x, fun w => J.I w /\ C w⟩
def zns (E : Nat -> Prop) (C : World -> Prop) : Prop := ∀ w w' : World, (∀ x, E x -> w'.heap[x]? = w.heap[x]?) -> C w -> C w'
theorem Hj.wide_good {J : Hj} {E : Nat -> Prop} {C : World -> Prop} (h : GoodJ J) (hd : ∀ x, E x -> ¬ J.F x) (hk : zns E C) : GoodJ (J.wide E C) :=
 ⟨fun x hx => hx.elim (h.dis x) (hd x), fun w w' hs hi => ⟨h.keep w w' (fun x hx => hs x (hx.elim Or.inl fun q => Or.inr (Or.inl q))) hi.1, hk w w' (fun x hx => hs x (Or.inr (Or.inr hx))) hi.2⟩⟩
theorem Hj.wide_end {J J2 : Hj} {E : Nat -> Prop} {C : World -> Prop} {w w' : World} (h : EndJ J w J2 w') (hd : ∀ x, E x -> x < w.heap.size /\ ¬ J.F x) (hk : zns E C) (hc : C w) : EndJ (J.wide E C) w (J2.wide E C) w' :=
 ⟨Hj.wide_good h.good (fun x hx hf => (h.F x hf).1.elim (hd x hx).2 fun q => by have := (hd x hx).1; omega) hk, ⟨h.I, hk w w' (fun x hx => h.bk.block x (hd x hx)) hc⟩, h.F, fun x hx => hx.elim (fun q => Or.inl (h.R x q)) Or.inr, h.bk⟩
theorem Hj.wide_drop {J J2 : Hj} {E : Nat -> Prop} {C : World -> Prop} {w w' : World} (h : EndJ (J.wide E C) w (J2.wide E C) w') (hg : GoodJ J2) (hr : ∀ x, J2.R x -> J.R x) : EndJ J w J2 w' :=
 ⟨hg, h.I.1, h.F, hr, h.bk⟩
theorem znl {n0 : Nat -> Prop} {σ : St} {g : Gh} {a : Act} {w : World} (hR : Rel n0 N σ g a w) {o : Oper} {x : Operand} {asx : Array Operand} {ts : Array TypeId} {f : FuncId} {caps : List Value} (ho : o.op = .call ⟨.value x, asx, ts⟩)
  (hc : σ.get P 0 x = .one (.t (.cl f caps))) (hf : za1 P f) : ∃ us, (execOp a.eval o).run P w = .ok (.enter f ⟨us ++ caps⟩) w /\ VRl σ g w (σ.gets P asx ts) us := by
 have hv := hR.get P 0 x
 rw [hc] at hv
 simp only [VR, CR, zai] at hv
 refine ⟨asx.toList.map a.eval, ?_, zq6 hR asx ts⟩
 unfold execOp
 simp only [ho, resolve, hv, Deferred.ofValue, invoke, Sem.run_bind, Sem.run_pure, Result.andThen]
 refine (hf _ w).trans ?_
 congr 2
 apply Array.ext'
 simp
theorem EvR.rep {w : World} {A : Nat -> Prop} {x : Ev} {v : Value} {fp : List Nat} (h : EvR w A x v fp) : zai w (fun b => A b \/ b ∈ fp) (.sl x.sz x.rows) v := by
 obtain ⟨ao, cap, rfl, h1, h2, h3⟩ := h
 unfold zai
 refine ⟨ao, cap, rfl, h1, h2, ?_⟩
 rcases h3 with ⟨_, _, h, _⟩ | ⟨b, cells, ty, fps, rfl, rfl, k1, k2, k3⟩
 ·exact Or.inl h
 ·refine Or.inr ⟨b, 0, rfl, Or.inr (by simp), ?_⟩
  split at k3
  ·exact zah.rep b cells ty k1 0 x.sz x.rows fps k3 fun q hq => Or.inr (by simp [hq])
  ·exact zaj.keep (fun _ _ => rfl) (fun q hq => Or.inl hq) b rfl 0 x.sz x.rows k3.2
theorem qi9 {n1 : Nat -> Prop} {σ : St} {J : Hj} {g : Gh} {a : Act} {w : World} (hR : Rel n1 N σ g a w) (hn : LtK n1 w) (hJ : OkJ J n1 g.A0 w) {e n : Nat} {x : Ev} (he : σ.ev e = some x) (ho : x.on = true) (hg : x.gen = n) :
  zai w (fun b => (b < w.heap.size /\ ¬ J.F b)) (.sl x.sz x.rows) (g.ψ e n) := by
 subst hg
 have hE := hR.evs e x he ho
 refine zai.keep (fun _ _ => rfl) (fun b hb => ?_) _ _ hE.rep
 rcases hb with hb | hb
 ·exact ⟨hb.2.2.1, fun hF => (hJ.F b hF).2 hb.2.2.2⟩
 ·exact ⟨hE.lt b hb, fun hF => hR.etop e ⟨x, he, ho⟩ b hb (hJ.F b hF).1⟩
end Go.Proofs.YtmhbmpbgpjljeaaGreat
namespace Go.Proofs.YtmhbmpbgpjljeaaGreat
set_option linter.unusedSimpArgs false
set_option linter.unusedVariables false
set_option linter.unusedSectionVars false
set_option maxRecDepth 4000
open Go.RowKit
def zei (b : UInt8) : Bool := decide (97 <= (b.toNat : Int)) && decide ((b.toNat : Int) <= 122)
def qch (b : UInt8) : Bool := decide (48 <= (b.toNat : Int)) && decide ((b.toNat : Int) <= 57)
def zhx (b : UInt8) : Bool := decide (65 <= (b.toNat : Int)) && decide ((b.toNat : Int) <= 90)
def zmj (b : UInt8) : Bool := zei b || qch b
abbrev uD (b : UInt8) : D := .one (.int .u8 b.toNat)
theorem zf3 (b : UInt8) : FC Tryz.prog 216 [uD b] [bD (zei b)] := by
 unfold zei
 refine zau Tryz.call216 Tryz.func216 rfl (by kernel_rfl) (za6 (by kernel_rfl)) ?_
 simp -implicitDefEqProofs only [go_sem, Tryz.results216]
 refine ⟨fun h => ?_, fun h => ?_⟩ <;> simp at h ⊢ <;> omega
theorem zoj (b : UInt8) : FC Tryz.prog 217 [uD b] [bD (qch b)] := by
 unfold qch
 refine zau Tryz.call217 Tryz.func217 rfl (by kernel_rfl) (za6 (by kernel_rfl)) ?_
 simp -implicitDefEqProofs only [go_sem, Tryz.results217]
 refine ⟨fun h => ?_, fun h => ?_⟩ <;> simp at h ⊢ <;> omega
theorem zpd (b : UInt8) : FC Tryz.prog 201 [uD b] [bD (zhx b)] := by
 unfold zhx
 refine zau Tryz.call201 Tryz.func201 rfl (by kernel_rfl) (za6 (by kernel_rfl)) ?_
 simp -implicitDefEqProofs only [go_sem, Tryz.results201]
 refine ⟨fun h => ?_, fun h => ?_⟩ <;> simp at h ⊢ <;> omega
def inB (n lo hi : Int) : Bool := decide (lo <= n) && decide (n <= hi)
theorem zlv (n lo hi : Int) : FC Tryz.prog 45 [iD n, iD lo, iD hi] [bD (inB n lo hi)] := by
 unfold inB
 refine zau Tryz.call45 Tryz.func45 rfl (by kernel_rfl) (za6 (by kernel_rfl)) ?_
 simp -implicitDefEqProofs only [go_sem, Tryz.results45]
 refine ⟨fun h => ?_, fun h => ?_⟩ <;> simp at h ⊢ <;> omega
theorem qac (n lo hi : Int) : FC Tryz.prog 37 [iD n, iD lo, iD hi] [bD (inB n lo hi)] := by
 unfold inB
 refine zau Tryz.call37 Tryz.func37 rfl (by kernel_rfl) (za6 (by kernel_rfl)) ?_
 simp -implicitDefEqProofs only [go_sem, Tryz.results37]
 refine ⟨fun h => ?_, fun h => ?_⟩ <;> simp at h ⊢ <;> omega
theorem qdk (a b : Int) : FC Tryz.prog 86 [iD a, iD b] [iD (max a b)] := by
 refine zau Tryz.call86 Tryz.func86 rfl (by kernel_rfl) (za6 (by kernel_rfl)) ?_
 simp -implicitDefEqProofs only [go_sem, Tryz.results86]
 refine ⟨fun h => ?_, fun h => ?_⟩ <;> simp at h <;> exact ztf (by omega)
theorem znf (b : UInt8) : FC Tryz.prog 198 [uD b] [bD (zmj b)] := by
 unfold zmj zei qch
 refine zau Tryz.call198 Tryz.func198 rfl (by kernel_rfl) (za6 (by kernel_rfl)) ?_
 simp -implicitDefEqProofs only [go_sem, Tryz.results198]
 simp only [T.bool.injEq, decide_eq_true_eq, decide_eq_false_iff_not]
 refine ⟨fun h => ⟨fun h2 => ⟨fun h3 => ?_, fun h3 => ?_⟩, fun h2 => ?_⟩, fun h => ⟨fun h2 => ?_, fun h2 => ?_⟩⟩ <;> simp [h, h2] <;> omega
def zqx : Str -> Bool
 | [] => true
 | c :: cs => zhx c && cs.all zmj
def za3 (s : Str) : Bool := zqx s && inB s.length 1 4
theorem zpe (s : Str) : FC Tryz.prog 167 [sD s] [bD (za3 s)] := by
 refine zci (fun hw => ?_) Tryz.call167
 have hl : s.length <= 9223372036854775807 := by simpa [zgk, wfT] using hw.1
 refine zau Tryz.call167 Tryz.func167 rfl (by kernel_rfl) (za6 (by kernel_rfl)) ?_
 simp -implicitDefEqProofs only [go_sem, Tryz.results167]
 refine zaf (fun k : Nat => hd [(0, vT (.str s)), (5, vI s.length), (6, vI k)] [] []) (fun k => k <= s.length /\ zqx s = if k = 0 then zqx s else (s.drop k).all zmj) (fun k => s.length - k) 0 (zaa ?_) ?_ ?_
 ·simp -implicitDefEqProofs only [go_sem]
 ·simp
 ·intro k ⟨hk, hr⟩
  by_cases hlt : k < s.length
  ·by_cases h0 : k = 0
   ·subst h0
    have hl0 : (0 : Int) < s.length := by omega
    have he : zqx s = (zhx (s.getD 0 0) && (s.drop 1).all zmj) := by cases s; exact absurd hlt (by simp); rfl
    simp -implicitDefEqProofs only [go_sem, hlt, hl0]
    refine callF (zpd (s.getD 0 0)) (by simp -implicitDefEqProofs only [go_sem]) ?_
    simp -implicitDefEqProofs only [go_sem]
    refine ⟨fun h => ⟨1, ⟨hlt, ?_⟩, by omega, zaa (by simp -implicitDefEqProofs only [go_sem]; rw [zbb (by omega) (by omega)])⟩, fun h => ?_⟩
    ·have : zhx (s.getD 0 0) = true := by simpa using h
     rw [he, this]; rfl
    ·have : zhx (s.getD 0 0) = false := by simpa using h
     rw [za3, he, this]; rfl
   ·have h1 : ((k : Int) == 0) = false := by simp; omega
    have h2 : (0 : Int) < k := by omega
    have hg : s.getD k 0 = s[k] := by simp [List.getD, hlt]
    rw [if_neg h0, List.drop_eq_getElem_cons hlt, List.all_cons] at hr
    simp -implicitDefEqProofs only [go_sem, hlt, h1, h2]
    refine callF (zf3 (s.getD k 0)) (by simp -implicitDefEqProofs only [go_sem]) ?_
    simp -implicitDefEqProofs only [go_sem]
    simp only [hg]
    refine ⟨fun h => ⟨hlt, ?_⟩, fun h => ?_⟩
    ·refine callF (zoj s[k]) (by simp -implicitDefEqProofs only [go_sem]) ?_
     simp -implicitDefEqProofs only [go_sem]
     refine ⟨fun h' => ?_, fun h' => ⟨k + 1, ⟨hlt, ?_⟩, by omega, zaa (by simp -implicitDefEqProofs only [go_sem]; rw [zam (by omega)])⟩⟩
     ·have : zmj s[k] = false := by simp [zmj]; simp at h h'; exact ⟨h, h'⟩
      simp [za3, hr, this]
     ·have : zmj s[k] = true := by simp [zmj]; right; simpa using h'
      rw [hr, this]; simp
    ·refine ⟨k + 1, ⟨hlt, ?_⟩, by omega, zaa (by simp -implicitDefEqProofs only [go_sem]; rw [zam (by omega)])⟩
     have : zmj s[k] = true := by simp [zmj]; left; simpa using h
     rw [hr, this]; simp
  ·simp -implicitDefEqProofs only [go_sem, hlt]
   refine callF (zlv s.length 1 4) (by simp -implicitDefEqProofs only [go_sem]) ?_
   simp -implicitDefEqProofs only [go_sem]
   have : zqx s = true := by
    by_cases h0 : k = 0
    ·have : s = [] := List.length_eq_zero_iff.1 (by omega)
     rw [this]; rfl
    ·rw [hr, if_neg h0, List.drop_of_length_le (by omega)]; rfl
   simp [za3, this]
end Go.Proofs.YtmhbmpbgpjljeaaGreat
namespace Go.Proofs.YtmhbmpbgpjljeaaGreat
set_option linter.unusedSimpArgs false
set_option linter.unusedVariables false
set_option linter.unusedSectionVars false
set_option maxRecDepth 4000
open Go.RowKit
abbrev strS (xs : List Str) : T := .sl 1 (xs.map fun s => [.str s])
theorem zy6 {α : Type} [BEq α] [LawfulBEq α] {xs : List α} {s : α} {k : Nat} (hk : k < xs.length) (hn : s ∉ xs.take k) (e : xs[k] = s) : xs.idxOf s = k := by
 have h : xs = xs.take k ++ xs.drop k := (List.take_append_drop k xs).symm
 rw [List.drop_eq_getElem_cons hk] at h
 rw [h, List.idxOf_append, if_neg hn, e]
 rw [show (s :: xs.drop (k + 1)).idxOf s = 0 from List.idxOf_cons_self ..]
 simp; omega
theorem zmi {α : Type} {xs : List α} {s : α} {k : Nat} (hk : k < xs.length) (hn : s ∉ xs.take k) (e : xs[k] ≠ s) : s ∉ xs.take (k + 1) := by
 rw [List.take_succ_eq_append_getElem hk]
 simp only [List.mem_append, List.mem_singleton, not_or]
 exact ⟨hn, fun h => e h.symm⟩
def idxS {α : Type} [BEq α] (xs : List α) (s : α) : Int := if xs.contains s then xs.idxOf s else -1
theorem zug (xs : List Str) (s : Str) : FC Tryz.prog 241 [.one (strS xs), sD s] [iD (idxS xs s)] := by
 refine zci (fun hw => ?_) Tryz.call241
 have hl : xs.length <= 9223372036854775807 := by simpa [zgk, wfT] using hw.1.1
 refine zau Tryz.call241 Tryz.func241 rfl (by kernel_rfl) (za6 (by kernel_rfl)) ?_
 simp -implicitDefEqProofs only [go_sem, Tryz.results241]
 refine zaf (fun k : Nat => hd [(0, vT (strS xs)), (1, vT (.str s)), (7, vI xs.length), (8, vI k)] [] []) (fun k => k <= xs.length /\ s ∉ xs.take k) (fun k => xs.length - k) 0 (zaa ?_) ?_ ?_
 ·simp -implicitDefEqProofs only [go_sem]
 ·simp
 ·intro k ⟨hk, hr⟩
  by_cases hlt : k < xs.length
  ·simp -implicitDefEqProofs only [go_sem, zad, hlt]
   refine ⟨fun h => ?_, fun h => ?_⟩
   ·have e : xs[k] = s := (beq_iff_eq.1 h).symm
    have hm : s ∈ xs := e ▸ List.getElem_mem hlt
    rw [idxS, if_pos (by simpa using hm), zy6 hlt hr e]
   ·have e : xs[k] ≠ s := fun e => by simp [e] at h
    exact ⟨k + 1, ⟨hlt, zmi hlt hr e⟩, by omega, zaa (by simp -implicitDefEqProofs only [go_sem]; rw [zam (by omega)])⟩
  ·simp -implicitDefEqProofs only [go_sem, hlt]
   rw [List.take_of_length_le (by omega)] at hr
   rw [idxS, if_neg (by simpa using hr)]
theorem zlf (xs : List Str) (s : Str) : FC Tryz.prog 218 [.one (strS xs), sD s] [bD (xs.contains s)] := by
 refine zau Tryz.call218 Tryz.func218 rfl (by kernel_rfl) (za6 (by kernel_rfl)) ?_
 simp -implicitDefEqProofs only [go_sem, Tryz.results218]
 refine callF (zug xs s) (by simp -implicitDefEqProofs only [go_sem]) ?_
 simp -implicitDefEqProofs only [go_sem]
 unfold idxS
 cases h : xs.contains s <;> simp
def zp7 : List Str := [[116, 114, 117, 101], [102, 97, 108, 115, 101], [116, 114, 117, 116, 104], [98, 111, 116, 104], [101, 105, 116, 104, 101, 114], [105, 102], [97, 108, 108], [115, 111, 109, 101]]
theorem zvo : FC Tryz.prog 219 [] [.one (strS zp7)] := by
 refine zau Tryz.call219 Tryz.func219 rfl (by kernel_rfl) (za6 (by kernel_rfl)) ?_
 simp -implicitDefEqProofs only [go_sem, Tryz.results219]
 refine zb6 (by simp -implicitDefEqProofs only [go_sem]) ?_
 simp -implicitDefEqProofs only [go_sem]
 rfl
def zl3 (b : UInt8) : Bool := zmj b || b == 95
def zjf : Str -> Bool
 | [] => true
 | c :: cs => zei c && cs.all zl3
def zbx (s : Str) : Bool := zjf s && inB s.length 1 6 && !zp7.contains s
theorem qhc {b : UInt8} {n : Nat} (hn : n < 256) : ((b.toNat : Int) == (n : Int)) = (b == UInt8.ofNat n) := by
 rw [Bool.eq_iff_iff]
 simp only [beq_iff_eq]
 constructor
 ·intro h
  apply UInt8.toNat_inj.1
  simp [UInt8.toNat_ofNat]
  omega
 ·intro h
  subst h
  simp [UInt8.toNat_ofNat]
  omega
theorem zkv (s : Str) : FC Tryz.prog 168 [sD s] [bD (zbx s)] := by
 refine zci (fun hw => ?_) Tryz.call168
 have hl : s.length <= 9223372036854775807 := by simpa [zgk, wfT] using hw.1
 refine zau Tryz.call168 Tryz.func168 rfl (by kernel_rfl) (za6 (by kernel_rfl)) ?_
 simp -implicitDefEqProofs only [go_sem, Tryz.results168]
 refine zaf (fun k : Nat => hd [(0, vT (.str s)), (5, vI s.length), (6, vI k)] [] []) (fun k => k <= s.length /\ zjf s = if k = 0 then zjf s else (s.drop k).all zl3) (fun k => s.length - k) 0 (zaa ?_) ?_ ?_
 ·simp -implicitDefEqProofs only [go_sem]
 ·simp
 ·intro k ⟨hk, hr⟩
  by_cases hlt : k < s.length
  ·by_cases h0 : k = 0
   ·subst h0
    have hl0 : (0 : Int) < s.length := by omega
    have he : zjf s = (zei (s.getD 0 0) && (s.drop 1).all zl3) := by cases s; exact absurd hlt (by simp); rfl
    simp -implicitDefEqProofs only [go_sem, hlt, hl0]
    refine callF (zf3 (s.getD 0 0)) (by simp -implicitDefEqProofs only [go_sem]) ?_
    simp -implicitDefEqProofs only [go_sem]
    refine ⟨fun h => ⟨hl0, ?_⟩, fun h => ?_⟩
    ·have hi : zei (s.getD 0 0) = true := by simpa using h
     refine callF (zf3 (s.getD 0 0)) (by simp -implicitDefEqProofs only [go_sem, hi]) ?_
     simp -implicitDefEqProofs only [go_sem, hi]
     refine ⟨1, ⟨hlt, ?_⟩, by omega, zaa (by simp -implicitDefEqProofs only [go_sem]; rw [zbb (by omega) (by omega)])⟩
     rw [he, hi]; rfl
    ·have : zei (s.getD 0 0) = false := by simpa using h
     rw [zbx, he, this]; rfl
   ·have h1 : ((k : Int) == 0) = false := by simp; omega
    have h2 : (0 : Int) < k := by omega
    have hg : s.getD k 0 = s[k] := by simp [List.getD, hlt]
    rw [if_neg h0, List.drop_eq_getElem_cons hlt, List.all_cons] at hr
    simp -implicitDefEqProofs only [go_sem, hlt, h1, h2]
    refine callF (zf3 (s.getD k 0)) (by simp -implicitDefEqProofs only [go_sem]) ?_
    simp -implicitDefEqProofs only [go_sem]
    simp only [hg]
    refine ⟨fun h => ⟨hlt, ?_⟩, fun h => ?_⟩
    ·refine callF (zoj s[k]) (by simp -implicitDefEqProofs only [go_sem]) ?_
     simp -implicitDefEqProofs only [go_sem]
     simp only [hg]
     refine ⟨fun h' => ⟨hlt, fun h'' => ?_, fun h'' => ⟨k + 1, ⟨hlt, ?_⟩, by omega, zaa (by simp -implicitDefEqProofs only [go_sem]; rw [zam (by omega)])⟩⟩, fun h' => ⟨k + 1, ⟨hlt, ?_⟩, by omega, zaa (by simp -implicitDefEqProofs only [go_sem]; rw [zam (by omega)])⟩⟩
     ·have : zl3 s[k] = false := by
       have := qhc (b := s[k]) (n := 95) (by omega)
       simp [zl3, zmj] at h h' ⊢
       refine ⟨⟨h, h'⟩, fun e => ?_⟩
       rw [e] at h''
       simp at h''
      rw [zbx, hr, this]; rfl
     ·have : zl3 s[k] = true := by
       have := qhc (b := s[k]) (n := 95) (by omega)
       simp [zl3] at h'' ⊢
       right
       simpa [h''] using this
      rw [hr, this]; rfl
     ·have : zl3 s[k] = true := by simp [zl3, zmj]; simp at h'; simp [h']
      rw [hr, this]; rfl
    ·refine ⟨k + 1, ⟨hlt, ?_⟩, by omega, zaa (by simp -implicitDefEqProofs only [go_sem]; rw [zam (by omega)])⟩
     have : zl3 s[k] = true := by simp [zl3, zmj]; simp at h; simp [h]
     rw [hr, this]; rfl
  ·simp -implicitDefEqProofs only [go_sem, hlt]
   refine callF (zlv s.length 1 6) (by simp -implicitDefEqProofs only [go_sem]) ?_
   simp -implicitDefEqProofs only [go_sem]
   have ha : zjf s = true := by
    by_cases h0 : k = 0
    ·have : s = [] := List.length_eq_zero_iff.1 (by omega)
     rw [this]; rfl
    ·rw [hr, if_neg h0, List.drop_of_length_le (by omega)]; rfl
   refine ⟨fun h => ?_, fun h => ?_⟩
   ·refine callF (zvo) (by simp -implicitDefEqProofs only [go_sem]) ?_
    simp -implicitDefEqProofs only [go_sem]
    refine callF (zlf zp7 s) (by simp -implicitDefEqProofs only [go_sem]) ?_
    simp -implicitDefEqProofs only [go_sem]
    rw [zbx, ha, h]; rfl
   ·rw [zbx, ha, h]; rfl
end Go.Proofs.YtmhbmpbgpjljeaaGreat
namespace Go.Proofs.YtmhbmpbgpjljeaaGreat
set_option linter.unusedSimpArgs false
set_option linter.unusedVariables false
set_option linter.unusedSectionVars false
set_option maxRecDepth 4000
open Go.RowKit Go.Sort Go.Proofs
variable {P : Program}
structure CloneOf (P : Program) (f : FuncId) (sz bytes : Nat) : Prop where
 call : za1 P f
 old : ∀ (ad : Addr) (n c : Nat) (news : List Value) (w : World), news.length = n * sz -> n <= maxLen -> n * bytes <= 140737488355328 -> (∀ j u, news[j]? = some u -> w.cell? (ad.add j) = some u) -> (∀ u ∈ news, u.oneCell' = true) →
  Calls P f #[.slice (some ad) n c] w fun e w' => ∃ t v', e = .returned v' /\ w'.ownsRow w.heap.size t sz v' n news /\ v' ≠ .slice none 0 0 /\ Below w.heap.size w w'
 none : ∀ (n c : Nat) (w : World), Calls P f #[.slice none n c] w fun e w' => e = .returned (.slice none 0 0) /\ w' = w
theorem zaj.valsA {w : World} {A : Nat -> Prop} {b sz : Nat} {rows : List (List T)} {o : Nat} (h : zaj w A b o sz rows) : ∃ vs, vs.length = rows.length * sz /\ (∀ j u, vs[j]? = some u -> w.cell? ⟨b, o + j, none⟩ = some u) /\ zac w A rows.flatten vs /\ lens sz rows := by
 obtain ⟨h1, vs, h2, h3, h4⟩ := h.vals
 exact ⟨vs, h2, h3, h4, h1⟩
theorem zwk {f : FuncId} {sz bytes : Nat} (h : CloneOf P f sz bytes) (rows : List (List T)) (hb : rows.length * bytes <= 140737488355328) {w : World} {A : Nat -> Prop} {v : Value} (h1 : zai w A (.sl sz rows) v) :
  Calls P f #[v] w fun e w' => ∃ v', e = .returned v' /\ Below w.heap.size w w' /\ ((v' = .slice none 0 0 /\ rows = []) \/ ∃ g cap cur ty vs, v' = .slice (some ⟨g, 0, none⟩) rows.length cap /\ w.heap.size <= g /\ w'.heap[g]? = some (.cells cur ty (0, 0)) /\ rows.length <= cap /\ cap <= zdi /\ cur.size = cap * sz /\ cur.toList.take (rows.length * sz) = vs /\ zac w A rows.flatten vs /\ lens sz rows) := by
 unfold zai at h1
 obtain ⟨ao, cap, rfl, q1, q2, q3⟩ := h1
 cases ao with
 | none =>
  have hr : rows = [] := q3.resolve_right fun ⟨b, o, e, _⟩ => by cases e
  refine (h.none rows.length cap w).mono ?_
  rintro e w' ⟨rfl, rfl⟩
  exact ⟨_, rfl, Below.refl _ _, Or.inl ⟨rfl, hr⟩⟩
 | some ad =>
  have hx : ∃ news : List Value, news.length = rows.length * sz /\ (∀ j u, news[j]? = some u -> w.cell? (ad.add j) = some u) /\ zac w A rows.flatten news /\ lens sz rows := by
   rcases q3 with rfl | ⟨b', o', e, _, q4⟩
   ·exact ⟨[], by simp, fun j u hj => by simp at hj, by unfold zac; rfl, fun r hr => by simp at hr⟩
   ·cases e
    obtain ⟨news, k1, k2, k3, k4⟩ := q4.valsA
    exact ⟨news, k1, fun j u hj => by rw [zdb]; exact k2 j u hj, k3, k4⟩
  obtain ⟨news, k1, k2, k3, k4⟩ := hx
  refine (h.old ad rows.length cap news w k1 (by unfold maxLen; have := q2; unfold zdi at this; omega) hb k2 k3.one).mono ?_
  rintro e w' ⟨t, v', rfl, ⟨o1, o2⟩, hn, hbel⟩
  refine ⟨v', rfl, hbel, Or.inr ?_⟩
  rcases o2 with ⟨e, _⟩ | ⟨g, cap', cur, e, p1, p2, p3, p4, p5, p6⟩
  ·exact absurd e hn
  ·exact ⟨g, cap', cur, t, news, e, p1, p2, p3, by unfold maxLen at p4; omega, p5, p6, k3, k4⟩
theorem qgy {cur : Array Value} {vs : List Value} {n : Nat} (h : cur.toList.take n = vs) : ∀ j u, vs[j]? = some u -> cur[0 + j]? = some u := fun j u hu => by
 rw [<- h, List.getElem?_take] at hu
 split at hu
 ·simpa using hu
 ·cases hu
theorem qdl {f : FuncId} {sz bytes : Nat} (h : CloneOf P f sz bytes) (rows : List (List T)) (hb : rows.length * bytes <= 140737488355328) (hf : ∀ c ∈ rows.flatten, c.flat = true) : FC P f [.one (.sl sz rows)] [.one (.sl sz rows)] := by
 refine ⟨h.call, fun w vs fp tp hv hn => ?_⟩
 obtain ⟨hr, rfl, rfl⟩ := zb1 hv
 obtain ⟨v, _, rfl, h1, rfl⟩ := hr
 refine (zwk h rows hb h1).mono ?_
 rintro e w' ⟨v', rfl, hbel, hh⟩
 have hB : Bk (fun k => k < w.heap.size /\ k ∉ ([] : List Nat)) w w' := ⟨hbel.os, hbel.tape, hbel.output, hbel.size, fun k hk => hbel.block k hk.1⟩
 rcases hh with ⟨rfl, hr⟩ | ⟨g, cap, cur, ty, vs, rfl, p1, p2, p3, p4, p5, p6, p7, p8⟩
 ·subst hr
  refine ⟨[_], [], [], rfl, ⟨_, [], [], [], [], [], rfl, rfl, rfl, ⟨?_, rfl⟩, rfl, rfl, rfl⟩, List.nodup_nil, by simp, hB⟩
  unfold zao
  exact ⟨Option.none, 0, rfl, Nat.le_refl _, by simp, Or.inl ⟨rfl, rfl, rfl, rfl⟩⟩
 ·refine ⟨[_], [g], [g], rfl, ⟨_, [], [g], [], [g], [], rfl, rfl, rfl, ⟨?_, rfl⟩, rfl, rfl, rfl⟩, by simp, fun b hb => by rw [List.mem_singleton.1 hb]; exact Or.inr p1, hB⟩
  unfold zao
  refine ⟨_, cap, rfl, p3, p4, Or.inr ⟨g, cur, ty, [], rfl, rfl, p2, p5, ?_⟩⟩
  have hown := zac.own p7 hf
  exact zah.of_vals p8 (zas.keep hown fun b hb => by simp at hb) fun j u hu => qgy p6 j u hu
theorem zzi (a b : Str) : Op.bytesLess a b = decide (a < b) := bytesLess_eq a b
theorem zpi (a : Str) : ¬ a < a := List.lt_irrefl a
end Go.Proofs.YtmhbmpbgpjljeaaGreat
namespace Go.Proofs.YtmhbmpbgpjljeaaGreat
set_option linter.unusedSimpArgs false
set_option linter.unusedVariables false
set_option linter.unusedSectionVars false
set_option maxRecDepth 4000
open Go.RowKit
theorem Tm.wt_args {a : Tm} {n : Nat} (h : a.wt <= n) : a.args.length <= n /\ ∀ x ∈ a.args, x.wt <= n := by
 have e := Tm.wt_eq a
 refine ⟨by omega, fun x hx => ?_⟩
 have := zcr Tm.wt a.args x hx
 omega
set_option maxRecDepth 10000 in
theorem zhf (xs : List Tm) (H : ∀ x ∈ xs, FC Tryz.prog 159 [tmD x] [tmD x]) (hs : xs.length <= 1048576) :
  FC Tryz.prog 97 [.one (tmS xs)] [.one (tmS xs)] := by
 by_cases h0 : xs = []
 ·subst h0
  refine zau Tryz.call97 Tryz.func97 rfl (by kernel_rfl) (za6 (by kernel_rfl)) ?_
  simp -implicitDefEqProofs only [go_sem, Tryz.results97]
 ·have hp : ((xs.length : Int) == 0) = false := by
   have : 0 < xs.length := List.length_pos_iff.2 h0
   simp; omega
  refine zau Tryz.call97 Tryz.func97 rfl (by kernel_rfl) (za6 (by kernel_rfl)) ?_
  simp -implicitDefEqProofs only [go_sem, Tryz.results97, hp]
  refine qdb (by simp -implicitDefEqProofs only [go_sem]; omega) ?_
  simp -implicitDefEqProofs only [go_sem]
  refine zaf (fun k : Nat => hd [(12, vT (tmS xs)), (13, vI xs.length), (3, .one (.ow 352 0)), (14, vI k)] [] [(352, ⟨true, 2, (xs.take k).map tmC ++ List.replicate (xs.length - k) [T.str [], T.sl 2 []], 0, true⟩)]) (fun k => k <= xs.length) (fun k => xs.length - k) 0 (zaa ?_) ?_ ?_
  ·simp -implicitDefEqProofs only [go_sem]
   simp
  ·simp
  ·intro k hk
   by_cases hlt : k < xs.length
   ·have hlen : ((xs.take k).map tmC ++ List.replicate (xs.length - k) [T.str [], T.sl 2 []]).length = xs.length := by simp; omega
    have hlt2 : k < k + (xs.length - k) := by omega
    simp -implicitDefEqProofs only [go_sem, List.length_map, zad, hlt, zab]
    refine callF (H xs[k] (List.getElem_mem hlt)) (by simp -implicitDefEqProofs only [go_sem, zab, hlen, hlt, List.length_append, List.length_map, List.length_take, List.length_replicate, Nat.min_eq_left hk, hlt2]) ?_
    simp -implicitDefEqProofs only [go_sem, zab, hlen, hlt, List.length_append, List.length_map, List.length_take, List.length_replicate, Nat.min_eq_left hk, hlt2]
    refine zhp (by simp -implicitDefEqProofs only [go_sem]; simp) ?_
    simp -implicitDefEqProofs only [go_sem]
    rw [zam (by omega)]
    refine ⟨k + 1, by omega, by omega, zaa ?_⟩
    simp -implicitDefEqProofs only [go_sem]
    have hf := zf2 ((xs.take k).map tmC) xs.length k [T.str [], T.sl 2 []] (tmC xs[k]) (by simp; omega) hlt (by simp [zab])
    simp only [zab] at hf
    rw [hf, List.take_succ_eq_append_getElem hlt, List.map_append, List.map_singleton]
    simp only [zab]
   ·simp -implicitDefEqProofs only [go_sem, List.length_map, hlt]
    simp [List.take_of_length_le (show xs.length <= k by omega), show xs.length - k = 0 by omega]
theorem zqq (a : Tm) (H : FC Tryz.prog 97 [.one (tmS a.args)] [.one (tmS a.args)]) : FC Tryz.prog 159 [tmD a] [tmD a] := by
 simp only [tmD, zab a]
 refine zau Tryz.call159 Tryz.func159 rfl (by kernel_rfl) (za6 (by kernel_rfl)) ?_
 simp -implicitDefEqProofs only [go_sem, Tryz.results159]
 refine drawn (by kernel_rfl) ?_
 simp -implicitDefEqProofs only [go_sem]
 refine zay (H) (by simp -implicitDefEqProofs only [go_sem]) ?_
 simp -implicitDefEqProofs only [go_sem]
 kernel_rfl
theorem qd2 (a : Tm) (H : ∀ x ∈ a.args, FC Tryz.prog 43 [tmD x] [tmD x]) (hs : a.args.length <= 1048576) : FC Tryz.prog 43 [tmD a] [tmD a] := by
 simp only [tmD, zab a]
 refine zau Tryz.call43 Tryz.func43 rfl (by kernel_rfl) (za6 (by kernel_rfl)) ?_
 simp -implicitDefEqProofs only [go_sem, Tryz.results43]
 refine zaf (fun k : Nat => hd [(1, .one (.bx 1 0)), (2, .one (.bx 2 0)), (3, .one (.bx 3 0)), (4, vI k)] [(1, [.t (.str a.name), .t (tmS a.args)]), (2, [.t (.str []), .nl 2]), (3, [.t (.str a.name), .ow 3000 0])] [(3000, ⟨true, 2, (a.args.take k).map tmC, 0, true⟩)]) (fun k => k <= a.args.length) (fun k => a.args.length - k) 0 (zaa ?_) ?_ ?_
 ·simp -implicitDefEqProofs only [go_sem]
 ·simp
 ·intro k hk
  by_cases hlt : k < a.args.length
  ·simp -implicitDefEqProofs only [go_sem, hlt]
   refine drawn (by kernel_rfl) ?_
   have hmin : min k a.args.length <= 4294967295 := by omega
   simp -implicitDefEqProofs only [go_sem, zad, hlt, zab]
   refine zay (H a.args[k] (List.getElem_mem hlt)) (by simp -implicitDefEqProofs only [go_sem, zab]) ?_
   simp -implicitDefEqProofs only [go_sem, zab]
   refine zc8 (by simp -implicitDefEqProofs only [go_sem]) ?_
   simp -implicitDefEqProofs only [go_sem]
   refine zfs true (by simp -implicitDefEqProofs only [go_sem, ne_eq, List.length_map, List.length_take, hmin]) ?_
   simp -implicitDefEqProofs only [go_sem, ne_eq, List.length_map, List.length_take, hmin]
   refine ⟨by kernel_rfl, k + 1, hlt, by omega, zaa ?_⟩
   simp -implicitDefEqProofs only [go_sem]
   rw [zam (by omega), List.take_succ_eq_append_getElem hlt, List.map_append, List.map_singleton]
   simp only [zab]
   trivial
  ·have ht : a.args.take k = a.args := List.take_of_length_le (by omega)
   simp -implicitDefEqProofs only [go_sem, hlt, ht]
theorem zu8 : ∀ a : Tm, a.wt <= 1048576 -> FC Tryz.prog 159 [tmD a] [tmD a] :=
 zbi fun n xs ih hs => by
  obtain ⟨h1, h2⟩ := Tm.wt_args hs
  exact zqq (.mk n xs) (zhf xs (fun x hx => ih x hx (h2 x hx)) h1)
theorem zpn (xs : List Tm) (hs : zms xs <= 1048576) : FC Tryz.prog 97 [.one (tmS xs)] [.one (tmS xs)] := by
 have e : zms xs = xs.length + (xs.map Tm.wt).sum := rfl
 exact zhf xs (fun x hx => zu8 x (by have := zcr Tm.wt xs x hx; omega)) (by omega)
theorem qgr : ∀ a : Tm, a.wt <= 1048576 -> FC Tryz.prog 43 [tmD a] [tmD a] :=
 zbi fun n xs ih hs => by
  obtain ⟨h1, h2⟩ := Tm.wt_args hs
  exact qd2 (.mk n xs) (fun x hx => ih x hx (h2 x hx)) h1
end Go.Proofs.YtmhbmpbgpjljeaaGreat
namespace Go.Proofs.YtmhbmpbgpjljeaaGreat
set_option linter.unusedSimpArgs false
set_option linter.unusedVariables false
set_option linter.unusedSectionVars false
set_option maxRecDepth 4000
open Go.RowKit
theorem qg6 {P : Program} {t : TypeId} {n b : Nat} {z : List C} (h1 : zba P t = some n) (h2 : zc0 P t = some b) (h3 : zcq P t = some z) (h4 : z.length = n) : ∃ i0 zv, P.info? t = some i0 /\ i0.zero = some zv /\ zv.cells.size = n /\ i0.size = n /\ i0.bytes = b := by
 unfold zba at h1
 unfold zc0 at h2
 unfold zcq at h3
 cases hi : P.info? t with
 | none => rw [hi] at h1; cases h1
 | some i =>
  rw [hi] at h1 h2 h3
  simp only [Option.map_some, Option.some.injEq] at h1 h2
  simp only [Option.bind_some] at h3
  cases hz : i.zero with
  | none => rw [hz] at h3; cases h3
  | some zv =>
   rw [hz] at h3
   simp only [Option.map_some, Option.some.injEq] at h3
   refine ⟨i, zv, rfl, hz, ?_, h1, h2⟩
   rw [<- h4, <- h3]; simp
end Go.Proofs.YtmhbmpbgpjljeaaGreat
namespace Go.Proofs.YtmhbmpbgpjljeaaGreat
set_option linter.unusedSimpArgs false
set_option linter.unusedVariables false
set_option linter.unusedSectionVars false
set_option maxRecDepth 4000
open Go.RowKit
def zjp (w : World) (A : Nat -> Prop) (r : List T) (t : Tm) : Prop := ∃ ao l c, r = [.str t.name, .vs ao l c] /\ zai w A (tmS t.args) (.slice ao l c)
def zbp (w : World) (A : Nat -> Prop) : List (List T) -> List Tm -> Prop
 | [], l => l = []
 | r :: rs, l => ∃ t ts, l = t :: ts /\ zjp w A r t /\ zbp w A rs ts
theorem zjp.keep {w w' : World} {A A' : Nat -> Prop} (hs : ∀ b, A b -> w'.heap[b]? = w.heap[b]?) (ha : ∀ b, A b -> A' b) {r : List T} {t : Tm} (h : zjp w A r t) : zjp w' A' r t := by
 obtain ⟨ao, l, c, h1, h2⟩ := h
 exact ⟨ao, l, c, h1, zai.keep hs ha _ _ h2⟩
theorem zbp.keep {w w' : World} {A A' : Nat -> Prop} (hs : ∀ b, A b -> w'.heap[b]? = w.heap[b]?) (ha : ∀ b, A b -> A' b) : ∀ {rs : List (List T)} {ts : List Tm}, zbp w A rs ts -> zbp w' A' rs ts
 | [], _, h => h
 | _ :: _, _, h => by obtain ⟨t, ts, rfl, h1, h2⟩ := h; exact ⟨t, ts, rfl, h1.keep hs ha, zbp.keep hs ha h2⟩
theorem zbp.len {w : World} {A : Nat -> Prop} : ∀ {rs : List (List T)} {ts : List Tm}, zbp w A rs ts -> rs.length = ts.length
 | [], _, h => by rw [show _ = [] from h]; rfl
 | _ :: _, _, h => by obtain ⟨t, ts, rfl, h1, h2⟩ := h; simp [zbp.len h2]
theorem zbp.at {w : World} {A : Nat -> Prop} : ∀ {rs : List (List T)} {ts : List Tm}, zbp w A rs ts -> ∀ i (h1 : i < rs.length) (h2 : i < ts.length), zjp w A rs[i] ts[i]
 | [], _, _, i, h1, _ => by simp at h1
 | _ :: _, _, h, i, h1, h2 => by
  obtain ⟨t, ts, rfl, k1, k2⟩ := h
  cases i with
  | zero => exact k1
  | succ i => exact zbp.at k2 i (by simpa using h1) (by simpa using h2)
theorem zbp.snoc {w : World} {A : Nat -> Prop} {r : List T} {t : Tm} (k : zjp w A r t) : ∀ {rs : List (List T)} {ts : List Tm}, zbp w A rs ts -> zbp w A (rs ++ [r]) (ts ++ [t])
 | [], _, h => by rw [show _ = [] from h]; exact ⟨t, [], rfl, k, rfl⟩
 | _ :: _, _, h => by obtain ⟨t', ts, rfl, h1, h2⟩ := h; exact ⟨t', _, rfl, h1, zbp.snoc k h2⟩
theorem zbp.flat {w : World} {A : Nat -> Prop} : ∀ {rs : List (List T)} {ts : List Tm}, zbp w A rs ts -> ∀ c ∈ rs.flatten, c.flat = true
 | [], _, _, c, hc => by simp at hc
 | _ :: _, _, h, c, hc => by
  obtain ⟨t', ts, rfl, ⟨ao, l, cc, rfl, _⟩, h2⟩ := h
  simp only [List.flatten_cons, List.cons_append, List.nil_append, List.mem_cons] at hc
  rcases hc with rfl | rfl | hc
  ·rfl
  ·rfl
  ·exact zbp.flat h2 c hc
theorem zjx {w : World} {A : Nat -> Prop} {b : Nat} : ∀ (l : List Tm) (o : Nat), zaj w A b o 2 (l.map tmC) -> ∃ fl, zaj w A b o 2 fl /\ zbp w A fl l
 | [], _, _ => ⟨[], by unfold zaj; trivial, rfl⟩
 | t :: l, o, h => by
  rw [List.map_cons, zaj] at h
  obtain ⟨_, h2, h3⟩ := h
  obtain ⟨fl, k1, k2⟩ := zjx l (o + 2) h3
  rw [zab] at h2
  simp only [za4] at h2
  obtain ⟨⟨v1, c1, r1⟩, ⟨v2, c2, r2⟩, _⟩ := h2
  have r2' := r2
  unfold zai at r2'
  obtain ⟨ao, cap, rfl, _⟩ := r2'
  refine ⟨[.str t.name, .vs ao _ cap] :: fl, ?_, t, l, rfl, ⟨ao, _, cap, rfl, r2⟩, k2⟩
  rw [zaj]
  refine ⟨rfl, ?_, k1⟩
  simp only [za4]
  exact ⟨⟨v1, c1, r1⟩, ⟨_, c2, by unfold zai; rfl⟩, trivial⟩
theorem zob {w : World} {A A' A'' : Nat -> Prop} (h1 : ∀ b, A b -> A'' b) (h2 : ∀ b, A' b -> A'' b) {b : Nat} : ∀ (fl : List (List T)) (l : List Tm) (o : Nat), zaj w A b o 2 fl -> zbp w A' fl l -> zaj w A'' b o 2 (l.map tmC)
 | [], l, o, _, h => by rw [show l = [] from h, List.map_nil, zaj]; trivial
 | r :: fl, l, o, h, k => by
  obtain ⟨t, ts, rfl, ⟨ao, n, c, rfl, k1⟩, k2⟩ := k
  rw [zaj] at h
  obtain ⟨_, h4, h5⟩ := h
  rw [List.map_cons, zaj]
  refine ⟨by rw [zab]; rfl, ?_, zob h1 h2 fl ts (o + 2) h5 k2⟩
  rw [zab]
  simp only [za4] at h4 ⊢
  obtain ⟨⟨v1, c1, r1⟩, ⟨v2, c2, r2⟩, _⟩ := h4
  unfold zai at r2
  subst r2
  exact ⟨⟨v1, c1, zai.keep (fun _ _ => rfl) h1 _ _ r1⟩, ⟨_, c2, zai.keep (fun _ _ => rfl) h2 _ _ k1⟩, trivial⟩
theorem zai.flatL {w : World} {A : Nat -> Prop} {l : List Tm} {v : Value} (h : zai w A (tmS l) v) : ∃ fl, zai w A (.sl 2 fl) v /\ zbp w A fl l := by
 unfold zai at h
 obtain ⟨ao, cap, rfl, h1, h2, h3⟩ := h
 rw [List.length_map] at h1
 rcases h3 with h3 | ⟨b, o, rfl, h4, h5⟩
 ·have e : l = [] := List.map_eq_nil_iff.1 h3
  subst e
  exact ⟨[], by unfold zai; exact ⟨ao, cap, rfl, Nat.zero_le _, h2, Or.inl rfl⟩, rfl⟩
 ·obtain ⟨fl, k1, k2⟩ := zjx l o h5
  refine ⟨fl, ?_, k2⟩
  unfold zai
  exact ⟨_, cap, by rw [k2.len, List.length_map], by rw [k2.len]; exact h1, h2, Or.inr ⟨b, o, rfl, h4, k1⟩⟩
theorem zai.deepL {w : World} {A A' A'' : Nat -> Prop} (h1 : ∀ b, A b -> A'' b) (h2 : ∀ b, A' b -> A'' b) {fl : List (List T)} {l : List Tm} {v : Value} (h : zai w A (.sl 2 fl) v) (k : zbp w A' fl l) : zai w A'' (tmS l) v := by
 unfold zai at h ⊢
 obtain ⟨ao, cap, rfl, q1, q2, q3⟩ := h
 have e := k.len
 refine ⟨ao, cap, by rw [List.length_map, e], by rw [List.length_map, <- e]; exact q1, q2, ?_⟩
 rcases q3 with rfl | ⟨b, o, rfl, h4, h5⟩
 ·have : l = [] := k
  subst this
  exact Or.inl rfl
 ·exact Or.inr ⟨b, o, rfl, h1 b h4, zob h1 h2 fl l o h5 k⟩
set_option maxHeartbeats 1000000 in
theorem zzn : CloneOf Tryz.prog 158 2 40 := by
 have t22 := Tryz.underlying31
 have q22 : ∀ (w : World) (a : Option Addr) (n c n' c' : Nat), (binOp .eql 31 (.slice a n c) (.slice none n' c')).run Tryz.prog w = .ok (.bool a.isNone) w := fun w a n c n' c' => Lib.run_eql_slice_nil w _ _ a n c n' c' t22
 have u22 : ∀ w, Sem.run Tryz.prog (underlying 31) w = .ok (TypeDesc.slice 74) w := run_underlying t22
 refine ⟨Tryz.call158, fun ad n c news w hl hn hbig hc h1 => ?_, fun n c w => ?_⟩
 ·have A : Aside (∀ j u, news[j]? = some u -> w.cell? (ad.add j) = some u) := hc
  clear hc
  obtain ⟨i0, z, hi, hz0, hzs, hz1, hz2⟩ := qg6 (P := Tryz.prog) (t := 74) (n := 2) (b := 40) (z := [.t (.str []), .nl 2]) (by kernel_rfl) (by kernel_rfl) (by kernel_rfl) rfl
  go_enter Tryz.func158, Tryz.ntmps158
  go_wp2_with (at_builtin; refine wpList_append_own _ rfl _ _ 31 rfl w.heap.size 74 i0 z 2 40 t22 hi hz0 hz1 hz2 hzs (by decide) _ _ _ rfl (World.ownsRow_made w #[] 0 (Nat.le_refl _) (Nat.zero_le _) (by simp)) ad n c news rfl ?qc1 ?qc2 ?qc3 ?qc4 ?qc5 ?qc6 ?_)
  case qc1 => exact hl
  case qc2 =>
   intro j u hj
   exact Lib.cell?_alloc_some _ (A.out j u hj)
  case qc3 => exact h1
  case qc4 => rw [Nat.zero_add]; exact hn
  case qc5 => rw [Nat.zero_add]; exact hbig
  case qc6 => simp
  intro v' w1 hown hgrow hnil
  go_wp2
  go_ret
  refine ⟨_, v', rfl, by simpa using hown, hnil, ?_⟩
  exact ((Below.refl _ w).alloc (Nat.le_refl _) _).grown hgrow (by simp) (by intro k hk; simp [Value.ownBlock] at hk; omega)
 ·go_enter Tryz.func158, Tryz.ntmps158
  go_wp2
  go_ret
  exact ⟨rfl, rfl⟩
theorem zzf (fl : List (List T)) (hs : fl.length <= 1099511627776) (hf : ∀ c ∈ fl.flatten, c.flat = true) : FC Tryz.prog 158 [.one (.sl 2 fl)] [.one (.sl 2 fl)] :=
 qdl zzn _ (by omega) hf
end Go.Proofs.YtmhbmpbgpjljeaaGreat
namespace Go.Proofs.YtmhbmpbgpjljeaaGreat
set_option linter.unusedSimpArgs false
set_option linter.unusedVariables false
set_option linter.unusedSectionVars false
set_option maxRecDepth 4000
open Go.RowKit
theorem zml {α : Type} {p : α -> Bool} : ∀ {l : List α} {k : Nat}, k <= l.length -> (∀ x ∈ l.take k, p x = true) -> (∀ h : k < l.length, p l[k] = false) -> l.takeWhile p = l.take k /\ l.dropWhile p = l.drop k
 | [], k, hk, _, _ => by simp
 | a :: l, 0, hk, _, h2 => by have := h2 (by simp); simp only [List.getElem_cons_zero] at this; simp [this]
 | a :: l, k + 1, hk, h1, h2 => by
  have ha := h1 a (by simp)
  obtain ⟨e1, e2⟩ := zml (l := l) (k := k) (by simpa using hk) (fun x hx => h1 x (by simp [hx])) (fun h => h2 (by simpa using h))
  simp [ha, e1, e2]
theorem zax {α β : Type} (f : α -> β) (l : List α) : (l.map f).take l.length = l.map f := List.take_of_length_le (by simp)
end Go.Proofs.YtmhbmpbgpjljeaaGreat
namespace Go.Proofs.YtmhbmpbgpjljeaaGreat
set_option linter.unusedSimpArgs false
set_option linter.unusedVariables false
set_option linter.unusedSectionVars false
set_option maxRecDepth 4000
open Go.RowKit
theorem qhi {b : UInt8} (h1 : decide ((b.toNat : Int) < 65) = false) (h2 : decide ((90 : Int) < b.toNat) = false) : zhx b = true := by
 simp [zhx] at *; omega
theorem qez {b : UInt8} (h1 : decide ((b.toNat : Int) < 65) = true) : zhx b = false := by
 simp [zhx] at *; omega
theorem qcf {b : UInt8} (h2 : decide ((90 : Int) < b.toNat) = true) : zhx b = false := by
 simp [zhx] at *; omega
theorem qev {b : UInt8} (h1 : decide ((b.toNat : Int) < 97) = false) (h2 : decide ((122 : Int) < b.toNat) = false) : zei b = true := by
 simp [zei] at *; omega
theorem zy7 {b : UInt8} (h1 : decide ((b.toNat : Int) < 97) = true) : zei b = false := by
 simp [zei] at *; omega
theorem zyd {b : UInt8} (h2 : decide ((122 : Int) < b.toNat) = true) : zei b = false := by
 simp [zei] at *; omega
theorem zt0 {s : Str} (h : 0 < s.length) : zqx s = (zhx (s.getD 0 0) && (s.drop 1).all zmj) := by
 cases s
 ·exact absurd h (by simp)
 ·rfl
theorem zol {s : Str} (h : 0 < s.length) : zjf s = (zei (s.getD 0 0) && (s.drop 1).all zl3) := by
 cases s
 ·exact absurd h (by simp)
 ·rfl
theorem zlr (s : Str) : FC Tryz.prog 146 [sD s] [bD (za3 s)] := by
 refine zci (fun hw => ?_) Tryz.call146
 have hl : s.length <= 9223372036854775807 := by simpa [zgk, wfT] using hw.1
 refine zau Tryz.call146 Tryz.func146 rfl (by kernel_rfl) (za6 (by kernel_rfl)) ?_
 simp -implicitDefEqProofs only [go_sem, Tryz.results146]
 refine callF (qac s.length 1 4) (by simp -implicitDefEqProofs only [go_sem]) ?_
 simp -implicitDefEqProofs only [go_sem]
 by_cases hb : inB s.length 1 4 = true
 ·have hp : 0 < s.length := by simp [inB] at hb; omega
  have hp' : (0 : Int) < s.length := by omega
  have he := zt0 hp
  refine ⟨fun h => ⟨hp', fun h1 => ⟨hp', fun h2 => ?_, fun h2 => ?_⟩, fun h1 => ?_⟩, fun h => by simp [hb] at h⟩
  ·rw [za3, he, qcf h2]; rfl
  ·rw [qhi h1 h2, Bool.true_and] at he
   refine zaf (fun k : Nat => hd [(0, vT (.str s)), (3, vI k)] [] []) (fun k => k <= s.length /\ zqx s = (s.drop k).all zmj) (fun k => s.length - k) 1 (zaa ?_) ?_ ?_
   ·simp -implicitDefEqProofs only [go_sem]
   ·exact ⟨hp, he⟩
   ·intro k ⟨hk, hr⟩
    by_cases hlt : k < s.length
    ·have hg : s.getD k 0 = s[k] := by simp [List.getD, hlt]
     rw [List.drop_eq_getElem_cons hlt, List.all_cons] at hr
     simp -implicitDefEqProofs only [go_sem, hlt]
     simp only [hg]
     refine callF (znf s[k]) (by simp -implicitDefEqProofs only [go_sem]) ?_
     simp -implicitDefEqProofs only [go_sem]
     refine ⟨fun h => ?_, fun h => ⟨k + 1, ⟨hlt, ?_⟩, by omega, zaa (by simp -implicitDefEqProofs only [go_sem]; rw [zam (by omega)])⟩⟩
     ·have : zmj s[k] = false := by simpa using h
      rw [za3, hr, this]; rfl
     ·have : zmj s[k] = true := by simpa using h
      rw [hr, this]; rfl
    ·simp -implicitDefEqProofs only [go_sem, hlt]
     rw [za3, hr, List.drop_of_length_le (by omega), hb]; rfl
  ·rw [za3, he, qez h1]; rfl
 ·have hb' : inB s.length 1 4 = false := by simpa using hb
  refine ⟨fun h => by simp [hb'] at h, fun h => ?_⟩
  rw [za3, hb', Bool.and_false]
set_option maxHeartbeats 1000000 in
theorem zkw (s : Str) : FC Tryz.prog 150 [sD s] [bD (zbx s)] := by
 refine zci (fun hw => ?_) Tryz.call150
 have hl : s.length <= 9223372036854775807 := by simpa [zgk, wfT] using hw.1
 refine zau Tryz.call150 Tryz.func150 rfl (by kernel_rfl) (za6 (by kernel_rfl)) ?_
 simp -implicitDefEqProofs only [go_sem, Tryz.results150]
 refine callF (qac s.length 1 6) (by simp -implicitDefEqProofs only [go_sem]) ?_
 simp -implicitDefEqProofs only [go_sem]
 by_cases hb : inB s.length 1 6 = true
 ·have hp : 0 < s.length := by simp [inB] at hb; omega
  have hp' : (0 : Int) < s.length := by omega
  have he := zol hp
  refine ⟨fun h => ⟨hp', fun h1 => ⟨hp', fun h2 => ?_, fun h2 => ?_⟩, fun h1 => ?_⟩, fun h => by simp [hb] at h⟩
  ·rw [zbx, he, zyd h2]; rfl
  ·rw [qev h1 h2, Bool.true_and] at he
   have leaf : ∀ l, l ∈ zp7 -> (s == l) = true -> T.bool false = T.bool (zbx s) := fun l hl e => by
    have : zp7.contains s = true := by rw [List.contains_iff_mem, beq_iff_eq.1 e]; exact hl
    rw [zbx, this, Bool.not_true, Bool.and_false]
   refine ⟨fun e => ⟨fun _ => leaf _ (by simp [zp7]) e, fun e' => absurd (e.symm.trans e') (by simp)⟩, fun n1 => ?_⟩
   refine ⟨fun e => ⟨fun _ => leaf _ (by simp [zp7]) e, fun e' => absurd (e.symm.trans e') (by simp)⟩, fun n2 => ?_⟩
   refine ⟨fun e => ⟨fun _ => leaf _ (by simp [zp7]) e, fun e' => absurd (e.symm.trans e') (by simp)⟩, fun n3 => ?_⟩
   refine ⟨fun e => ⟨fun _ => leaf _ (by simp [zp7]) e, fun e' => absurd (e.symm.trans e') (by simp)⟩, fun n4 => ?_⟩
   refine ⟨fun e => ⟨fun _ => leaf _ (by simp [zp7]) e, fun e' => absurd (e.symm.trans e') (by simp)⟩, fun n5 => ?_⟩
   refine ⟨fun e => ⟨fun _ => leaf _ (by simp [zp7]) e, fun e' => absurd (e.symm.trans e') (by simp)⟩, fun n6 => ?_⟩
   refine ⟨fun e => ⟨fun _ => leaf _ (by simp [zp7]) e, fun e' => absurd (e.symm.trans e') (by simp)⟩, fun n7 => ?_⟩
   refine ⟨fun e => leaf _ (by simp [zp7]) e, fun n8 => ?_⟩
   have hnc : zp7.contains s = false := by
    simp only [beq_eq_false_iff_ne, ne_eq] at n1 n2 n3 n4 n5 n6 n7 n8
    rw [Bool.eq_false_iff, ne_eq, List.contains_iff_mem]
    simp only [zp7, List.mem_cons, List.not_mem_nil, or_false, not_or]
    exact ⟨n1, n2, n3, n4, n5, n6, n7, n8⟩
   refine zaf (fun k : Nat => hd [(0, vT (.str s)), (3, vI k)] [] []) (fun k => k <= s.length /\ zjf s = (s.drop k).all zl3) (fun k => s.length - k) 1 (zaa ?_) ?_ ?_
   ·simp -implicitDefEqProofs only [go_sem]
   ·exact ⟨hp, he⟩
   ·intro k ⟨hk, hr⟩
    by_cases hlt : k < s.length
    ·have hg : s.getD k 0 = s[k] := by simp [List.getD, hlt]
     rw [List.drop_eq_getElem_cons hlt, List.all_cons] at hr
     simp -implicitDefEqProofs only [go_sem, hlt]
     simp only [hg]
     refine callF (znf s[k]) (by simp -implicitDefEqProofs only [go_sem]) ?_
     simp -implicitDefEqProofs only [go_sem]
     simp only [hg]
     refine ⟨fun h => ⟨hlt, fun h' => ?_, fun h' => ⟨k + 1, ⟨hlt, ?_⟩, by omega, zaa (by simp -implicitDefEqProofs only [go_sem]; rw [zam (by omega)])⟩⟩, fun h => ⟨k + 1, ⟨hlt, ?_⟩, by omega, zaa (by simp -implicitDefEqProofs only [go_sem]; rw [zam (by omega)])⟩⟩
     ·have : zl3 s[k] = false := by
       simp [zl3] at h ⊢
       refine ⟨h, fun e => ?_⟩
       rw [e] at h'
       simp at h'
      rw [zbx, hr, this]; rfl
     ·have : zl3 s[k] = true := by
       have := qhc (b := s[k]) (n := 95) (by omega)
       simp [zl3] at h' ⊢
       right
       simpa [h'] using this
      rw [hr, this]; rfl
     ·have : zl3 s[k] = true := by simp [zl3]; simp at h; simp [h]
      rw [hr, this]; rfl
    ·simp -implicitDefEqProofs only [go_sem, hlt]
     rw [zbx, hr, List.drop_of_length_le (by omega), hb, hnc]; rfl
  ·rw [zbx, he, zy7 h1]; rfl
 ·have hb' : inB s.length 1 6 = false := by simpa using hb
  refine ⟨fun h => by simp [hb'] at h, fun h => ?_⟩
  rw [zbx, hb', Bool.and_false]; rfl
end Go.Proofs.YtmhbmpbgpjljeaaGreat
namespace Go.Proofs.YtmhbmpbgpjljeaaGreat
set_option linter.unusedSimpArgs false
set_option linter.unusedVariables false
set_option linter.unusedSectionVars false
set_option maxRecDepth 4000
open Go.RowKit
def Tm.nodes : Tm -> Nat := Tm.fold fun _ _ rs => 1 + rs.sum
theorem Tm.nodes_eq (a : Tm) : a.nodes = 1 + (a.args.map Tm.nodes).sum := Tm.fold_eq _ a
def Tm.depth : Tm -> Nat := Tm.fold fun _ _ rs => rs.foldl max 0 + 1
theorem Tm.depth_eq (a : Tm) : a.depth = (a.args.map Tm.depth).foldl max 0 + 1 := Tm.fold_eq _ a
theorem zh9 : ∀ a : Tm, a.nodes <= 1 + a.wt := by
 refine zbi fun n xs ih => ?_
 rw [Tm.nodes_eq, Tm.wt_eq]
 show 1 + (xs.map Tm.nodes).sum <= 1 + (n.length + xs.length + (xs.map Tm.wt).sum)
 have : (xs.map Tm.nodes).sum <= xs.length + (xs.map Tm.wt).sum := by
  clear n
  induction xs with
  | nil => simp
  | cons x xs ih2 =>
   have h1 := ih x (by simp)
   have h2 := ih2 fun y hy => ih y (by simp [hy])
   simp only [List.map_cons, List.sum_cons, List.length_cons]
   omega
 omega
theorem zeh {B : Nat} : ∀ (xs : List Nat) (m : Nat), m <= B -> (∀ x ∈ xs, x <= B) -> xs.foldl max m <= B
 | [], m, h, _ => h
 | x :: xs, m, h, h2 => zeh xs (max m x) (by have := h2 x (by simp); omega) fun y hy => h2 y (by simp [hy])
theorem zji : ∀ a : Tm, a.depth <= a.nodes := by
 refine zbi fun n xs ih => ?_
 rw [Tm.nodes_eq, Tm.depth_eq]
 show (xs.map Tm.depth).foldl max 0 + 1 <= 1 + (xs.map Tm.nodes).sum
 have := zeh (B := (xs.map Tm.nodes).sum) (xs.map Tm.depth) 0 (by omega) fun d hd => by
  obtain ⟨x, hx, rfl⟩ := List.mem_map.1 hd
  exact Nat.le_trans (ih x hx) (zcr Tm.nodes xs x hx)
 omega
def szL (lim : Int) : Int -> List Int -> Int
 | n, [] => n
 | n, r :: rs => if n > lim then n else szL lim (n + r) rs
def zel : Tm -> Int := Tm.fold fun _ _ rs => szL 30 1 rs
theorem zs3 (a : Tm) : zel a = szL 30 1 (a.args.map zel) := Tm.fold_eq _ a
theorem zrl {α : Type} (f : α -> Int) (g : α -> Nat) (lim : Int) : ∀ (xs : List α) (n : Int), 0 <= n -> (∀ x ∈ xs, 1 <= f x /\ f x <= g x /\ (f x <= lim -> f x = g x)) -> szL lim n (xs.map f) <= n + (xs.map g).sum /\ n <= szL lim n (xs.map f) /\ (szL lim n (xs.map f) <= lim -> szL lim n (xs.map f) = n + (xs.map g).sum)
 | [], n, _, _ => by simp [szL]
 | x :: xs, n, hn, h => by
  obtain ⟨h1, h2, h3⟩ := h x (by simp)
  obtain ⟨k1, k2, k3⟩ := zrl f g lim xs (n + f x) (by omega) fun y hy => h y (by simp [hy])
  simp only [List.map_cons, szL, List.sum_cons]
  split
  ·refine ⟨by omega, by omega, fun hh => by omega⟩
  ·refine ⟨by omega, by omega, fun hh => ?_⟩
   have := k3 hh
   rw [this]
   have : f x = g x := h3 (by omega)
   omega
theorem zkm : ∀ a : Tm, 1 <= zel a /\ zel a <= a.nodes /\ (zel a <= 30 -> zel a = a.nodes) := by
 refine zbi fun n xs ih => ?_
 rw [zs3, Tm.nodes_eq]
 show 1 <= szL 30 1 (xs.map zel) /\ szL 30 1 (xs.map zel) <= ((1 + (xs.map Tm.nodes).sum : Nat) : Int) /\ _
 obtain ⟨k1, k2, k3⟩ := zrl zel Tm.nodes 30 xs 1 (by omega) ih
 refine ⟨k2, by omega, fun h => ?_⟩
 have := k3 h
 show szL 30 1 (xs.map zel) = _
 rw [this]; show _ = ((1 + (xs.map Tm.nodes).sum : Nat) : Int); omega
theorem qcx (a : Tm) : decide (zel a <= 30) = decide (a.nodes <= 30) := by
 obtain ⟨h1, h2, h3⟩ := zkm a
 rw [decide_eq_decide]
 exact ⟨fun h => by have := h3 h; omega, fun h => by omega⟩
def qgg {α : Type} (f : α -> Nat) (xs : List α) (k : Nat) : Nat := ((xs.drop k).map f).sum
theorem znx {α : Type} (f : α -> Nat) (xs : List α) : qgg f xs 0 = (xs.map f).sum := by simp [qgg]
theorem zwe {α : Type} (f : α -> Nat) (xs : List α) (k : Nat) (h : k < xs.length) : qgg f xs k = f xs[k] + qgg f xs (k + 1) := by
 unfold qgg
 rw [List.drop_eq_getElem_cons h, List.map_cons, List.sum_cons]
set_option maxHeartbeats 400000 in
theorem qhp (a : Tm) (hs : a.wt <= 1099511627776) (H : ∀ x ∈ a.args, FC Tryz.prog 166 [tmD x] [iD (zel x)]) : FC Tryz.prog 166 [tmD a] [iD (zel a)] := by
 refine zci (fun hw => ?_) Tryz.call166
 have hl : a.args.length <= 9223372036854775807 := by rw [Tm.wt_eq] at hs; omega
 have hn := zh9 a
 have hN := a.nodes_eq
 simp only [tmD, zab]
 refine zau Tryz.call166 Tryz.func166 rfl (by kernel_rfl) (za6 (by kernel_rfl)) ?_
 simp -implicitDefEqProofs only [go_sem, Tryz.results166]
 refine zaf (fun p : Nat × Int => hd [(3, vI p.2), (7, vT (tmS a.args)), (8, vI a.args.length), (9, vI p.1)] [] []) (fun p => p.1 <= a.args.length /\ zel a = szL 30 p.2 ((a.args.drop p.1).map zel) /\ 1 <= p.2 /\ p.2 + qgg Tm.nodes a.args p.1 <= a.nodes) (fun p => a.args.length - p.1) (0, 1) (zaa ?_) ?_ ?_
 ·simp -implicitDefEqProofs only [go_sem]
 ·exact ⟨by simp, by rw [zs3]; rfl, by omega, by rw [znx]; omega⟩
 ·intro ⟨k, n⟩ ⟨hk, hr, h1, h2⟩
  simp only at hk hr h1 h2
  by_cases hlt : k < a.args.length
  ·have hd := zwe Tm.nodes a.args k hlt
   obtain ⟨s1, s2, s3⟩ := zkm a.args[k]
   rw [List.drop_eq_getElem_cons hlt, List.map_cons, szL] at hr
   simp -implicitDefEqProofs only [go_sem, zad, hlt, zab]
   refine ⟨fun h => ?_, fun h => ?_⟩
   ·rw [hr, if_pos (by simpa using h)]
   ·refine callF (H a.args[k] (List.getElem_mem hlt)) (by simp -implicitDefEqProofs only [go_sem, zab]) ?_
    simp -implicitDefEqProofs only [go_sem, zab]
    rw [if_neg (by simpa using h)] at hr
    exact ⟨(k + 1, n + zel a.args[k]), ⟨hlt, hr, by simp only; omega, by simp only; omega⟩, by simp only; omega, zaa (by simp -implicitDefEqProofs only [go_sem]; rw [zam (by omega), zbb (by omega) (by omega)]; exact ⟨rfl, rfl⟩)⟩
  ·simp -implicitDefEqProofs only [go_sem, hlt]
   rw [hr, List.drop_of_length_le (by omega)]; rfl
theorem size_c : ∀ a : Tm, a.wt <= 1099511627776 -> FC Tryz.prog 166 [tmD a] [iD (zel a)] :=
 zbi fun n xs ih hs => qhp (.mk n xs) hs fun x hx => ih x hx (by
  have := Tm.wt_eq (.mk n xs)
  have := zcr Tm.wt xs x hx
  simp only [Tm.args] at *; omega)
set_option maxHeartbeats 400000 in
theorem qdj (a : Tm) (hs : a.wt <= 1099511627776) (H : ∀ x ∈ a.args, FC Tryz.prog 98 [tmD x] [iD x.depth]) : FC Tryz.prog 98 [tmD a] [iD a.depth] := by
 have hl : a.args.length <= 9223372036854775807 := by rw [Tm.wt_eq] at hs; omega
 have hn := zh9 a
 have hdn := zji a
 have hD := a.depth_eq
 simp only [tmD, zab]
 refine zau Tryz.call98 Tryz.func98 rfl (by kernel_rfl) (za6 (by kernel_rfl)) ?_
 simp -implicitDefEqProofs only [go_sem, Tryz.results98]
 refine zaf (fun p : Nat × Nat => hd [(3, vI p.2), (7, vT (tmS a.args)), (8, vI a.args.length), (9, vI p.1)] [] []) (fun p => p.1 <= a.args.length /\ a.depth = ((a.args.drop p.1).map Tm.depth).foldl max p.2 + 1) (fun p => a.args.length - p.1) (0, 0) (zaa ?_) ?_ ?_
 ·simp -implicitDefEqProofs only [go_sem]
 ·exact ⟨by simp, hD⟩
 ·intro ⟨k, n⟩ ⟨hk, hr⟩
  simp only at hk hr
  by_cases hlt : k < a.args.length
  ·rw [List.drop_eq_getElem_cons hlt, List.map_cons, List.foldl_cons] at hr
   simp -implicitDefEqProofs only [go_sem, zad, hlt, zab]
   refine callF (H a.args[k] (List.getElem_mem hlt)) (by simp -implicitDefEqProofs only [go_sem, zab]) ?_
   simp -implicitDefEqProofs only [go_sem, zab]
   exact ⟨(k + 1, max n a.args[k].depth), ⟨hlt, hr⟩, by simp only; omega, zaa (by simp -implicitDefEqProofs only [go_sem]; rw [zam (by omega)]; exact ⟨by congr 1; omega, rfl⟩)⟩
  ·simp -implicitDefEqProofs only [go_sem, hlt]
   rw [List.drop_of_length_le (by omega)] at hr
   simp only [List.map_nil, List.foldl_nil] at hr
   rw [hr, zam (by omega)]
theorem zwh : ∀ a : Tm, a.wt <= 1099511627776 -> FC Tryz.prog 98 [tmD a] [iD a.depth] :=
 zbi fun n xs ih hs => qdj (.mk n xs) hs fun x hx => ih x hx (by
  have := Tm.wt_eq (.mk n xs)
  have := zcr Tm.wt xs x hx
  simp only [Tm.args] at *; omega)
def zd9 (a : Tm) : Bool := decide (a.nodes <= 30) && decide (a.depth <= 8)
theorem zo2 (a : Tm) (hs : a.wt <= 1099511627776) : FC Tryz.prog 102 [tmD a] [bD (zd9 a)] := by
 simp only [tmD, zab]
 refine zau Tryz.call102 Tryz.func102 rfl (by kernel_rfl) (za6 (by kernel_rfl)) ?_
 simp -implicitDefEqProofs only [go_sem, Tryz.results102]
 refine callF (size_c a hs) (by simp -implicitDefEqProofs only [go_sem, zab]) ?_
 simp -implicitDefEqProofs only [go_sem, zab]
 rw [qcx]
 refine ⟨fun h => ?_, fun h => ?_⟩
 ·refine callF (zwh a hs) (by simp -implicitDefEqProofs only [go_sem, zab]) ?_
  simp -implicitDefEqProofs only [go_sem, zab]
  rw [zd9, h, Bool.true_and]
  congr 1
  rw [decide_eq_decide]; omega
 ·rw [zd9, h]; rfl
end Go.Proofs.YtmhbmpbgpjljeaaGreat
namespace Go.Proofs.YtmhbmpbgpjljeaaGreat
set_option linter.unusedSimpArgs false
set_option linter.unusedVariables false
set_option linter.unusedSectionVars false
set_option maxRecDepth 4000
open Go.RowKit
theorem qep (σ : St) (caps : List T) : VDs σ (caps.map fun t => .one (.t t)) (caps.map .one) = True := by
 induction caps with
 | nil => simp [VDs]
 | cons t ts ih => rw [List.map_cons, List.map_cons, zsu, ih]; simp [qft, CT_t]
attribute [go_sem] qep
def zqe {α : Type} (xs : List α) (p : α -> Bool) : Int := if xs.any p then xs.findIdx p else -1
theorem zdu {α : Type} {xs : List α} {p : α -> Bool} {k : Nat} (hk : k < xs.length) (hn : ∀ x ∈ xs.take k, p x = false) (h : p xs[k] = true) : zqe xs p = k := by
 have ha : xs.any p = true := List.any_eq_true.2 ⟨xs[k], List.getElem_mem hk, h⟩
 have hf : xs.findIdx p = k := (List.findIdx_eq hk).2 ⟨h, fun j hj => hn _ (by
  rw [List.mem_take_iff_getElem]; exact ⟨j, by omega, rfl⟩)⟩
 rw [zqe, if_pos ha, hf]
theorem zed {α : Type} {xs : List α} {p : α -> Bool} (hn : ∀ x ∈ xs, p x = false) : zqe xs p = -1 := by
 have ha : xs.any p = false := by rw [List.any_eq_false]; exact fun x hx => by simp [hn x hx]
 rw [zqe, ha]; rfl
theorem zr8 {α : Type} (xs : List α) (p : α -> Bool) : decide (0 <= zqe xs p) = xs.any p := by
 unfold zqe
 cases xs.any p <;> simp
theorem zb5 {α : Type} {xs : List α} {p : α -> Bool} {k : Nat} (hk : k < xs.length) (hn : ∀ x ∈ xs.take k, p x = false) (h : p xs[k] = false) : ∀ x ∈ xs.take (k + 1), p x = false := by
 rw [List.take_succ_eq_append_getElem hk]
 intro x hx
 rcases List.mem_append.1 hx with hx | hx
 ·exact hn x hx
 ·rw [List.mem_singleton.1 hx]; exact h
theorem zjt (xs : List Tm) (p : Tm -> Bool) (g : FuncId) (caps : List T) (H : ∀ x ∈ xs, FC Tryz.prog g (tmD x :: caps.map .one) [bD (p x)]) : FC Tryz.prog 101 [.one (tmS xs), .one (.fn g caps)] [iD (zqe xs p)] := by
 refine zci (fun hw => ?_) Tryz.call101
 have hl : xs.length <= 9223372036854775807 := by simpa [zgk, wfT] using hw.1.1
 refine zau Tryz.call101 Tryz.func101 rfl (by kernel_rfl) (za6 (by kernel_rfl)) ?_
 simp -implicitDefEqProofs only [go_sem, Tryz.results101]
 refine zaf (fun k : Nat => hd [(0, vT (tmS xs)), (1, vT (.fn g caps)), (7, vI xs.length), (8, vI k)] [] []) (fun k => k <= xs.length /\ ∀ x ∈ xs.take k, p x = false) (fun k => xs.length - k) 0 (zaa ?_) ?_ ?_
 ·simp -implicitDefEqProofs only [go_sem]
 ·simp
 ·intro k ⟨hk, hr⟩
  by_cases hlt : k < xs.length
  ·simp -implicitDefEqProofs only [go_sem, zad, hlt, zab]
   refine callF (H xs[k] (List.getElem_mem hlt)) (by simp -implicitDefEqProofs only [go_sem, zab]) ?_
   simp -implicitDefEqProofs only [go_sem, zab]
   refine ⟨fun h => ?_, fun h => ⟨k + 1, ⟨hlt, zb5 hlt hr h⟩, by omega, zaa (by simp -implicitDefEqProofs only [go_sem]; rw [zam (by omega)])⟩⟩
   rw [zdu hlt hr h]
  ·simp -implicitDefEqProofs only [go_sem, hlt]
   rw [List.take_of_length_le (by omega)] at hr
   rw [zed hr]
theorem zb9 (xs : List Tm) (p : Tm -> Bool) (g : FuncId) (caps : List T) (H : ∀ x ∈ xs, FC Tryz.prog g (tmD x :: caps.map .one) [bD (p x)]) : FC Tryz.prog 49 [.one (tmS xs), .one (.fn g caps)] [bD (xs.any p)] := by
 refine zau Tryz.call49 Tryz.func49 rfl (by kernel_rfl) (za6 (by kernel_rfl)) ?_
 simp -implicitDefEqProofs only [go_sem, Tryz.results49]
 refine callF (zjt xs p g caps H) (by simp -implicitDefEqProofs only [go_sem]) ?_
 simp -implicitDefEqProofs only [go_sem]
 rw [zr8]
end Go.Proofs.YtmhbmpbgpjljeaaGreat
namespace Go.Proofs.YtmhbmpbgpjljeaaGreat
set_option linter.unusedSimpArgs false
set_option linter.unusedVariables false
set_option linter.unusedSectionVars false
set_option maxRecDepth 4000
open Go.RowKit
def Tm.names : Tm -> Bool := Tm.fold fun n xs rs => if za3 n = true then decide (xs.length = 0) else zbx n && decide (xs.length <= 4) && rs.all id
theorem Tm.names_eq (a : Tm) : a.names = if za3 a.name = true then decide (a.args.length = 0) else zbx a.name && decide (a.args.length <= 4) && a.args.all Tm.names := by
 unfold Tm.names
 rw [Tm.fold_eq]
 simp only [List.all_map]
 rfl
theorem qic {α : Type} (xs : List α) (p : α -> Bool) : (!xs.any fun x => !p x) = xs.all p := by
 induction xs with
 | nil => rfl
 | cons x xs ih => simp only [List.any_cons, List.all_cons, Bool.not_or, Bool.not_not, ih]
theorem zpy (a : Tm) (H : ∀ x ∈ a.args, FC Tryz.prog 103 [tmD x] [bD x.names]) : FC Tryz.prog 103 [tmD a] [bD a.names] := by
 have H1 : ∀ x ∈ a.args, FC Tryz.prog 169 [tmD x] [bD (!x.names)] := fun x hx => by
  simp only [tmD, zab]
  refine zau Tryz.call169 Tryz.func169 rfl (by kernel_rfl) (za6 (by kernel_rfl)) ?_
  simp -implicitDefEqProofs only [go_sem, Tryz.results169]
  refine callF (H x hx) (by simp -implicitDefEqProofs only [go_sem, zab]) ?_
  simp -implicitDefEqProofs only [go_sem, zab]
 have hN := a.names_eq
 simp only [tmD, zab]
 refine zau Tryz.call103 Tryz.func103 rfl (by kernel_rfl) (za6 (by kernel_rfl)) ?_
 simp -implicitDefEqProofs only [go_sem, Tryz.results103]
 refine callF (zpe a.name) (by simp -implicitDefEqProofs only [go_sem]) ?_
 simp -implicitDefEqProofs only [go_sem]
 refine ⟨fun h => ?_, fun h => ?_⟩
 ·rw [hN, if_pos h]
  congr 1
  rw [Bool.eq_iff_iff]; simp
 ·rw [h] at hN
  simp only [Bool.false_eq_true, if_false] at hN
  refine callF (zkv a.name) (by simp -implicitDefEqProofs only [go_sem]) ?_
  simp -implicitDefEqProofs only [go_sem]
  refine ⟨fun h1 => ⟨fun h2 => ?_, fun h2 => ?_⟩, fun h1 => ?_⟩
  ·refine callF (zb9 a.args (fun x => !x.names) _ [] H1) (by simp -implicitDefEqProofs only [go_sem]) ?_
   simp -implicitDefEqProofs only [go_sem]
   rw [qic, hN, h1, Bool.true_and]
   rw [show decide (a.args.length <= 4) = true by simp at h2 ⊢; omega]; rfl
  ·rw [hN, h1, Bool.true_and, show decide (a.args.length <= 4) = false by simp at h2 ⊢; omega]; rfl
  ·rw [hN, h1]; rfl
theorem zgp : ∀ a : Tm, FC Tryz.prog 103 [tmD a] [bD a.names] := zbi fun n xs ih => zpy (.mk n xs) ih
def Tm.good (a : Tm) : Bool := zd9 a && a.names
theorem zf7 (a : Tm) (hs : a.wt <= 1099511627776) : FC Tryz.prog 51 [tmD a] [bD a.good] := by
 simp only [tmD, zab]
 refine zau Tryz.call51 Tryz.func51 rfl (by kernel_rfl) (za6 (by kernel_rfl)) ?_
 simp -implicitDefEqProofs only [go_sem, Tryz.results51]
 refine callF (zo2 a hs) (by simp -implicitDefEqProofs only [go_sem, zab]) ?_
 simp -implicitDefEqProofs only [go_sem, zab]
 refine ⟨fun h => ?_, fun h => ?_⟩
 ·refine callF (zgp a) (by simp -implicitDefEqProofs only [go_sem, zab]) ?_
  simp -implicitDefEqProofs only [go_sem, zab]
  rw [Tm.good, h, Bool.true_and]
 ·rw [Tm.good, h, Bool.false_and]
theorem zhh (a : Tm) : FC Tryz.prog 71 [tmD a] [bD (a.name == [61])] := by
 simp only [tmD, zab]
 refine zau Tryz.call71 Tryz.func71 rfl (by kernel_rfl) (za6 (by kernel_rfl)) ?_
 simp -implicitDefEqProofs only [go_sem, Tryz.results71]
def Tm.atomOk (a : Tm) : Bool := if (a.name == [61]) = true then decide (a.args.length = 2) && zd9 a && a.args.all Tm.names else zbx a.name && a.good
theorem qa8 {α : Type} {xs : List α} {p : α -> Bool} (h : xs.length = 2) : xs.all p = (p (xs[0]'(by omega)) && p (xs[1]'(by omega))) := by
 match xs, h with
 | [a, b], _ => simp
theorem zmv (a : Tm) (hs : a.wt <= 1099511627776) : FC Tryz.prog 199 [tmD a] [bD a.atomOk] := by
 have hN : a.atomOk = if (a.name == [61]) = true then decide (a.args.length = 2) && zd9 a && a.args.all Tm.names else zbx a.name && a.good := rfl
 simp only [tmD, zab]
 refine zau Tryz.call199 Tryz.func199 rfl (by kernel_rfl) (za6 (by kernel_rfl)) ?_
 simp -implicitDefEqProofs only [go_sem, Tryz.results199]
 refine callF (zhh a) (by simp -implicitDefEqProofs only [go_sem, zab]) ?_
 simp -implicitDefEqProofs only [go_sem, zab]
 refine ⟨fun h => ?_, fun h => ?_⟩
 ·rw [if_pos h] at hN
  by_cases h2 : a.args.length = 2
  ·have k0 : 0 < a.args.length := by omega
   have k1 : 1 < a.args.length := by omega
   have e2 : ((a.args.length : Int) == 2) = true := by simp [h2]
   have l0 : (0 : Int) < a.args.length := by omega
   have l1 : (1 : Int) < a.args.length := by omega
   rw [qa8 h2, show decide (a.args.length = 2) = true by simp [h2]] at hN
   simp only [Bool.true_and] at hN
   simp only [e2, zx4, zet, qhx, zdl, and_true]
   refine callF (zo2 a hs) (by simp -implicitDefEqProofs only [go_sem, zab, l0, zad, k0]) ?_
   simp -implicitDefEqProofs only [go_sem, zab, l0, zad, k0]
   refine ⟨fun h3 => ?_, fun h3 => ?_⟩
   ·refine callF (zgp a.args[0]) (by simp -implicitDefEqProofs only [go_sem, zab, l1, zad, k1]) ?_
    simp -implicitDefEqProofs only [go_sem, zab, l1, zad, k1]
    refine ⟨fun h4 => ?_, fun h4 => ?_⟩
    ·refine callF (zgp a.args[1]) (by simp -implicitDefEqProofs only [go_sem, zab]) ?_
     simp -implicitDefEqProofs only [go_sem, zab]
     rw [hN, h3, h4]; rfl
    ·rw [hN, h3, h4]; rfl
   ·rw [hN, h3]; rfl
  ·have e2 : ((a.args.length : Int) == 2) = false := by simp; omega
   simp only [e2, zx4, qhf, zet, zdl, and_true, true_and, qh0]
   rw [hN, show decide (a.args.length = 2) = false by simpa using h2]; rfl
 ·rw [h] at hN
  simp only [Bool.false_eq_true, if_false] at hN
  refine callF (zkv a.name) (by simp -implicitDefEqProofs only [go_sem]) ?_
  simp -implicitDefEqProofs only [go_sem]
  refine ⟨fun h3 => ?_, fun h3 => ?_⟩
  ·refine callF (zf7 a hs) (by simp -implicitDefEqProofs only [go_sem, zab]) ?_
   simp -implicitDefEqProofs only [go_sem, zab]
   rw [hN, h3, Bool.true_and]
  ·rw [hN, h3, Bool.false_and]
end Go.Proofs.YtmhbmpbgpjljeaaGreat
namespace Go.Proofs.YtmhbmpbgpjljeaaGreat
set_option linter.unusedSimpArgs false
set_option linter.unusedVariables false
set_option linter.unusedSectionVars false
set_option maxRecDepth 4000
open Go.RowKit
theorem zp0 (a : Tm) (h : 0 < a.name.length) : FC Tryz.prog 153 [tmD a] [bD (zhx (a.name.getD 0 0))] := by
 simp only [tmD, zab]
 refine zau Tryz.call153 Tryz.func153 rfl (by kernel_rfl) (za6 (by kernel_rfl)) ?_
 simp -implicitDefEqProofs only [go_sem, Tryz.results153]
 have h0 : (0 : Int) < a.name.length := by omega
 simp -implicitDefEqProofs only [go_sem, h0, h]
 refine callF (zpd (a.name.getD 0 0)) (by simp -implicitDefEqProofs only [go_sem]) ?_
 simp -implicitDefEqProofs only [go_sem]
end Go.Proofs.YtmhbmpbgpjljeaaGreat
namespace Go.Proofs.YtmhbmpbgpjljeaaGreat
set_option linter.unusedSimpArgs false
set_option linter.unusedVariables false
set_option linter.unusedSectionVars false
set_option maxRecDepth 4000
open Go.RowKit
theorem zwg {a x : Tm} (h : x ∈ a.args) : x.wt <= a.wt := by
 have := Tm.wt_eq a
 have := zcr Tm.wt a.args x h
 omega
def mnL (most : Int) : Int -> List (Int -> Int) -> Int
 | n, [] => n
 | n, r :: rs => if n <= most then mnL most (n + r (most - n)) rs else n
theorem zr7 {α : Type} (f : α -> Int -> Int) (g : α -> Nat) (most : Int) : ∀ (xs : List α) (n : Int), 0 <= n -> (∀ x ∈ xs, ∀ m, 0 <= m -> 1 <= f x m /\ f x m <= g x /\ (f x m <= m -> f x m = g x)) -> mnL most n (xs.map f) <= n + (xs.map g).sum /\ n <= mnL most n (xs.map f) /\ (mnL most n (xs.map f) <= most -> mnL most n (xs.map f) = n + (xs.map g).sum)
 | [], n, _, _ => by simp [mnL]
 | x :: xs, n, hn, h => by
  simp only [List.map_cons, mnL, List.sum_cons]
  split
  ·obtain ⟨h1, h2, h3⟩ := h x (by simp) (most - n) (by omega)
   obtain ⟨k1, k2, k3⟩ := zr7 f g most xs (n + f x (most - n)) (by omega) fun y hy => h y (by simp [hy])
   refine ⟨by omega, by omega, fun hh => ?_⟩
   have := k3 hh
   have : f x (most - n) = g x := h3 (by omega)
   omega
  ·refine ⟨by omega, by omega, fun hh => by omega⟩
def zd6 : Tm -> Int -> Int := Tm.fold fun _ _ rs m => mnL m 1 rs
theorem zri (a : Tm) (m : Int) : zd6 a m = mnL m 1 (a.args.map zd6) := congrFun (Tm.fold_eq _ a) m
theorem zkq : ∀ (a : Tm) (m : Int), 0 <= m -> 1 <= zd6 a m /\ zd6 a m <= a.nodes /\ (zd6 a m <= m -> zd6 a m = a.nodes) := by
 refine zbi fun b0 xs ih m hm => ?_
 rw [zri, Tm.nodes_eq]
 show 1 <= mnL m 1 (xs.map zd6) /\ mnL m 1 (xs.map zd6) <= ((1 + (xs.map Tm.nodes).sum : Nat) : Int) /\ (mnL m 1 (xs.map zd6) <= m -> mnL m 1 (xs.map zd6) = ((1 + (xs.map Tm.nodes).sum : Nat) : Int))
 obtain ⟨k1, k2, k3⟩ := zr7 zd6 Tm.nodes m xs 1 (by omega) ih
 refine ⟨k2, by omega, fun h => ?_⟩
 have := k3 h
 omega
theorem qce (a : Tm) (m : Nat) : decide (zd6 a m <= m) = decide (a.nodes <= m) := by
 obtain ⟨h1, h2, h3⟩ := zkq a m (by omega)
 rw [decide_eq_decide]
 exact ⟨fun h => by have := h3 h; omega, fun h => by omega⟩
set_option maxHeartbeats 400000 in
theorem zx1 (a : Tm) (hs : a.wt <= 1099511627776) (H : ∀ x ∈ a.args, ∀ m : Int, 0 <= m -> m <= 1099511627776 -> FC Tryz.prog 149 [tmD x, iD m] [iD (zd6 x m)]) (m : Int) (h0 : 0 <= m) (h1 : m <= 1099511627776) : FC Tryz.prog 149 [tmD a, iD m] [iD (zd6 a m)] := by
 have hl : a.args.length <= 9223372036854775807 := by rw [Tm.wt_eq] at hs; omega
 have hn := zh9 a
 have hN := a.nodes_eq
 simp only [tmD, zab]
 refine zau Tryz.call149 Tryz.func149 rfl (by kernel_rfl) (za6 (by kernel_rfl)) ?_
 simp -implicitDefEqProofs only [go_sem, Tryz.results149]
 refine zaf (fun p : Nat × Int => hd [(1, vI m), (2, .one (.bx 2 0)), (5, vI p.2), (6, vI p.1)] [(2, [.t (.str a.name), .t (tmS a.args)])] []) (fun p => p.1 <= a.args.length /\ zd6 a m = mnL m p.2 ((a.args.drop p.1).map zd6) /\ 1 <= p.2 /\ p.2 + qgg Tm.nodes a.args p.1 <= a.nodes) (fun p => a.args.length - p.1) (0, 1) (zaa ?_) ?_ ?_
 ·simp -implicitDefEqProofs only [go_sem]
 ·exact ⟨by simp, by rw [zri]; rfl, by omega, by rw [znx]; omega⟩
 ·intro ⟨k, n⟩ ⟨hk, hr, h2, h3⟩
  simp only at hk hr h2 h3
  by_cases hlt : k < a.args.length
  ·have hd := zwe Tm.nodes a.args k hlt
   rw [List.drop_eq_getElem_cons hlt, List.map_cons, mnL] at hr
   simp -implicitDefEqProofs only [go_sem, zad, hlt, zab]
   refine ⟨fun h => ?_, fun h => ?_⟩
   ·have hle : n <= m := by simpa using h
    obtain ⟨s1, s2, s3⟩ := zkq a.args[k] (m - n) (by omega)
    rw [zbb (n := m - n) (by omega) (by omega)]
    refine callF (H a.args[k] (List.getElem_mem hlt) (m - n) (by omega) (by omega)) (by simp -implicitDefEqProofs only [go_sem, zab]) ?_
    simp -implicitDefEqProofs only [go_sem, zab]
    rw [if_pos hle] at hr
    exact ⟨(k + 1, n + zd6 a.args[k] (m - n)), ⟨hlt, hr, by simp only; omega, by simp only; omega⟩, by simp only; omega, zaa (by simp -implicitDefEqProofs only [go_sem]; rw [zam (by omega), zbb (by omega) (by omega)]; exact ⟨rfl, rfl⟩)⟩
   ·rw [hr, if_neg (by simpa using h)]
  ·simp -implicitDefEqProofs only [go_sem, hlt]
   rw [hr, List.drop_of_length_le (by omega)]; rfl
theorem qbr : ∀ a : Tm, a.wt <= 1099511627776 -> ∀ m : Int, 0 <= m -> m <= 1099511627776 -> FC Tryz.prog 149 [tmD a, iD m] [iD (zd6 a m)] :=
 zbi fun b0 xs ih hs => zx1 (.mk b0 xs) hs fun x hx => ih x hx (Nat.le_trans (zwg (a := .mk b0 xs) hx) hs)
end Go.Proofs.YtmhbmpbgpjljeaaGreat
namespace Go.Proofs.YtmhbmpbgpjljeaaGreat
set_option linter.unusedSimpArgs false
set_option linter.unusedVariables false
set_option linter.unusedSectionVars false
set_option maxRecDepth 4000
open Go.RowKit
set_option maxHeartbeats 400000 in
theorem zun (a : Tm) (hs : a.wt <= 1099511627776) (H : ∀ x ∈ a.args, FC Tryz.prog 40 [tmD x] [iD x.depth]) : FC Tryz.prog 40 [tmD a] [iD a.depth] := by
 have hl : a.args.length <= 9223372036854775807 := by rw [Tm.wt_eq] at hs; omega
 have hn := zh9 a
 have hdn := zji a
 have hD := a.depth_eq
 simp only [tmD, zab]
 refine zau Tryz.call40 Tryz.func40 rfl (by kernel_rfl) (za6 (by kernel_rfl)) ?_
 simp -implicitDefEqProofs only [go_sem, Tryz.results40]
 refine zaf (fun p : Nat × Nat => hd [(1, .one (.bx 1 0)), (3, vI p.2), (4, vI p.1)] [(1, [.t (.str a.name), .t (tmS a.args)])] []) (fun p => p.1 <= a.args.length /\ a.depth = ((a.args.drop p.1).map Tm.depth).foldl max p.2 + 1) (fun p => a.args.length - p.1) (0, 0) (zaa ?_) ?_ ?_
 ·simp -implicitDefEqProofs only [go_sem]
 ·exact ⟨by simp, hD⟩
 ·intro ⟨k, n⟩ ⟨hk, hr⟩
  simp only at hk hr
  by_cases hlt : k < a.args.length
  ·rw [List.drop_eq_getElem_cons hlt, List.map_cons, List.foldl_cons] at hr
   simp -implicitDefEqProofs only [go_sem, zad, hlt, zab]
   refine callF (H a.args[k] (List.getElem_mem hlt)) (by simp -implicitDefEqProofs only [go_sem, zab]) ?_
   simp -implicitDefEqProofs only [go_sem, zab]
   refine callF (qdk n a.args[k].depth) (by simp -implicitDefEqProofs only [go_sem, zab]) ?_
   simp -implicitDefEqProofs only [go_sem, zab]
   exact ⟨(k + 1, max n a.args[k].depth), ⟨hlt, hr⟩, by simp only; omega, zaa (by simp -implicitDefEqProofs only [go_sem]; rw [zam (by omega)]; exact ⟨by congr 1; omega, rfl⟩)⟩
  ·simp -implicitDefEqProofs only [go_sem, hlt]
   rw [List.drop_of_length_le (by omega)] at hr
   simp only [List.map_nil, List.foldl_nil] at hr
   rw [hr, zam (by omega)]
theorem zoy : ∀ a : Tm, a.wt <= 1099511627776 -> FC Tryz.prog 40 [tmD a] [iD a.depth] :=
 zbi fun n xs ih hs => zun (.mk n xs) hs fun x hx => ih x hx (Nat.le_trans (zwg (a := .mk n xs) hx) hs)
theorem ztv (a : Tm) (hs : a.wt <= 1099511627776) : FC Tryz.prog 89 [tmD a] [bD (zd9 a)] := by
 simp only [tmD, zab]
 refine zau Tryz.call89 Tryz.func89 rfl (by kernel_rfl) (za6 (by kernel_rfl)) ?_
 simp -implicitDefEqProofs only [go_sem, Tryz.results89]
 refine callF (qbr a hs 30 (by omega) (by omega)) (by simp -implicitDefEqProofs only [go_sem, zab]) ?_
 simp -implicitDefEqProofs only [go_sem, zab]
 rw [show decide (zd6 a 30 <= 30) = decide (a.nodes <= 30) from qce a 30]
 refine ⟨fun h => ?_, fun h => ?_⟩
 ·refine callF (zoy a hs) (by simp -implicitDefEqProofs only [go_sem, zab]) ?_
  simp -implicitDefEqProofs only [go_sem, zab]
  rw [zd9, h, Bool.true_and]
  congr 1
  rw [decide_eq_decide]; omega
 ·rw [zd9, h]; rfl
theorem zvf (a : Tm) (H : ∀ x ∈ a.args, FC Tryz.prog 90 [tmD x] [bD x.names]) : FC Tryz.prog 90 [tmD a] [bD a.names] := by
 refine zci (fun hw => ?_) Tryz.call90
 have hl : a.args.length <= 9223372036854775807 := by simp only [tmD, zab] at hw; simp [zgk, wfT, zpc] at hw; exact hw.2.1
 have hN := a.names_eq
 simp only [tmD, zab]
 refine zau Tryz.call90 Tryz.func90 rfl (by kernel_rfl) (za6 (by kernel_rfl)) ?_
 simp -implicitDefEqProofs only [go_sem, Tryz.results90]
 refine callF (zlr a.name) (by simp -implicitDefEqProofs only [go_sem]) ?_
 simp -implicitDefEqProofs only [go_sem]
 refine ⟨fun h => ?_, fun h => ?_⟩
 ·rw [hN, if_pos h]
  congr 1
  rw [Bool.eq_iff_iff]; simp
 ·rw [h] at hN
  simp only [Bool.false_eq_true, if_false] at hN
  refine callF (zkw a.name) (by simp -implicitDefEqProofs only [go_sem]) ?_
  simp -implicitDefEqProofs only [go_sem]
  by_cases hy : zbx a.name = true
  ·by_cases h4 : a.args.length <= 4
   ·rw [hy, show decide (a.args.length <= 4) = true by simpa using h4, Bool.true_and, Bool.true_and] at hN
    refine ⟨fun _ => ⟨fun h => by simp at h; omega, fun _ => ?_⟩, fun h => by simp [hy] at h⟩
    refine zaf (fun k : Nat => hd [(1, .one (.bx 1 0)), (3, vI k)] [(1, [.t (.str a.name), .t (tmS a.args)])] []) (fun k => k <= a.args.length /\ a.names = (a.args.drop k).all Tm.names) (fun k => a.args.length - k) 0 (zaa ?_) ?_ ?_
    ·simp -implicitDefEqProofs only [go_sem]
    ·exact ⟨by simp, hN⟩
    ·intro k ⟨hk, hr⟩
     by_cases hlt : k < a.args.length
     ·rw [List.drop_eq_getElem_cons hlt, List.all_cons] at hr
      simp -implicitDefEqProofs only [go_sem, zad, hlt, zab]
      refine callF (H a.args[k] (List.getElem_mem hlt)) (by simp -implicitDefEqProofs only [go_sem, zab]) ?_
      simp -implicitDefEqProofs only [go_sem, zab]
      refine ⟨fun h => ?_, fun h => ⟨k + 1, ⟨hlt, ?_⟩, by omega, zaa (by simp -implicitDefEqProofs only [go_sem]; rw [zam (by omega)])⟩⟩
      ·rw [hr, show a.args[k].names = false by simpa using h]; rfl
      ·rw [hr, show a.args[k].names = true by simpa using h]; rfl
     ·simp -implicitDefEqProofs only [go_sem, hlt]
      rw [hr, List.drop_of_length_le (by omega)]; rfl
   ·refine ⟨fun _ => ⟨fun _ => ?_, fun h => by simp at h; omega⟩, fun h => by simp [hy] at h⟩
    rw [hN, show decide (a.args.length <= 4) = false by simpa using h4, Bool.and_false]; rfl
  ·have hy' : zbx a.name = false := by simpa using hy
   refine ⟨fun h => by simp [hy'] at h, fun _ => ?_⟩
   rw [hN, hy']; rfl
theorem ziw : ∀ a : Tm, FC Tryz.prog 90 [tmD a] [bD a.names] := zbi fun n xs ih => zvf (.mk n xs) ih
theorem zst (a : Tm) (hs : a.wt <= 1099511627776) : FC Tryz.prog 42 [tmD a] [bD a.good] := by
 simp only [tmD, zab]
 refine zau Tryz.call42 Tryz.func42 rfl (by kernel_rfl) (za6 (by kernel_rfl)) ?_
 simp -implicitDefEqProofs only [go_sem, Tryz.results42]
 refine callF (ztv a hs) (by simp -implicitDefEqProofs only [go_sem, zab]) ?_
 simp -implicitDefEqProofs only [go_sem, zab]
 refine ⟨fun h => ?_, fun h => ?_⟩
 ·refine callF (ziw a) (by simp -implicitDefEqProofs only [go_sem, zab]) ?_
  simp -implicitDefEqProofs only [go_sem, zab]
  rw [Tm.good, h, Bool.true_and]
 ·rw [Tm.good, h, Bool.false_and]
theorem qes (a : Tm) (hs : a.wt <= 1099511627776) : FC Tryz.prog 144 [tmD a] [bD a.atomOk] := by
 have hN : a.atomOk = if (a.name == [61]) = true then decide (a.args.length = 2) && zd9 a && a.args.all Tm.names else zbx a.name && a.good := rfl
 simp only [tmD, zab]
 refine zau Tryz.call144 Tryz.func144 rfl (by kernel_rfl) (za6 (by kernel_rfl)) ?_
 simp -implicitDefEqProofs only [go_sem, Tryz.results144]
 refine ⟨fun h => ?_, fun h => ?_⟩
 ·rw [if_pos h] at hN
  by_cases h2 : a.args.length = 2
  ·have k0 : 0 < a.args.length := by omega
   have k1 : 1 < a.args.length := by omega
   have e2 : ((a.args.length : Int) == 2) = true := by simp [h2]
   have l0 : (0 : Int) < a.args.length := by omega
   have l1 : (1 : Int) < a.args.length := by omega
   rw [qa8 h2, show decide (a.args.length = 2) = true by simp [h2]] at hN
   simp only [Bool.true_and] at hN
   simp only [e2, zx4, zet, qhx, zdl, and_true]
   refine callF (ztv a hs) (by simp -implicitDefEqProofs only [go_sem, zab, l0, zad, k0]) ?_
   simp -implicitDefEqProofs only [go_sem, zab, l0, zad, k0]
   refine ⟨fun h3 => ?_, fun h3 => ?_⟩
   ·refine callF (ziw a.args[0]) (by simp -implicitDefEqProofs only [go_sem, zab, l1, zad, k1]) ?_
    simp -implicitDefEqProofs only [go_sem, zab, l1, zad, k1]
    refine ⟨fun h4 => ?_, fun h4 => ?_⟩
    ·refine callF (ziw a.args[1]) (by simp -implicitDefEqProofs only [go_sem, zab]) ?_
     simp -implicitDefEqProofs only [go_sem, zab]
     rw [hN, h3, h4]; rfl
    ·rw [hN, h3, h4]; rfl
   ·rw [hN, h3]; rfl
  ·have e2 : ((a.args.length : Int) == 2) = false := by simp; omega
   simp only [e2, zx4, qhf, zet, zdl, and_true, true_and, qh0]
   rw [hN, show decide (a.args.length = 2) = false by simpa using h2]; rfl
 ·rw [h] at hN
  simp only [Bool.false_eq_true, if_false] at hN
  refine callF (zkw a.name) (by simp -implicitDefEqProofs only [go_sem]) ?_
  simp -implicitDefEqProofs only [go_sem]
  refine ⟨fun h3 => ?_, fun h3 => ?_⟩
  ·refine callF (zst a hs) (by simp -implicitDefEqProofs only [go_sem, zab]) ?_
   simp -implicitDefEqProofs only [go_sem, zab]
   rw [hN, h3, Bool.true_and]
  ·rw [hN, h3, Bool.false_and]
end Go.Proofs.YtmhbmpbgpjljeaaGreat
namespace Go.Proofs.YtmhbmpbgpjljeaaGreat
set_option linter.unusedSimpArgs false
set_option linter.unusedVariables false
set_option linter.unusedSectionVars false
set_option maxRecDepth 4000
open Go.RowKit
theorem zh4 {s : Str} (h : za3 s = true) : zhx (s.getD 0 0) = true /\ 0 < s.length := by
 unfold za3 at h
 rw [Bool.and_eq_true] at h
 cases s with
 | nil => exact absurd h.2 (by decide)
 | cons b s =>
  have := zt0 (s := b :: s) (by simp)
  rw [h.1] at this
  have := (Bool.and_eq_true _ _).mp this.symm
  exact ⟨this.1, by simp⟩
theorem up_low {b : UInt8} (h : zei b = true) : zhx b = false := by
 unfold zei zhx at *
 simp only [Bool.and_eq_true, decide_eq_true_eq, Bool.and_eq_false_iff, decide_eq_false_iff_not] at *
 omega
theorem zgd {s : Str} (h : zbx s = true) : zhx (s.getD 0 0) = false /\ 0 < s.length := by
 unfold zbx at h
 simp only [Bool.and_eq_true] at h
 cases s with
 | nil => exact absurd h.1.2 (by decide)
 | cons b s =>
  have := zol (s := b :: s) (by simp)
  rw [h.1.1] at this
  have := (Bool.and_eq_true _ _).mp this.symm
  exact ⟨up_low this.1, by simp⟩
end Go.Proofs.YtmhbmpbgpjljeaaGreat
namespace Go.Proofs.YtmhbmpbgpjljeaaGreat
set_option linter.unusedSimpArgs false
set_option linter.unusedVariables false
set_option linter.unusedSectionVars false
set_option maxRecDepth 4000
open Go.RowKit
theorem zwu (s : Str) : FC Tryz.prog 214 [sD s] [bD false] := by
 refine zau Tryz.call214 Tryz.func214 rfl (by kernel_rfl) (za6 (by kernel_rfl)) ?_
 simp -implicitDefEqProofs only [go_sem, Tryz.results214]
 simp
def zjy (s t : Str) : Int := if Op.bytesLess s t = true then -1 else if (s == t) = true then 0 else 1
theorem ztj (s t : Str) : FC Tryz.prog 163 [sD s, sD t] [iD (zjy s t)] := by
 have hc : zjy s t = if Op.bytesLess s t = true then -1 else if (s == t) = true then 0 else 1 := rfl
 refine zau Tryz.call163 Tryz.func163 rfl (by kernel_rfl) (za6 (by kernel_rfl)) ?_
 simp -implicitDefEqProofs only [go_sem, Tryz.results163]
 refine callF (zwu s) (by simp -implicitDefEqProofs only [go_sem]) ?_
 simp -implicitDefEqProofs only [go_sem]
 refine callF (zwu t) (by simp -implicitDefEqProofs only [go_sem]) ?_
 simp -implicitDefEqProofs only [go_sem]
 refine ⟨fun h => by rw [hc, if_pos h], fun h => ⟨fun h2 => ?_, fun h2 => ?_⟩⟩
 ·rw [h, Bool.false_or, Bool.not_eq_true'] at h2
  rw [hc, h, h2]; rfl
 ·rw [h, Bool.false_or, Bool.not_eq_false'] at h2
  rw [hc, h, h2]; rfl
end Go.Proofs.YtmhbmpbgpjljeaaGreat
namespace Go.Proofs.YtmhbmpbgpjljeaaGreat
set_option linter.unusedSimpArgs false
set_option linter.unusedVariables false
set_option linter.unusedSectionVars false
set_option maxRecDepth 4000
open Go.RowKit
theorem zqs (a b : Tm) : same a b = (same a.name b.name && same a.args b.args) := by
 cases a; cases b
 rw [Bool.eq_iff_iff]
 simp only [Bool.and_eq_true, zbw, Tm.name, Tm.args, Tm.mk.injEq]
theorem ztx {α : Type} [BEq α] [LawfulBEq α] (a b : α) : (a == b) = same a b := by
 rw [Bool.eq_iff_iff, beq_iff_eq, zbw]
theorem zzg (a b : Tm) (H : ∀ x ∈ a.args, ∀ y, FC Tryz.prog 88 [tmD x, tmD y] [bD (same x y)]) : FC Tryz.prog 88 [tmD a, tmD b] [bD (same a b)] := by
 refine zci (fun hw => ?_) Tryz.call88
 simp only [tmD, zab] at hw ⊢
 have hl : a.args.length <= 9223372036854775807 := by simp [zgk, wfT, zpc] at hw; exact hw.1.2.1
 refine zau Tryz.call88 Tryz.func88 rfl (by kernel_rfl) (za6 (by kernel_rfl)) ?_
 simp -implicitDefEqProofs only [go_sem, Tryz.results88]
 refine ⟨fun h1 => ?_, fun h1 => by rw [zqs, <- ztx a.name, show (a.name == b.name) = false by simpa using h1]; rfl⟩
 have h1' : same a.name b.name = true := by rw [<- ztx]; simpa using h1
 refine ⟨fun h2 => ?_, fun h2 => ?_⟩
 ·rw [zqs, h1', Bool.true_and, zd2.2 (by rintro e; simp [e] at h2)]
 have hlen : a.args.length = b.args.length := by simp at h2; omega
 have hs : same a b = same a.args b.args := by rw [zqs, h1', Bool.true_and]
 refine zaf (fun k : Nat => hd [(2, .one (.bx 2 0)), (3, .one (.bx 3 0)), (4, vB false), (5, vI k)] [(2, [.t (.str a.name), .t (tmS a.args)]), (3, [.t (.str b.name), .t (tmS b.args)])] []) (fun k => k <= a.args.length /\ same a.args b.args = same (a.args.drop k) (b.args.drop k)) (fun k => a.args.length - k) 0 (zaa ?_) ?_ ?_
 ·simp -implicitDefEqProofs only [go_sem]
 ·simp
 ·intro k ⟨hk, hr⟩
  by_cases hlt : k < a.args.length
  ·have hk2 : k < b.args.length := by omega
   simp -implicitDefEqProofs only [go_sem, hlt]
   refine drawn (by kernel_rfl) ?_
   simp -implicitDefEqProofs only [go_sem, zad, hlt, hk2, zab]
   refine zay (H a.args[k] (List.getElem_mem hlt) b.args[k]) (by simp -implicitDefEqProofs only [go_sem, zab]) ?_
   simp -implicitDefEqProofs only [go_sem, zab]
   rw [List.drop_eq_getElem_cons hlt, List.drop_eq_getElem_cons hk2, zc4] at hr
   refine ⟨by kernel_rfl, fun h => ?_, fun h => ?_⟩
   ·rw [hs, hr, show same a.args[k] b.args[k] = false by simpa using h]; rfl
   ·rw [show same a.args[k] b.args[k] = true by simpa using h, Bool.true_and] at hr
    rw [zam (by omega)]
    exact ⟨k + 1, ⟨by omega, hr⟩, by omega, zaa (by simp -implicitDefEqProofs only [go_sem])⟩
  ·simp -implicitDefEqProofs only [go_sem, hlt]
   rw [hs, hr, List.drop_of_length_le (by omega), List.drop_of_length_le (by omega), zie]
theorem qb2 : ∀ a b : Tm, FC Tryz.prog 88 [tmD a, tmD b] [bD (same a b)] := zbi fun n xs ih b => zzg (.mk n xs) b ih
end Go.Proofs.YtmhbmpbgpjljeaaGreat
namespace Go.Proofs.YtmhbmpbgpjljeaaGreat
set_option linter.unusedSimpArgs false
set_option linter.unusedVariables false
set_option linter.unusedSectionVars false
set_option maxRecDepth 4000
open Go.RowKit
attribute [local go_sem] Oper.semAt_some
end Go.Proofs.YtmhbmpbgpjljeaaGreat
namespace Go.Proofs.YtmhbmpbgpjljeaaGreat
set_option linter.unusedSimpArgs false
set_option linter.unusedVariables false
set_option linter.unusedSectionVars false
set_option maxRecDepth 4000
open Go.RowKit
def mtd : Nat -> Nat -> Str -> Str
 | 0, _, acc => acc
 | fuel + 1, n, acc => if n = 0 then acc else mtd fuel (n / 10) (UInt8.ofNat (48 + n % 10) :: acc)
def mtx (k : Nat) : Str := 109 :: mtd (k + 1) k []
theorem zmn (fuel n : Nat) (acc : Str) (h : 0 < n) : mtd (fuel + 1) n acc = mtd fuel (n / 10) (UInt8.ofNat (48 + n % 10) :: acc) := by rw [mtd, if_neg (by omega)]
theorem ztu : ∀ (f f' n : Nat) (acc : Str), n < f -> n < f' -> mtd f n acc = mtd f' n acc
 | 0, _, n, _, h, _ => absurd h (by omega)
 | _ + 1, 0, n, _, _, h => absurd h (by omega)
 | f + 1, f' + 1, n, acc, h, h' => by
  by_cases h0 : n = 0
  ·simp [mtd, h0]
  ·rw [zmn _ _ _ (by omega), zmn _ _ _ (by omega)]
   exact ztu f f' _ _ (by omega) (by omega)
theorem qg8 {n : Nat} (h : n < 256) : IntKind.u8.wrap (n : Int) = n := by
 have e : IntKind.u8.wrap (n : Int) = (n : Int) % 256 := rfl
 rw [e]; omega
theorem zg3 (k : Nat) (hk0 : 0 < k) (hk : k <= 4611686018427387904) : FC Tryz.prog 53 [iD k] [sD (mtx k)] := by
 have h0 : ((k : Int) <= 0) = False := by simp; omega
 refine zau Tryz.call53 Tryz.func53 rfl (by kernel_rfl) (za6 (by kernel_rfl)) ?_
 simp -implicitDefEqProofs only [go_sem, Tryz.results53, h0]
 refine zaf (fun (x : Nat × Str) => hd [(0, vI x.1), (3, vT (.str x.2))] [] []) (fun x => mtx k = 109 :: mtd (x.1 + 1) x.1 x.2 /\ x.1 * 10 ^ x.2.length <= k /\ x.2.length <= 19) (fun x => x.1) (k, []) (zaa ?_) ?_ ?_
 ·simp -implicitDefEqProofs only [go_sem]
 ·exact ⟨rfl, by simp, by simp⟩
 ·intro ⟨n, s⟩ ⟨h1, h2, hl⟩
  have hl : s.length <= 19 := hl
  have hn : n <= k := Nat.le_trans (Nat.le_mul_of_pos_right _ (Nat.pow_pos (by omega))) h2
  have hs : s.length <= 18 \/ n = 0 := by
   by_cases h : n = 0
   ·exact Or.inr h
   ·left
    refine Nat.le_of_not_lt fun hl => ?_
    have : 10 ^ 19 <= 10 ^ s.length := Nat.pow_le_pow_right (by omega) (by omega)
    have : 1 * 10 ^ s.length <= n * 10 ^ s.length := Nat.mul_le_mul_right _ (by omega)
    have h2 : n * 10 ^ s.length <= k := h2
    omega
  by_cases hp : 0 < n
  ·have hp' : ((n : Int) > 0) = True := by simp; omega
   have e1 : (n : Int).tmod 10 = ((n % 10 : Nat) : Int) := by rw [Int.tmod_eq_emod_of_nonneg (by omega)]; omega
   have e2 : (n : Int).tdiv 10 = ((n / 10 : Nat) : Int) := by rw [Int.tdiv_eq_ediv_of_nonneg (by omega)]; omega
   have e3 : IntKind.i64.wrap (48 + ((n % 10 : Nat) : Int)) = ((48 + n % 10 : Nat) : Int) := by rw [zbb (by omega) (by omega)]; omega
   have e4 : IntKind.u8.wrap ((48 + n % 10 : Nat) : Int) = ((48 + n % 10 : Nat) : Int) := qg8 (by omega)
   have e5 : IntKind.i64.wrap ((n / 10 : Nat) : Int) = ((n / 10 : Nat) : Int) := zbb (by omega) (by omega)
   simp -implicitDefEqProofs only [go_sem, hp', e1, e2, e3, e4, e5]
   refine ⟨by omega, ?_⟩
   refine zb6 (by simp -implicitDefEqProofs only [go_sem]) ?_
   simp -implicitDefEqProofs only [go_sem]
   have hs' : s.length <= 18 := by omega
   refine ⟨by omega, by omega, (n / 10, UInt8.ofNat (48 + n % 10) :: s), ⟨?_, ?_, show s.length + 1 <= 19 by omega⟩, by omega, zaa (by simp -implicitDefEqProofs only [go_sem, e2, e5])⟩
   ·rw [h1]
    show (109 :: mtd (n + 1) n s : Str) = 109 :: mtd (n / 10 + 1) (n / 10) (UInt8.ofNat (48 + n % 10) :: s)
    rw [zmn _ _ _ hp, ztu n (n / 10 + 1) _ _ (by omega) (by omega)]
   ·show n / 10 * 10 ^ (s.length + 1) <= k
    rw [Nat.pow_succ, Nat.mul_comm _ 10, <- Nat.mul_assoc]
    exact Nat.le_trans (Nat.mul_le_mul_right _ (by omega)) h2
  ·have h0' : n = 0 := by omega
   subst h0'
   simp -implicitDefEqProofs only [go_sem]
   refine ⟨by omega, ?_⟩
   rw [h1]; simp [mtd]
end Go.Proofs.YtmhbmpbgpjljeaaGreat
namespace Go.Proofs.YtmhbmpbgpjljeaaGreat
set_option linter.unusedSimpArgs false
set_option linter.unusedVariables false
set_option linter.unusedSectionVars false
set_option maxRecDepth 4000
open Go.RowKit
mutual
def zfh : Tm -> Nat -> Tm × Nat
 | .mk n0 s0, k => (.mk (mtx k) (za8 s0 (k + 1)).1, (za8 s0 (k + 1)).2)
def za8 : List Tm -> Nat -> List Tm × Nat
 | [], k => ([], k)
 | a :: xs, k => ((zfh a k).1 :: (za8 xs (zfh a k).2).1, (za8 xs (zfh a k).2).2)
end
mutual
def zgh : Tm -> Nat
 | .mk n0 s0 => 1 + 1 + zch s0
def zch : List Tm -> Nat
 | [] => 0
 | a :: xs => zgh a + zch xs
end
mutual
theorem qa6 : ∀ (a : Tm) (k : Nat), k <= (zfh a k).2 /\ (zfh a k).2 <= k + zgh a
 | .mk n0 s0, k => by have h_s0 := zd4 s0 (k + 1); simp only [zfh, zgh]; omega
theorem zd4 : ∀ (xs : List Tm) (k : Nat), k <= (za8 xs k).2 /\ (za8 xs k).2 <= k + zch xs
 | [], k => ⟨Nat.le_refl _, Nat.le_refl _⟩
 | a :: xs, k => by have h1 := qa6 a k; have h2 := zd4 xs (zfh a k).2; simp only [za8, zch]; omega
end
theorem ziz : ∀ xs : List Tm, xs.length <= zch xs
 | [] => Nat.le_refl _
 | a :: xs => by
  have := ziz xs
  have : 1 <= zgh a := by obtain ⟨n0, s0⟩ := a; simp only [zgh]; omega
  simp only [List.length_cons, zch]; omega
theorem zhc (xs : List Tm) (H : ∀ a ∈ xs, ∀ k : Nat, 0 < k -> k + zch a.args <= 4611686018427387904 -> IC Tryz.prog 16 [] (.one (tmS a.args)) [iD k] (.one (tmS (za8 a.args k).1)) [iD (za8 a.args k).2]) :
  ∀ k : Nat, 0 < k -> k + zch xs <= 4611686018427387904 -> IC Tryz.prog 16 [] (.one (tmS xs)) [iD k] (.one (tmS (za8 xs k).1)) [iD (za8 xs k).2] := by
 intro k h0 hk
 refine qab Tryz.call16 Tryz.func16 rfl (by kernel_rfl) (by simp only [ze9, rd, List.map_cons, List.map_nil, List.nil_append, List.length_cons, List.length_nil, Tryz.ntmps16]; omega) (by simp only [Tryz.ntmps16]; omega) (fun vs => ?_)
 simp -implicitDefEqProofs only [go_sem, Tryz.results16, qd9, zva, ze9, PI]
 refine zaf (fun (x : List Tm × List Tm × Nat) => hd [(0, .one (.ow 0 0)), (1000000, .one (.ow 0 0)), (1, vI x.2.2), (5, vI x.1.length)] [] [(0, ⟨true, 2, x.1.map tmC ++ zfa vs x.1.length (x.2.1.map tmC), 0, true⟩)])
  (fun x => (za8 xs k).1 = x.1 ++ (za8 x.2.1 x.2.2).1 /\ (za8 xs k).2 = (za8 x.2.1 x.2.2).2 /\ 0 < x.2.2 /\ x.2.2 + zch x.2.1 <= 4611686018427387904 /\ x.1.length + x.2.1.length = xs.length /\ ∀ a ∈ x.2.1, a ∈ xs) (fun x => x.2.1.length) ([], xs, k) (zaa ?_) ?_ ?_
 ·simp -implicitDefEqProofs only [go_sem]
 ·exact ⟨rfl, rfl, h0, hk, by simp, fun _ h => h⟩
 ·intro ⟨dn, rest, kk⟩ ⟨h1, h2, h3, h4, h6, h5⟩
  simp only at h1 h2 h3 h4 h5 h6
  cases rest with
  | nil =>
   simp only [za8, List.append_nil] at h1 h2
   simp -implicitDefEqProofs only [go_sem, h1, h2]
  | cons a rest =>
   obtain ⟨n0, s0⟩ := a
   simp only [za8, zfh, zch, zgh] at h1 h2 h4
   have hc_s0 := zd4 s0 (kk + 1)
   have w0 : IntKind.i64.wrap (((kk : Nat) : Int) + 1) = ((kk + 1 : Nat) : Int) := zam (by omega)
   have hln := ziz xs
   rw [List.length_cons] at h6
   have wl : IntKind.i64.wrap ((dn.length : Int) + 1) = ((dn.length + 1 : Nat) : Int) := zam (by omega)
   simp -implicitDefEqProofs only [go_sem, zab (.mk _ _), Tm.name, Tm.args]
   refine callF (zg3 kk (by omega) (by omega)) (by simp -implicitDefEqProofs only [go_sem, w0]) ?_
   simp -implicitDefEqProofs only [go_sem, w0]
   refine zhp (by simp -implicitDefEqProofs only [go_sem, implies_true, w0]) ?_
   simp -implicitDefEqProofs only [go_sem, implies_true, w0]
   refine callN (l := [(0, .one (.ow 0 0)), (1000000, .one (.ow 0 0)), (5, vI dn.length), (24, .one (.cv (vs dn.length 1))), (25, vI ((kk + 1) : Nat))]) (bl := []) (el := [(0, ⟨true, 2, dn.map tmC ++ [.str (mtx kk), .pin (vs dn.length 1) (tmS s0)] :: zfa vs (dn.length + 1) (rest.map tmC), 0, true⟩)]) 0 dn.length 1 (H (.mk n0 s0) (h5 _ (by simp)) (kk + 1) (by omega) (by show (kk + 1) + zch s0 <= _; omega)) (by simp -implicitDefEqProofs only [go_sem, w0, tmS]) rfl rfl rfl (by simp -implicitDefEqProofs only [go_sem, tmS, Tm.name, Tm.args]) rfl ?_
   simp -implicitDefEqProofs only [go_sem, w0, Tm.name, Tm.args]
   refine ⟨(dn ++ [.mk (mtx kk) (za8 s0 (kk + 1)).1], rest, (za8 s0 (kk + 1)).2), ⟨by simpa using h1, h2, by show 0 < (za8 s0 (kk + 1)).2; omega, by show (za8 s0 (kk + 1)).2 + zch rest <= _; omega, by simp; omega, fun b hb => h5 b (by simp [hb])⟩, by simp, zaa ?_⟩
   simp -implicitDefEqProofs only [go_sem, wl, zab (.mk _ _), Tm.name, Tm.args, List.map_append, List.append_assoc]
theorem ziu (xs : List Tm) (k : Nat) (h0 : 0 < k) (hk : k + zch xs <= 4611686018427387904) : IC Tryz.prog 16 [] (.one (tmS xs)) [iD k] (.one (tmS (za8 xs k).1)) [iD (za8 xs k).2] :=
 zhc xs (fun a _ => zbi (P := fun a => ∀ k : Nat, 0 < k -> k + zch a.args <= 4611686018427387904 -> IC Tryz.prog 16 [] (.one (tmS a.args)) [iD k] (.one (tmS (za8 a.args k).1)) [iD (za8 a.args k).2]) (fun n ys ih => zhc ys ih) a) k h0 hk
theorem zhj (xs : List Tm) (H : ∀ a ∈ xs, ∀ k : Nat, 0 < k -> k + zch a.args <= 4611686018427387904 -> FC Tryz.prog 17 [.one (tmS (za8 a.args k).1), iD k] [iD (za8 a.args k).2]) :
  ∀ k : Nat, 0 < k -> k + zch xs <= 4611686018427387904 -> FC Tryz.prog 17 [.one (tmS (za8 xs k).1), iD k] [iD (za8 xs k).2] := by
 intro k h0 hk
 refine zau Tryz.call17 Tryz.func17 rfl (by kernel_rfl) (za6 (by kernel_rfl)) ?_
 simp -implicitDefEqProofs only [go_sem, Tryz.results17]
 refine zaf (fun (x : List Tm × List Tm × Nat) => hd [(0, vT (.sl 2 (x.1.map tmC ++ (za8 x.2.1 x.2.2).1.map tmC))), (1, vI x.2.2), (5, vI x.1.length)] [] [])
  (fun x => (za8 xs k).1 = x.1 ++ (za8 x.2.1 x.2.2).1 /\ (za8 xs k).2 = (za8 x.2.1 x.2.2).2 /\ 0 < x.2.2 /\ x.2.2 + zch x.2.1 <= 4611686018427387904 /\ x.1.length + x.2.1.length = xs.length /\ ∀ a ∈ x.2.1, a ∈ xs) (fun x => x.2.1.length) ([], xs, k) (zaa ?_) ?_ ?_
 ·simp -implicitDefEqProofs only [go_sem]
 ·exact ⟨rfl, rfl, h0, hk, by simp, fun _ h => h⟩
 ·intro ⟨dn, rest, kk⟩ ⟨h1, h2, h3, h4, h6, h5⟩
  simp only at h1 h2 h3 h4 h5 h6
  cases rest with
  | nil =>
   simp only [za8, List.append_nil] at h1 h2
   simp -implicitDefEqProofs only [go_sem, h2, za8]
  | cons a rest =>
   obtain ⟨n0, s0⟩ := a
   simp only [za8, zfh, zch, zgh] at h1 h2 h4
   have hc_s0 := zd4 s0 (kk + 1)
   have w0 : IntKind.i64.wrap (((kk : Nat) : Int) + 1) = ((kk + 1 : Nat) : Int) := zam (by omega)
   have hln := ziz xs
   rw [List.length_cons] at h6
   have wl : IntKind.i64.wrap ((dn.length : Int) + 1) = ((dn.length + 1 : Nat) : Int) := zam (by omega)
   simp -implicitDefEqProofs only [go_sem, za8, zfh, zab (.mk _ _), Tm.name, Tm.args]
   refine drawn (by kernel_rfl) ?_
   simp -implicitDefEqProofs only [go_sem]
   refine zay (zg3 kk (by omega) (by omega)) (by simp -implicitDefEqProofs only [go_sem, beq_self_eq_true, bne_self_eq_false, w0]) ?_
   simp -implicitDefEqProofs only [go_sem, beq_self_eq_true, bne_self_eq_false, w0]
   refine ⟨by kernel_rfl, ?_⟩
   refine callF (H (.mk n0 s0) (h5 _ (by simp)) (kk + 1) (by omega) (by show (kk + 1) + zch s0 <= _; omega)) (by simp -implicitDefEqProofs only [go_sem, w0, Tm.name, Tm.args]) ?_
   simp -implicitDefEqProofs only [go_sem, w0, Tm.name, Tm.args]
   refine ⟨(dn ++ [.mk (mtx kk) (za8 s0 (kk + 1)).1], rest, (za8 s0 (kk + 1)).2), ⟨by simpa using h1, h2, by show 0 < (za8 s0 (kk + 1)).2; omega, by show (za8 s0 (kk + 1)).2 + zch rest <= _; omega, by simp; omega, fun b hb => h5 b (by simp [hb])⟩, by simp, zaa ?_⟩
   simp -implicitDefEqProofs only [go_sem, wl, zab (.mk _ _), Tm.name, Tm.args, List.map_append, List.append_assoc]
theorem zpq (xs : List Tm) (k : Nat) (h0 : 0 < k) (hk : k + zch xs <= 4611686018427387904) : FC Tryz.prog 17 [.one (tmS (za8 xs k).1), iD k] [iD (za8 xs k).2] :=
 zhj xs (fun a _ => zbi (P := fun a => ∀ k : Nat, 0 < k -> k + zch a.args <= 4611686018427387904 -> FC Tryz.prog 17 [.one (tmS (za8 a.args k).1), iD k] [iD (za8 a.args k).2]) (fun n ys ih => zhj ys ih) a) k h0 hk
end Go.Proofs.YtmhbmpbgpjljeaaGreat
namespace Go.Proofs.YtmhbmpbgpjljeaaGreat
set_option linter.unusedSimpArgs false
set_option linter.unusedVariables false
set_option linter.unusedSectionVars false
set_option maxRecDepth 4000
open Go.RowKit
mutual
theorem zxl : ∀ a : Tm, zgh a <= 2 + 2 * a.wt
 | .mk n s => by
  have := zib s
  rw [Tm.wt_eq, zgh]; unfold zms at this
  simp only [Tm.name, Tm.args]; omega
theorem zib : ∀ xs : List Tm, zch xs <= 2 * zms xs
 | [] => by simp [zch]
 | a :: xs => by
  have h1 := zxl a
  have h2 := zib xs
  unfold zms at h2 ⊢
  rw [zch, List.length_cons, List.map_cons, List.sum_cons]; omega
end
end Go.Proofs.YtmhbmpbgpjljeaaGreat
namespace Go.Proofs.YtmhbmpbgpjljeaaGreat
set_option linter.unusedSimpArgs false
set_option linter.unusedVariables false
set_option linter.unusedSectionVars false
set_option maxRecDepth 4000
open Go.RowKit
set_option maxHeartbeats 400000 in
theorem zvn (xs : List Tm) (H : ∀ x ∈ xs, ∀ l : Int, 0 <= l -> l <= 1048576 -> FC Tryz.prog 175 [tmD x, iD l] [iD (szR x.wt l)]) (l : Int) (h0 : 0 <= l) (h1 : l <= 1048576) :
  FC Tryz.prog 222 [.one (tmS xs), iD l] [iD (szR (zms xs) l)] := by
 refine zci (fun hw => ?_) Tryz.call222
 have hl : xs.length <= 9223372036854775807 := by simpa [zgk, wfT] using hw.1.1
 refine zau Tryz.call222 Tryz.func222 rfl (by kernel_rfl) (za6 (by kernel_rfl)) ?_
 simp -implicitDefEqProofs only [go_sem, Tryz.results222]
 rw [zbb (by omega) (by omega)]
 have hW : zms xs = xs.length + (xs.map Tm.wt).sum := rfl
 refine ⟨fun h => ?_, fun h => ?_⟩
 ·rw [zde (by simp at h; omega)]
 ·have hlen : (xs.length : Int) <= l := by simp at h; omega
  refine zaf (fun k : Nat => hd [(0, vT (tmS xs)), (1, vI (l - xs.length - zh6 Tm.wt xs k)), (5, vI k)] [] []) (fun k => k <= xs.length /\ 0 <= l - xs.length - zh6 Tm.wt xs k) (fun k => xs.length - k) 0 (zaa ?_) ?_ ?_
  ·simp -implicitDefEqProofs only [go_sem]
   simp [zdj]
  ·simpa [zdj] using hlen
  ·intro k ⟨hk, hp⟩
   by_cases hlt : k < xs.length
   ·have hs := zbm Tm.wt xs k hlt
    have hs2 := zb7 Tm.wt xs (k + 1)
    simp -implicitDefEqProofs only [go_sem, List.length_map, zad, hlt, zab]
    refine callF (H xs[k] (List.getElem_mem hlt) (l - xs.length - zh6 Tm.wt xs k) hp (by omega)) (by simp -implicitDefEqProofs only [go_sem, zab]) ?_
    simp -implicitDefEqProofs only [go_sem, zab]
    refine ⟨fun h => ?_, fun h => ?_⟩
    ·have := zg1 hp (by simpa using h)
     rw [zde (by omega)]
    ·obtain ⟨h2, h3⟩ := zfk (by simpa using h)
     rw [zam (by omega)]
     exact ⟨k + 1, ⟨hlt, by omega⟩, by omega, zaa (by simp -implicitDefEqProofs only [go_sem]; rw [h3]; congr 1; omega)⟩
   ·simp -implicitDefEqProofs only [go_sem, List.length_map, hlt]
    have hall := zlh Tm.wt xs k (by omega)
    rw [hall, zk2 (by omega)]; congr 1; omega
set_option maxHeartbeats 400000 in
theorem zvr (xs : List Tm) (H : ∀ x ∈ xs, FC Tryz.prog 179 [tmD x] [tmD x]) (hs : xs.length <= 1048576) :
  FC Tryz.prog 225 [.one (tmS xs)] [.one (tmS xs)] := by
 refine zci (fun hw => ?_) Tryz.call225
 refine zau Tryz.call225 Tryz.func225 rfl (by kernel_rfl) (za6 (by kernel_rfl)) ?_
 simp -implicitDefEqProofs only [go_sem, Tryz.results225]
 refine qdb (by simp -implicitDefEqProofs only [go_sem]; omega) ?_
 simp -implicitDefEqProofs only [go_sem]
 refine zaf (fun k : Nat => hd [(0, vT (tmS xs)), (3, .one (.ow 224 0)), (4, vI k)] [] [(224, ⟨true, 2, (xs.take k).map tmC ++ List.replicate (xs.length - k) [T.str [], T.sl 2 []], 0, true⟩)]) (fun k => k <= xs.length) (fun k => xs.length - k) 0 (zaa ?_) ?_ ?_
 ·simp -implicitDefEqProofs only [go_sem]
  simp
 ·simp
 ·intro k hk
  by_cases hlt : k < xs.length
  ·have hlen : ((xs.take k).map tmC ++ List.replicate (xs.length - k) [T.str [], T.sl 2 []]).length = xs.length := by simp; omega
   have hlt2 : k < k + (xs.length - k) := by omega
   simp -implicitDefEqProofs only [go_sem, List.length_map, zad, hlt, zab]
   refine callF (H xs[k] (List.getElem_mem hlt)) (by simp -implicitDefEqProofs only [go_sem, zab, hlen, hlt, List.length_append, List.length_map, List.length_take, List.length_replicate, Nat.min_eq_left hk, hlt2]) ?_
   simp -implicitDefEqProofs only [go_sem, zab, hlen, hlt, List.length_append, List.length_map, List.length_take, List.length_replicate, Nat.min_eq_left hk, hlt2]
   refine zhp (by simp -implicitDefEqProofs only [go_sem]; simp) ?_
   simp -implicitDefEqProofs only [go_sem]
   rw [zam (by omega)]
   refine ⟨k + 1, by omega, by omega, zaa ?_⟩
   simp -implicitDefEqProofs only [go_sem]
   have hf := zf2 ((xs.take k).map tmC) xs.length k [T.str [], T.sl 2 []] (tmC xs[k]) (by simp; omega) hlt (by simp [zab])
   simp only [zab] at hf
   rw [hf, List.take_succ_eq_append_getElem hlt, List.map_append, List.map_singleton]
   simp only [zab]
  ·simp -implicitDefEqProofs only [go_sem, List.length_map, hlt]
   simp [List.take_of_length_le (show xs.length <= k by omega), show xs.length - k = 0 by omega]
set_option maxHeartbeats 400000 in
theorem zk0 (xs ys : List Tm) (H : ∀ x ∈ xs, ∀ y, FC Tryz.prog 52 [tmD x, tmD y] [bD (same x y)]) :
  FC Tryz.prog 15 [.one (tmS xs), .one (tmS ys)] [bD (same xs ys)] := by
 refine zci (fun hw => ?_) Tryz.call15
 have hl : xs.length <= 9223372036854775807 := by simpa [zgk, wfT] using hw.1.1
 have hl2 : ys.length <= 9223372036854775807 := by simpa [zgk, wfT] using hw.2.1.1
 refine zau Tryz.call15 Tryz.func15 rfl (by kernel_rfl) (za6 (by kernel_rfl)) ?_
 simp -implicitDefEqProofs only [go_sem, Tryz.results15]
 refine ⟨fun h => ?_, fun h => ?_⟩
 ·rw [zd2.2 (by rintro rfl; simp at h)]
 ·have hlen : xs.length = ys.length := by simp at h; omega
  refine zaf (fun k : Nat => hd [(0, vT (tmS xs)), (1, vT (tmS ys)), (4, vB false), (5, vI k)] [] []) (fun k => k <= xs.length /\ same xs ys = same (xs.drop k) (ys.drop k)) (fun k => xs.length - k) 0 (zaa ?_) ?_ ?_
  ·simp -implicitDefEqProofs only [go_sem]
  ·simp
  ·intro k ⟨hk, hr⟩
   by_cases hlt : k < xs.length
   ·have hk2 : k < ys.length := by omega
    simp -implicitDefEqProofs only [go_sem, List.length_map, hlt]
    refine drawn (by kernel_rfl) ?_
    simp -implicitDefEqProofs only [go_sem, List.length_map, zad, hlt, hk2, zab]
    refine zay (H xs[k] (List.getElem_mem hlt) ys[k]) (by simp -implicitDefEqProofs only [go_sem, zab]) ?_
    simp -implicitDefEqProofs only [go_sem, zab]
    refine ⟨by kernel_rfl, fun h => ?_, fun h => ?_⟩
    ·rw [hr, List.drop_eq_getElem_cons hlt, List.drop_eq_getElem_cons hk2, zc4, show same xs[k] ys[k] = false by simpa using h]; rfl
    ·rw [List.drop_eq_getElem_cons hlt, List.drop_eq_getElem_cons hk2, zc4, show same xs[k] ys[k] = true by simpa using h, Bool.true_and] at hr
     rw [zam (by omega)]
     exact ⟨k + 1, ⟨by omega, hr⟩, by omega, zaa (by simp -implicitDefEqProofs only [go_sem])⟩
   ·simp -implicitDefEqProofs only [go_sem, List.length_map, hlt]
    rw [hr, List.drop_of_length_le (by omega), List.drop_of_length_le (by omega), zie]
set_option maxHeartbeats 400000 in
theorem qau (a : Tm) (H : ∀ l : Int, 0 <= l -> l <= 1048576 -> FC Tryz.prog 222 [.one (tmS a.args), iD l] [iD (szR (zms a.args) l)]) (l : Int) (h0 : 0 <= l) (h1 : l <= 1048576) :
  FC Tryz.prog 175 [tmD a, iD l] [iD (szR a.wt l)] := by
 refine zci (fun hw => ?_) Tryz.call175
 simp only [tmD, zab] at hw ⊢
 have hW := a.wt_eq
 have hls : a.name.length <= 9223372036854775807 /\ True := by simp [zgk, wfT, zpc] at hw; simp [hw]
 refine zau Tryz.call175 Tryz.func175 rfl (by kernel_rfl) (za6 (by kernel_rfl)) ?_
 simp -implicitDefEqProofs only [go_sem, Tryz.results175]
 rw [zbb (by omega) (by omega)]
 refine ⟨fun h1 => ?_, fun h1 => ?_⟩
 ·rw [zde (by simp at h1; have hu0 : zms a.args = a.args.length + (a.args.map Tm.wt).sum := rfl;  omega)]
 have k1 : (a.name.length : Int) <= l := by simp at h1; omega
 refine callF (H (l - (a.name.length : Int)) (by omega) (by omega)) (by simp -implicitDefEqProofs only [go_sem, zab]) ?_
 simp -implicitDefEqProofs only [go_sem, zab]
 refine ⟨fun h2 => ?_, fun h2 => ?_⟩
 ·have := zg1 (by omega) (show szR (zms a.args) (l - (a.name.length : Int)) < 0 by simpa using h2)
  rw [zde (by have hu0 : zms a.args = a.args.length + (a.args.map Tm.wt).sum := rfl;  omega)]
 obtain ⟨k2, j2⟩ := zfk (show ¬ szR (zms a.args) (l - (a.name.length : Int)) < 0 by simpa using h2)
 rw [show szR a.wt l = l - a.wt from zk2 (by have hu0 : zms a.args = a.args.length + (a.args.map Tm.wt).sum := rfl;  omega)]; exact ztf (by have hu0 : zms a.args = a.args.length + (a.args.map Tm.wt).sum := rfl;  omega)
set_option maxHeartbeats 400000 in
theorem zy9 (a : Tm) (H : FC Tryz.prog 225 [.one (tmS a.args)] [.one (tmS a.args)]) (hs : a.wt <= 1048576) : FC Tryz.prog 179 [tmD a] [tmD a] := by
 have hW := a.wt_eq
 simp only [tmD, zab]
 refine zau Tryz.call179 Tryz.func179 rfl (by kernel_rfl) (za6 (by kernel_rfl)) ?_
 simp -implicitDefEqProofs only [go_sem, Tryz.results179]
 refine callF (H) (by simp -implicitDefEqProofs only [go_sem, zab]) ?_
 simp -implicitDefEqProofs only [go_sem, zab]
set_option maxHeartbeats 400000 in
theorem qap (a b : Tm) (H : FC Tryz.prog 15 [.one (tmS a.args), .one (tmS b.args)] [bD (same a.args b.args)]) : FC Tryz.prog 52 [tmD a, tmD b] [bD (same a b)] := by
 simp only [tmD, zab]
 refine zau Tryz.call52 Tryz.func52 rfl (by kernel_rfl) (za6 (by kernel_rfl)) ?_
 simp -implicitDefEqProofs only [go_sem, Tryz.results52]
 refine ⟨fun h1 => ?_, fun h1 => ?_⟩
 ·rw [zd2.2 (by rintro rfl; simp [zbg] at h1)]
 refine callF (H) (by simp -implicitDefEqProofs only [go_sem, zab]) ?_
 simp -implicitDefEqProofs only [go_sem, zab]
 refine ⟨fun h2 => ?_, fun h2 => ?_⟩
 ·rw [zd2.2 (by rintro rfl; simp [zbg] at h2)]
 rw [zbw.2 (by cases a; cases b; simp [zbw, Tm.name, Tm.args] at h1 h2 ⊢; simp [h1, h2])]
theorem qde : ∀ a : Tm, ∀ l : Int, 0 <= l -> l <= 1048576 -> FC Tryz.prog 175 [tmD a, iD l] [iD (szR a.wt l)] :=
 zbi fun b0 xs ih l h0 h1 => qau (.mk b0 xs) (fun l h0 h1 => zvn xs ih l h0 h1) l h0 h1
theorem qd6 : ∀ a : Tm, a.wt <= 1048576 -> FC Tryz.prog 179 [tmD a] [tmD a] := by
 refine zbi fun b0 xs ih hs => ?_
 have hW := Tm.wt_eq (.mk b0 xs)
 simp only [Tm.name, Tm.args] at hW
 refine zy9 _ (zvr xs (fun x hx => ih x hx ?_) (by omega)) hs
 have := zcr Tm.wt xs x hx
 omega
theorem zs9 : ∀ a b : Tm, FC Tryz.prog 52 [tmD a, tmD b] [bD (same a b)] :=
 zbi fun b0 xs ih b => qap (.mk b0 xs) b (zk0 xs b.args ih)
theorem qa7 (xs ys : List Tm) : FC Tryz.prog 15 [.one (tmS xs), .one (tmS ys)] [bD (same xs ys)] := zk0 xs ys fun x _ => zs9 x
end Go.Proofs.YtmhbmpbgpjljeaaGreat
namespace Go.Proofs.YtmhbmpbgpjljeaaGreat
set_option linter.unusedSimpArgs false
set_option linter.unusedVariables false
set_option linter.unusedSectionVars false
set_option maxRecDepth 4000
open Go.RowKit
def rvT (ps : List (Str × Tm)) : Tm -> Tm := Tm.fold fun m _ rs => if rs.length = 0 then (match ps.find? fun p => p.1 == m with | some p => p.2 | none => .mk m []) else .mk m rs
end Go.Proofs.YtmhbmpbgpjljeaaGreat
namespace Go.Proofs.YtmhbmpbgpjljeaaGreat
set_option linter.unusedSimpArgs false
set_option linter.unusedVariables false
set_option linter.unusedSectionVars false
set_option maxRecDepth 4000
open Go.RowKit
inductive Ex where
 | mk (form : Fm) (terms : List Tm) (parts : List Ex)
mutual
def Ex.fold {α : Type} (g : Fm -> List Tm -> List Ex -> List α -> α) : Ex -> α
 | .mk f t ps => g f t ps (Ex.folds g ps)
def Ex.folds {α : Type} (g : Fm -> List Tm -> List Ex -> List α -> α) : List Ex -> List α
 | [] => []
 | a :: xs => Ex.fold g a :: Ex.folds g xs
end
end Go.Proofs.YtmhbmpbgpjljeaaGreat
namespace Go.Proofs.YtmhbmpbgpjljeaaGreat
set_option linter.unusedSimpArgs false
set_option linter.unusedVariables false
set_option linter.unusedSectionVars false
set_option maxRecDepth 4000
open Go.RowKit
noncomputable def dec (p : Prop) : Bool := @decide p (Classical.propDecidable _)
theorem zdd {p : Prop} : dec p = true ↔ p := by simp [dec]
end Go.Proofs.YtmhbmpbgpjljeaaGreat
namespace Go.Proofs.YtmhbmpbgpjljeaaGreat
set_option linter.unusedSimpArgs false
set_option linter.unusedVariables false
set_option linter.unusedSectionVars false
set_option maxRecDepth 4000
open Go.RowKit
def orE (x y : Int) : Int := if x = 0 then y else x
structure GCmp {α : Type} (c : α -> α -> Int) : Prop where
 neg : ∀ a b, c b a = - c a b
 tr : ∀ a b d, c a b <= 0 -> c b d <= 0 -> c a d <= 0
section
variable {α β : Type} {c c1 c2 : α -> α -> Int}
theorem GCmp.self (h : GCmp c) (a : α) : c a a = 0 := by have := h.neg a a; omega
theorem GCmp.comp (h : GCmp c) (f : β -> α) : GCmp fun x y => c (f x) (f y) := ⟨fun a b => h.neg _ _, fun a b d => h.tr _ _ _⟩
theorem GCmp.lex (h1 : GCmp c1) (h2 : GCmp c2) : GCmp fun a b => orE (c1 a b) (c2 a b) := by
 refine ⟨fun a b => ?_, fun a b d => ?_⟩
 ·have n1 := h1.neg a b
  have n2 := h2.neg a b
  unfold orE
  split <;> split <;> omega
 ·have t1 := h1.tr a b d
  have t2 := h2.tr a b d
  have n1 := h1.neg a b
  have n2 := h1.neg b d
  have n3 := h1.neg a d
  have t3 := h1.tr d a b
  have t4 := h1.tr b d a
  unfold orE
  split <;> split <;> split <;> omega
end
def zvx {α : Type} (c : α -> α -> Int) : List α -> List α -> Int
 | [], [] => 0
 | [], _ :: _ => -1
 | _ :: _, [] => 1
 | x :: xs, y :: ys => orE (c x y) (zvx c xs ys)
theorem qai {α : Type} {c : α -> α -> Int} (h : GCmp c) : GCmp (zvx c) := by
 have hn : ∀ a b, zvx c b a = - zvx c a b := by
  intro a
  induction a with
  | nil => intro b; cases b <;> rfl
  | cons x xs ih =>
   intro b
   cases b with
   | nil => rfl
   | cons y ys =>
    have n1 := h.neg x y
    have n2 := ih ys
    unfold zvx orE
    split <;> split <;> omega
 refine ⟨hn, ?_⟩
 intro a
 induction a with
 | nil => intro b d h1 h2; cases d with
  | nil => exact Int.le_refl _
  | cons => unfold zvx; omega
 | cons x xs ih =>
  intro b d h1 h2
  cases b with
  | nil => unfold zvx at h1; omega
  | cons y ys =>
   cases d with
   | nil => unfold zvx at h2; omega
   | cons z zs =>
    have t1 := h.tr x y z
    have t2 := ih ys zs
    have n1 := h.neg x y
    have n2 := h.neg y z
    have n3 := h.neg x z
    have t3 := h.tr z x y
    have t4 := h.tr y z x
    unfold zvx orE at h1 h2 ⊢
    split at h1 <;> split at h2 <;> split <;> omega
def zj7 (x y : Bool) : Int := if (x && !y) = true then -1 else if (y && !x) = true then 1 else 0
def qfa (x y : Nat) : Int := if x < y then -1 else if y < x then 1 else 0
theorem zkg : GCmp zj7 := ⟨by decide, by decide⟩
theorem zne : GCmp qfa := by
 refine ⟨fun a b => ?_, fun a b d => ?_⟩ <;> unfold qfa <;> repeat' split
 all_goals omega
theorem zjb : GCmp zjy := by
 have hc : ∀ s t : Str, zjy s t = if s < t then -1 else if s = t then 0 else 1 := fun s t => by
  unfold zjy
  rw [zzi]
  simp only [decide_eq_true_eq, beq_iff_eq]
 have tot : ∀ s t : Str, ¬ s < t -> s ≠ t -> t < s := fun s t h1 h2 => by
  rcases List.le_iff_lt_or_eq.1 (List.not_lt.1 h1) with h | h
  ·exact h
  ·exact absurd h.symm h2
 refine ⟨fun a b => ?_, fun a b d => ?_⟩
 ·rw [hc, hc]
  by_cases h1 : a < b
  ·have h2 : ¬ b < a := fun h => zpi a (List.lt_trans h1 h)
   have h3 : b ≠ a := fun e => zpi a (e ▸ h1)
   rw [if_pos h1, if_neg h2, if_neg h3]; rfl
  ·by_cases h2 : a = b
   ·subst h2
    rw [if_neg h1, if_pos rfl]; rfl
   ·rw [if_neg h1, if_neg h2, if_pos (tot _ _ h1 h2)]
 ·rw [hc, hc, hc]
  intro h1 h2
  by_cases h3 : a < b
  ·by_cases h4 : b < d
   ·rw [if_pos (List.lt_trans h3 h4)]; omega
   ·rw [if_neg h4] at h2
    by_cases h5 : b = d
    ·subst h5; rw [if_pos h3]; omega
    ·rw [if_neg h5] at h2; omega
  ·rw [if_neg h3] at h1
   by_cases h4 : a = b
   ·subst h4; exact h2
   ·rw [if_neg h4] at h1; omega
theorem zga {s t : Str} : zjy s t = 0 ↔ s = t := by
 unfold zjy
 rw [zzi]
 by_cases h : s < t
 ·have : s ≠ t := fun e => zpi t (e ▸ h)
  simp [h, this]
 ·by_cases h2 : s = t
  ·simp [h2]
  ·simp [h, h2]
def hdT (a b : Tm) : Int := orE (zj7 (za3 a.name) (za3 b.name)) (orE (zjy a.name b.name) (qfa a.args.length b.args.length))
mutual
def zcn : Tm -> Tm -> Int
 | .mk n xs, b => orE (hdT (.mk n xs) b) (zdg xs b.args)
def zdg : List Tm -> List Tm -> Int
 | [], _ => 0
 | _ :: _, [] => 0
 | x :: xs, y :: ys => orE (zcn x y) (zdg xs ys)
end
theorem zjl (a b : Tm) : zcn a b = orE (hdT a b) (zdg a.args b.args) := by cases a; rw [zcn]; rfl
def cmpK : Nat -> Tm -> Tm -> Int
 | 0, _, _ => 0
 | k + 1, a, b => orE (hdT a b) (zvx (cmpK k) a.args b.args)
theorem qdr : GCmp hdT := GCmp.lex (zkg.comp fun a : Tm => za3 a.name) (GCmp.lex (zjb.comp Tm.name) (zne.comp fun a : Tm => a.args.length))
theorem zig : ∀ k, GCmp (cmpK k)
 | 0 => ⟨fun _ _ => rfl, fun _ _ _ _ _ => Int.le_refl _⟩
 | k + 1 => GCmp.lex qdr ((qai (zig k)).comp Tm.args)
theorem zlu {a b : Tm} : hdT a b = 0 ↔ a.name = b.name /\ a.args.length = b.args.length := by
 unfold hdT
 constructor
 ·intro h
  unfold orE at h
  split at h
  ·split at h
   ·rename_i h2
    refine ⟨zga.1 h2, ?_⟩
    unfold qfa at h
    split at h
    ·omega
    ·split at h <;> omega
   ·exact absurd h ‹_›
  ·exact absurd h ‹_›
 ·rintro ⟨h1, h2⟩
  rw [h1, h2, zkg.self, zjb.self, zne.self]; rfl
def Tm.dp : Tm -> Nat := Tm.fold fun _ _ rs => 1 + rs.sum
theorem Tm.dp_eq (a : Tm) : a.dp = 1 + (a.args.map Tm.dp).sum := Tm.fold_eq _ a
theorem zrr (c : Tm -> Tm -> Int) : ∀ (xs ys : List Tm), xs.length = ys.length -> (∀ x ∈ xs, ∀ y, zcn x y = c x y) -> zdg xs ys = zvx c xs ys
 | [], [], _, _ => by rw [zdg]; rfl
 | [], _ :: _, h, _ => by simp at h
 | _ :: _, [], h, _ => by simp at h
 | x :: xs, y :: ys, h, H => by
  rw [zdg, zvx, H x (by simp) y, zrr c xs ys (by simpa using h) fun x hx => H x (by simp [hx])]
theorem zsc : ∀ (a : Tm) (k : Nat), a.dp <= k -> ∀ b, zcn a b = cmpK k a b := zbi fun n xs ih k hk b => by
 have hd : (Tm.mk n xs).dp = 1 + (xs.map Tm.dp).sum := Tm.dp_eq _
 cases k with
 | zero => omega
 | succ k =>
  rw [zjl, cmpK]
  by_cases h : hdT (.mk n xs) b = 0
  ·rw [show (Tm.mk n xs).args = xs from rfl, zrr (cmpK k) xs b.args (zlu.1 h).2 fun x hx y => ih x hx k (by have := zcr Tm.dp xs x hx; omega) y]
  ·unfold orE
   rw [if_neg h, if_neg h]
theorem zda (a b : Tm) : zcn b a = - zcn a b := by
 rw [zsc a (a.dp + b.dp) (by omega), zsc b (a.dp + b.dp) (by omega)]
 exact (zig _).neg a b
theorem zpt (a b d : Tm) (h1 : zcn a b <= 0) (h2 : zcn b d <= 0) : zcn a d <= 0 := by
 rw [zsc a (a.dp + b.dp) (by omega)] at h1 ⊢
 rw [zsc b (a.dp + b.dp) (by omega)] at h2
 exact (zig _).tr a b d h1 h2
theorem zfu : GCmp zcn := ⟨zda, zpt⟩
theorem zih : ∀ a b : Tm, zcn a b = 0 ↔ a = b := zbi fun n xs ih b => by
 rw [zjl]
 have hts : ∀ (xs : List Tm), (∀ x ∈ xs, ∀ b, zcn x b = 0 ↔ x = b) -> ∀ ys, xs.length = ys.length -> (zdg xs ys = 0 ↔ xs = ys) := fun xs => by
  induction xs with
  | nil => intro _ ys h; cases ys with
   | nil => simp [zdg]
   | cons => simp at h
  | cons x xs ih2 =>
   intro H ys h
   cases ys with
   | nil => simp at h
   | cons y ys =>
    have h1 := H x (by simp) y
    have h2 := ih2 (fun x hx => H x (by simp [hx])) ys (by simpa using h)
    rw [zdg, List.cons.injEq, <- h1, <- h2]
    unfold orE
    split
    ·rename_i e; simp [e]
    ·rename_i e; simp [e]
 constructor
 ·intro h
  unfold orE at h
  split at h
  ·rename_i h0
   obtain ⟨e1, e2⟩ := zlu.1 h0
   have := (hts xs ih b.args e2).1 h
   cases b with
   | mk m ys =>
    obtain rfl : n = m := e1
    obtain rfl : xs = ys := this
    rfl
  ·exact absurd h ‹_›
 ·rintro rfl
  rw [zlu.2 ⟨rfl, rfl⟩]
  exact (hts xs ih xs rfl).2 rfl
def ltT (a b : Tm) : Bool := decide (zcn a b < 0)
noncomputable def zfl (l : List Tm) (t : Tm) : List Tm := if dec ((l.dropWhile fun x => ltT x t).head? = some t) = true then l else l.takeWhile (fun x => ltT x t) ++ [t] ++ l.dropWhile fun x => ltT x t
abbrev zu6 (l : List Tm) : Prop := l.Pairwise fun a b => zcn a b < 0
theorem zme {a b d : Tm} (h1 : zcn a b < 0) (h2 : zcn b d <= 0) : zcn a d < 0 := by
 have n1 := zda a b
 have n2 := zda b d
 have n3 := zda a d
 have t1 := zpt a b d
 have t2 := zpt b d a
 omega
theorem qen {l : List Tm} (hs : zu6 l) (t : Tm) : zu6 (zfl l t) := by
 unfold zfl
 split
 ·exact hs
 ·rename_i h
  have hl := List.takeWhile_append_dropWhile (p := fun x => ltT x t) (l := l)
  have hs' := hs
  rw [<- hl] at hs'
  unfold zu6 at hs' ⊢
  rw [List.pairwise_append] at hs'
  obtain ⟨s1, s2, s3⟩ := hs'
  have h1 : ∀ x ∈ l.takeWhile (fun x => ltT x t), zcn x t < 0 := fun x hx => by
   exact of_decide_eq_true (List.all_eq_true.1 (List.all_takeWhile (p := fun x => ltT x t) (l := l)) x hx)
  have h2 : ∀ x ∈ l.dropWhile (fun x => ltT x t), zcn t x < 0 := fun x hx => by
   cases hd : l.dropWhile fun x => ltT x t with
   | nil => rw [hd] at hx; cases hx
   | cons y ys =>
    have hy : ltT y t = false := by
     have := List.head?_dropWhile_not (fun x => ltT x t) l
     rw [hd] at this
     simpa using this
    rw [hd] at h s2 hx
    have hy1 : ¬ zcn y t < 0 := of_decide_eq_false hy
    have hy2 : zcn y t ≠ 0 := fun e => h (zdd.2 (by rw [List.head?_cons, (zih y t).1 e]))
    have hty : zcn t y < 0 := by have := zda y t; omega
    rcases List.mem_cons.1 hx with rfl | hx
    ·exact hty
    ·exact zme hty (Int.le_of_lt ((List.pairwise_cons.1 s2).1 x hx))
  rw [List.pairwise_append, List.pairwise_append]
  refine ⟨⟨s1, List.pairwise_singleton _ _, fun a ha b hb => ?_⟩, s2, fun a ha b hb => ?_⟩
  ·rw [List.mem_singleton] at hb; subst hb; exact h1 a ha
  ·rcases List.mem_append.1 ha with ha | ha
   ·exact s3 a ha b hb
   ·rw [List.mem_singleton] at ha; subst ha; exact h2 b hb
theorem zkf {l : List Tm} (h : zu6 l) : l.Nodup := List.Pairwise.imp (fun {a b} h e => by subst e; rw [zfu.self] at h; omega) h
end Go.Proofs.YtmhbmpbgpjljeaaGreat
namespace Go.Proofs.YtmhbmpbgpjljeaaGreat
set_option linter.unusedSimpArgs false
set_option linter.unusedVariables false
set_option linter.unusedSectionVars false
set_option maxRecDepth 4000
open Go.RowKit
section
variable {P : Program}
theorem ct0_A {n0 : Nat -> Prop} {N : Nat} {σ : St} {g : Gh} {a : Act} {w : World} (hR : Rel n0 N σ g a w) {c : C} {t : T} (h : CT0 σ c t) {v : Value} (hv : CR σ g w c v) : zai w (fun b => b < w.heap.size /\ g.A0 b) t v := by
 have hF : ∀ b, Fix σ g w b -> b < w.heap.size /\ g.A0 b := fun b hb => ⟨hb.2.2.1, hb.2.2.2⟩
 have hFr : ∀ b, zb0 σ g w b -> b < w.heap.size /\ g.A0 b := fun b hb => hF b hb.1
 cases c with
 | t x =>
  have h : x = t := h
  subst h
  exact zai.keep (fun _ _ => rfl) hF x v hv
 | rn x =>
  have h : x = t := h
  subst h
  exact zai.keep (fun _ _ => rfl) hFr x v hv
 | nl s =>
  cases t with
  | sl sz rows =>
   have h : rows = [] := h
   subst h
   have hv : v = .slice none 0 0 := hv
   subst hv
   unfold zai
   exact ⟨none, 0, rfl, Nat.le_refl _, by simp, Or.inl rfl⟩
  | _ => exact h.elim
 | ow e n =>
  cases t with
  | sl sz rows =>
   obtain ⟨d, o, he⟩ := h
   obtain ⟨rfl, -⟩ := hv
   cases o
   ·exact zai.keep (fun _ _ => rfl) hF _ _ (hR.offs e _ he rfl).1
   ·have hOn : σ.On e := ⟨_, he, rfl⟩
    have hlt : ∀ b ∈ g.φ e, b < w.heap.size := (hR.evs e _ he rfl).lt
    obtain ⟨ao, cap, e1, e2, e3, e4⟩ := hR.evs e _ he rfl
    unfold zai
    refine ⟨ao, cap, e1, e2, e3, ?_⟩
    rcases e4 with ⟨_, _, e4, _⟩ | ⟨b, cells, ty, fps, k1, k2, k3, k4, k5⟩
    ·exact Or.inl e4
    ·have hA : ∀ b' ∈ g.φ e, b' < w.heap.size /\ g.A0 b' := fun b' hb' => ⟨hlt b' hb', (hR.ebase e hOn b' hb').1⟩
     refine Or.inr ⟨b, 0, k1, hA b (by rw [k2]; simp), ?_⟩
     split at k5
     ·exact zah.rep b cells ty k3 0 sz rows fps k5 fun b' hb' => hA b' (by rw [k2]; simp [hb'])
     ·exact zaj.keep (fun _ _ => rfl) hF b rfl 0 sz rows k5.2
  | _ => exact h.elim
 | el cs o =>
  cases t with
  | ptr cs' =>
   obtain ⟨rfl, rfl⟩ := h
   obtain ⟨b, q, h1, h2, h3⟩ := hv
   unfold zai
   exact ⟨b, q, h1, hF b h2, za4.keep (fun _ _ => rfl) hF b rfl q cs h3⟩
  | _ => exact h.elim
 | er cs o =>
  cases t with
  | ptr cs' =>
   obtain ⟨rfl, rfl⟩ := h
   obtain ⟨b, q, h1, h2, h3⟩ := hv
   unfold zai
   exact ⟨b, q, h1, hFr b h2, za4.keep (fun _ _ => rfl) hFr b rfl q cs h3⟩
  | _ => exact h.elim
 | _ => cases t <;> exact h.elim
theorem qge {n0 : Nat -> Prop} {N : Nat} {σ : St} {g : Gh} {a : Act} {w : World} (hR : Rel n0 N σ g a w) : ∀ {cs : List C} {ts : List T}, zvw σ cs ts -> ∀ {vs : List Value}, CRs σ g w cs vs -> zac w (fun b => b < w.heap.size /\ g.A0 b) ts vs
 | [], ts, h, vs, hv => by rw [show ts = [] from h]; unfold zac; exact hv
 | c :: cs, ts, h, vs, hv => by
  obtain ⟨t, ts', rfl, h1, h2⟩ := h
  obtain ⟨v, vs', rfl, k1, k2⟩ := hv
  unfold zac
  exact ⟨v, vs', rfl, ct0_A hR h1 k1, qge hR h2 k2⟩
def RVe (σ : St) : List V -> List D -> Prop
 | [], [] => True
 | .one c :: vs, .one t :: ds => CT0 σ c t /\ RVe σ vs ds
 | .agg cs :: vs, .agg ts :: ds => zvw σ cs ts /\ RVe σ vs ds
 | _, _ => False
theorem RVe.rep {n0 : Nat -> Prop} {N : Nat} {σ : St} {g : Gh} {a : Act} {w : World} (hR : Rel n0 N σ g a w) : ∀ {vs : List V} {ds : List D}, RVe σ vs ds -> ∀ {us : List Value}, VRl σ g w vs us -> zaz w (fun b => b < w.heap.size /\ g.A0 b) ds us
 | [], [], _, us, hv => hv
 | .one c :: vs, .one t :: ds, h, us, hv => by
  obtain ⟨u, us', rfl, k1, k2⟩ := hv
  exact ⟨u, us', rfl, ct0_A hR h.1 k1, RVe.rep hR h.2 k2⟩
 | .agg cs :: vs, .agg ts :: ds, h, us, hv => by
  obtain ⟨u, us', rfl, ⟨q, rfl, k1⟩, k2⟩ := hv
  exact ⟨_, us', rfl, ⟨q, rfl, qge hR h.1 k1⟩, RVe.rep hR h.2 k2⟩
 | [], _ :: _, h, _, _ => h.elim
 | .one _ :: _, [], h, _, _ => h.elim
 | .one _ :: _, .agg _ :: _, h, _, _ => h.elim
 | .agg _ :: _, [], h, _, _ => h.elim
 | .agg _ :: _, .one _ :: _, h, _, _ => h.elim
 | .tup _ :: _, [], h, _, _ => h.elim
 | .tup _ :: _, _ :: _, h, _, _ => h.elim
def PRe (P : Program) (rs : List ResultVar) (res : List D) (e : Exit) (σ : St) : Prop := match e with
 | .normal => zan (zbe P σ rs) fun vs => RVe σ vs res
 | .ret => zan (zbe P σ rs) fun vs => RVe σ vs res
 | _ => False
theorem zcg {f : FuncId} {fn : Func} {c : Code} {args res : List D} (hc : za1 P f) (hf : P.funcs[f]? = some fn) (hb : fn.body = some c) (hd : zcf fn.ntmps c = true) (hN : (rd args).length <= fn.ntmps)
  (h : ex P c [] (PRe P fn.results.toList res) (zd1 (rd args))) : RC P f args res := by
 refine ⟨hc, fun w vs A hv => ?_⟩
 refine calls_of_wp hf hb ?_
 have hg : ∀ (ds : List D) (vs : List Value), zaz w (fun b => b < w.heap.size /\ A b) ds vs -> zar w (fun b => b < w.heap.size /\ A b /\ b ∉ ([] : List Nat)) (rd ds) vs [] [] := by
  intro ds
  induction ds with
  | nil => intro vs h; exact ⟨h, rfl, rfl⟩
  | cons d ds ih =>
   rintro vs ⟨v, vs', rfl, h1, h2⟩
   refine ⟨v, vs', rfl, ?_, ih _ h2⟩
   cases d with
   | one t => exact zai.keep (fun _ _ => rfl) (fun b hb => ⟨hb.1, hb.2, by simp⟩) t _ h1
   | agg ts => obtain ⟨a, h0, h1⟩ := h1; exact ⟨a, h0, zac.keep (fun _ _ => rfl) (fun b hb => ⟨hb.1, hb.2, by simp⟩) ts a h1⟩
 obtain ⟨g, hg, hR⟩ := Rel.start (A := A) (A0 := fun b => A b \/ w.heap.size <= b) (R0 := RP.of fun _ => True) (N := fn.ntmps) (hg _ _ hv) List.nodup_nil (zc6 args) hN (fun _ hb => Or.inl hb) (fun b hb => by simp at hb) (fun b hb => ⟨Or.inr (by
  refine Nat.le_of_not_lt fun hlt => hb ⟨hlt, by simp⟩), trivial⟩)
 refine wp_mono (zbf (w0 := w) c (zd1 (rd args)) _ hd h g _ w hR (fun k hk => hk.1) (Bk.refl _ _) hg) fun e a' w' hq => ?_
 obtain ⟨σ', g', h1, h2, h3, h4, h5⟩ := hq
 have key : zan (zbe P σ' fn.results.toList) (fun vs => RVe σ' vs res) -> ∃ v, (results fn a'.tmps).run P w' = .ok v w' /\ ∃ us, Ending.returned v = .returned (zbz us) /\ zaz w' (fun b => b < w'.heap.size /\ (A b \/ w.heap.size <= b)) res us /\ Below w.heap.size w w' := fun hk => by
  unfold zan at hk
  split at hk
  ·rename_i vs hvs
   obtain ⟨us, r1, r2⟩ := zbn h2 fn hvs
   refine ⟨_, r1, us, rfl, (RVe.rep h2 hk r2).keep (fun _ _ => rfl) fun b hb => ⟨hb.1, ?_⟩, h4.os, h4.tape, h4.output, h4.size, fun k hk => h4.block k ⟨hk, by simp⟩⟩
   have := hb.2
   simp only [Prod.mk.injEq] at h5
   rw [h5.1] at this
   exact this
  ·exact hk.elim
 cases e with
 | normal => exact ⟨h2.defers, key h1⟩
 | ret => exact ⟨h2.defers, key h1⟩
 | exit _ => exact h1.elim
 | goto _ => exact h1.elim
 | panic _ => exact h1.elim
 | outgrown => exact h1.elim
attribute [go_sem] PRe RVe
end
end Go.Proofs.YtmhbmpbgpjljeaaGreat
namespace Go.Proofs.YtmhbmpbgpjljeaaGreat
set_option linter.unusedSimpArgs false
set_option linter.unusedVariables false
set_option linter.unusedSectionVars false
set_option maxRecDepth 4000
open Go.RowKit
def zrb (a b : Li) : Int := orE (zcn a.atom b.atom) (zj7 b.pos a.pos)
theorem zty {x y : Int} : orE x y = 0 ↔ x = 0 /\ y = 0 := by
 unfold orE
 split <;> simp_all
def okc (ls : List Li) : Prop := ∀ k (h : k < ls.length), ls[k].atom.atomOk = true /\ (0 < k -> zrb (ls[k - 1]'(by omega)) ls[k] < 0)
noncomputable def Cq.ok (c : Cq) : Bool := decide (c.lits.length <= 8) && dec (okc c.lits)
theorem zfm {c : Cq} (h : c.ok = true) : ∀ l ∈ c.lits, l.atom.atomOk = true := fun l hl => by
 unfold Cq.ok at h
 rw [Bool.and_eq_true, zdd] at h
 obtain ⟨k, hk, rfl⟩ := List.getElem_of_mem hl
 exact (h.2 k hk).1
theorem zsq {c : Cq} (h : c.ok = true) : c.lits.length <= 8 := by
 unfold Cq.ok at h
 rw [Bool.and_eq_true] at h
 exact of_decide_eq_true h.1
def upT : Tm -> Bool := Tm.fold fun n _ rs => decide (0 < n.length) && (zhx (n.getD 0 0) == za3 n) && rs.all id
theorem zku (a : Tm) : upT a = (decide (0 < a.name.length) && (zhx (a.name.getD 0 0) == za3 a.name) && a.args.all upT) := by
 unfold upT
 rw [Tm.fold_eq, List.all_map]
 rfl
theorem zsh : ∀ a : Tm, a.names = true -> upT a = true := zbi fun n xs ih h => by
 rw [Tm.names_eq] at h
 rw [zku]
 change (if za3 n = true then decide (xs.length = 0) else zbx n && decide (xs.length <= 4) && xs.all Tm.names) = true at h
 change (decide (0 < n.length) && (zhx (n.getD 0 0) == za3 n) && xs.all upT) = true
 by_cases hv : za3 n = true
 ·rw [if_pos hv] at h
  obtain ⟨h1, h2⟩ := zh4 hv
  have hx : xs = [] := List.length_eq_zero_iff.1 (of_decide_eq_true h)
  subst hx
  rw [h1, hv]
  simp [h2]
 ·rw [if_neg hv] at h
  simp only [Bool.and_eq_true] at h
  obtain ⟨h1, h2⟩ := zgd h.1.1
  rw [h1, show za3 n = false by simpa using hv]
  simp only [Bool.and_eq_true, decide_eq_true_eq]
  exact ⟨⟨h2, rfl⟩, List.all_eq_true.2 fun x hx => ih x hx (List.all_eq_true.1 h.2 x hx)⟩
theorem zqu {a : Tm} (h : a.atomOk = true) : upT a = true := by
 unfold Tm.atomOk at h
 split at h
 ·rename_i he
  have he : a.name = [61] := by simpa using he
  simp only [Bool.and_eq_true, decide_eq_true_eq] at h
  rw [zku, he]
  rw [Bool.and_eq_true]
  exact ⟨by decide, List.all_eq_true.2 fun x hx => zsh x (List.all_eq_true.1 h.2 x hx)⟩
 ·simp only [Bool.and_eq_true] at h
  have := h.2
  unfold Tm.good at this
  rw [Bool.and_eq_true] at this
  exact zsh a this.2
end Go.Proofs.YtmhbmpbgpjljeaaGreat
namespace Go.Proofs.YtmhbmpbgpjljeaaGreat
set_option linter.unusedSimpArgs false
set_option linter.unusedVariables false
set_option linter.unusedSectionVars false
set_option maxRecDepth 4000
open Go.RowKit
def zsx (w : World) (A : Nat -> Prop) (r : List T) (a : Li) : Prop := ∃ ao l c, r = [.bool a.pos, .str a.atom.name, .vs ao l c] /\ zai w A (tmS a.atom.args) (.slice ao l c)
theorem zsx.keep {w w' : World} {A A' : Nat -> Prop} (hs : ∀ b, A b -> w'.heap[b]? = w.heap[b]?) (ha : ∀ b, A b -> A' b) {r : List T} {t : Li} (h : zsx w A r t) : zsx w' A' r t := by
 obtain ⟨ao, l, c, h1, h2⟩ := h
 exact ⟨ao, l, c, h1, zai.keep hs ha _ _ h2⟩
noncomputable def keepI (ls : List Li) (i : Nat) : Bool := i == 0 || !same ls[i]? ls[i - 1]?
noncomputable def kp (ls : List Li) (j : Nat) : List Nat := (List.range j).filter (keepI ls)
end Go.Proofs.YtmhbmpbgpjljeaaGreat
namespace Go.Proofs.YtmhbmpbgpjljeaaGreat
set_option linter.unusedSimpArgs false
set_option linter.unusedVariables false
set_option linter.unusedSectionVars false
set_option maxRecDepth 4000
open Go.RowKit
variable {P : Program} {N : Nat}
def vwM (P : Program) (t : TypeId) (x lo : Operand) (d : Nat) (K : St -> Prop) (σ : St) : Prop := match σ.get P t x, σ.get P 0 lo with
 | .one (.ow e gn), .one (.t (.int _ k)) => zan (σ.ev e) fun y => y.gen = gn /\ (0 <= k /\ k < y.rows.length) /\ (elT P t).bind (zba P) = some y.sz /\ K (σ.put (some d) (.one (.vw e gn y.sz k.toNat)))
 | _, _ => False
theorem viewF {ks : List Fr} {Q : Exit -> St -> Prop} {σ : St} {ops : Array Oper} {os : List Oper} {d : Nat} {t : TypeId} {x lo : Operand} {ty : TypeId} {ps : String} {af : Array Edge} (k : vwM P t x lo d (exo P ops os ks Q) σ) : exoS P ops ⟨some d, .slice t x (some lo) none none, ty, ps, af, none⟩ os ks Q σ := by
 unfold vwM at k
 split at k
 ·rename_i e gn kk k' s1 s2
  obtain ⟨y, he, h3⟩ := zal k
  obtain ⟨dp, sz, rows, g', on⟩ := y
  obtain ⟨rfl, ⟨h0, hl⟩, hsz, hK⟩ := h3
  simp only at hl hsz hK
  refine zae.toX (zae.value (x := .one (.vw e g' sz k'.toNat)) fun n0 N g a w hR => ?_) hK
  have v1 := hR.get P t x
  rw [s1] at v1
  obtain ⟨v1, hh⟩ := v1
  obtain ⟨b, cap, e1⟩ := hR.sliceOf he (by intro h0; simp only at h0; rw [h0] at hl; simp at hl; omega)
  obtain ⟨ao', cap', e2, e3, e4⟩ := hR.sliceAny he
  have hcc : cap = cap' := by
   have := e1.symm.trans e2
   simp only [Value.slice.injEq] at this
   exact this.2.2
  subst hcc
  simp only at e1 e2 e3
  obtain ⟨kn, rfl⟩ : ∃ kn : Nat, k' = kn := ⟨k'.toNat, by omega⟩
  have hkl : kn < rows.length := by omega
  obtain ⟨el, hel, hse⟩ := qfo hsz
  have hbn := zcx (P := P) (low := some lo) (high := none) (len := rows.length) (cap := cap) hR true (l := (kn : Int)) (u := (rows.length : Int)) (by simp only [zj0, s2]) rfl (by omega) (by omega) (by omega) (by omega)
  refine ⟨.slice (some ⟨b, kn * sz, none⟩) (rows.length - kn) (cap - kn), ?_, b, rows.length, cap, e1, by rw [Int.toNat_natCast], by rw [Int.toNat_natCast]; exact hkl, hh⟩
  unfold execOp
  have hcp : ¬ cap = kn := by omega
  rw [Int.toNat_natCast, Int.toNat_natCast, Option.map_some, Option.map_none] at hbn
  simp only [Instr.sliceAt, Instr.slice, Sem.run_bind, run_underlying hel, Result.andThen, v1, e1, Option.map_some, Option.map_none, hbn, zbl hse, Sem.run_pure]
  rw [if_neg hcp]
  simp only [Addr.add]
  congr 2
  split <;> simp_all
 ·exact k.elim
def PSJ (P : Program) (rs : List ResultVar) (res : List D) (e : Exit) (σ : St) (_ : Hj) : Prop := match e with
 | .normal => zan (zbe P σ rs) fun vs => zr2 σ [] vs res
 | .ret => zan (zbe P σ rs) fun vs => zr2 σ [] vs res
 | _ => False
theorem GCJ_of {f : FuncId} {fn : Func} {c : Code} {args : List (Bool × D)} {res : List D} {R : Nat -> Prop} {I : World -> Prop} (hk : zns R I) (hf : P.funcs[f]? = some fn) (hb : fn.body = some c) (hN : args.length <= fn.ntmps) (hs : zcj args)
  (h : zbj P fn.ntmps c (zd1 args) ⟨fun _ => False, R, I⟩ (PSJ P fn.results.toList res)) (w : World) (vs : List Value) (fp tp : List Nat) (hv : zar w (fun b => b < w.heap.size /\ b ∉ fp) args vs fp tp) (hn : fp.Nodup) (hI : I w) (hR0 : ∀ x, R x -> x < w.heap.size /\ x ∉ fp) :
  Calls P f ⟨vs⟩ w fun e w' => ∃ us fp' tp', e = .returned (zbz us) /\ GDs w' res us fp' tp' /\ fp'.Nodup /\ (∀ b ∈ fp', b ∈ fp \/ w.heap.size <= b) /\ Bk (fun k => k < w.heap.size /\ k ∉ fp) w w' := by
 refine calls_of_wp hf hb ?_
 have hv' : zar w (fun b => b < w.heap.size /\ True /\ b ∉ fp) args vs fp tp := zar.keepA (fun b hb => ⟨hb.1, trivial, hb.2⟩) hv
 obtain ⟨g, hg, hR⟩ := Rel.start (A0 := fun _ => True) (R0 := RP.of fun b => b ∈ fp \/ w.heap.size <= b) (N := fn.ntmps) hv' hn hs hN (fun _ _ => trivial) (fun b hb => ⟨trivial, Or.inl hb⟩) (fun b hb => ⟨trivial, by
  by_cases hlt : b < w.heap.size
  ·exact Or.inl (Classical.byContradiction fun h => hb ⟨hlt, h⟩)
  ·exact Or.inr (by omega)⟩)
 have e2 : g.R0 = RP.of fun b => b ∈ fp \/ w.heap.size <= b := (Prod.mk.inj hg).2
 refine wp_mono (h (fun b => b < w.heap.size /\ b ∉ fp) w (fun _ => True, RP.of fun b => b ∈ fp \/ w.heap.size <= b) g _ w ⟨⟨_, fun _ q => q, ⟨⟨fun _ _ q => q, fun w1 w2 hs hi => hk w1 w2 (fun x hx => hs x (Or.inr hx)) hi⟩, fun _ q => q.elim, hR0, hI⟩, hR, fun k q => q.1⟩, fun _ q => q.elim, fun _ _ => trivial, e2, fun b hb => ⟨trivial, by
  by_cases hlt : b < w.heap.size
  ·exact Or.inl (Classical.byContradiction fun h => hb ⟨hlt, h⟩)
  ·exact Or.inr (by omega)⟩⟩ (fun k q => q.1) (Bk.refl _ _)) fun e a' w' hq => ?_
 obtain ⟨σ', J', g', h1, h2, h3, h4⟩ := hq
 obtain ⟨n1, m1, m2, m3, m4⟩ := h2.rel
 have key : (zan (zbe P σ' fn.results.toList) fun vs => zr2 σ' [] vs res) -> ∃ v, (results fn a'.tmps).run P w' = .ok v w' /\ ∃ us fp' tp', Ending.returned v = .returned (zbz us) /\ GDs w' res us fp' tp' /\ fp'.Nodup /\ (∀ b ∈ fp', b ∈ fp \/ w.heap.size <= b) /\ Bk (fun k => k < w.heap.size /\ k ∉ fp) w w' := fun hk => by
  obtain ⟨vs, hvs, hk⟩ := zal hk
  obtain ⟨us, r1, r2⟩ := zbn m3 fn hvs
  obtain ⟨used, fp', tp', o1, o2⟩ := zcw m3 hk r2
  refine ⟨_, r1, us, fp', tp', rfl, o1, o2.1, fun b hb => ?_, h4⟩
  obtain ⟨e, _, _, l, m⟩ := o2.2.1 b hb
  have := (m3.ebase e l b m).2
  rw [h2.r0] at this
  exact this
 cases e with
 | normal => exact ⟨m3.defers, key h1⟩
 | ret => exact ⟨m3.defers, key h1⟩
 | exit _ => exact h1.elim
 | goto _ => exact h1.elim
 | panic _ => exact h1.elim
 | outgrown => exact h1.elim
end Go.Proofs.YtmhbmpbgpjljeaaGreat
namespace Go.Proofs.YtmhbmpbgpjljeaaGreat
set_option linter.unusedSimpArgs false
set_option linter.unusedVariables false
set_option linter.unusedSectionVars false
set_option maxRecDepth 4000
open Go.RowKit
variable {P : Program} {N : Nat}
theorem zd7.step {ops : Array Oper} {i : Nat} {σ : St} {J : Hj} {K : St -> Hj -> Prop} {o : Oper} (hl : ops[i]? = some o) (hg : o.guard = none) (hd : ∀ d, o.dst = some d -> d < N) (h : zbu P o σ fun σ' => zd7 P N ops (i + 1) σ' J K) : zd7 P N ops i σ J K := fun Q n0 w0 A0 g a w hK h1 h2 h3 => by
 have hlt : i < ops.size := (Array.getElem?_eq_some_iff.1 hl).1
 obtain ⟨n1, k1, k2, k4, k5⟩ := h1.rel
 rw [show List.range' i (ops.size - i) = i :: List.range' (i + 1) (ops.size - (i + 1)) by rw [show ops.size - i = (ops.size - (i + 1)) + 1 by omega]; rfl, wpOps_cons]
 unfold wpOp
 simp only [hl]
 rw [if_pos (by simp [Region.wanted, hg])]
 refine Or.inl (zbt ?_ (h n1 N g a w k4 k5 hd))
 rintro a' w' ⟨σ', g', hK', m2, m3, m4, m5⟩
 exact hK' Q n0 w0 A0 g' a' w' hK (h1.keep k1 k2 m2 (k5.mono m3.size) m3 (by rw [m4, m5])) (h2.mono m3.size) (h3.trans (zrn k1 m3))
theorem zdv {w : World} {zt : List T} {z : List Value} (h : zas w zt z []) : ∀ n, zas w (List.replicate n zt).flatten (List.replicate n z).flatten []
 | 0 => ⟨rfl, rfl⟩
 | n + 1 => by
  rw [List.replicate_succ, List.replicate_succ, List.flatten_cons, List.flatten_cons]
  exact h.append (zdv h n)
theorem ze5 {sz : Nat} : ∀ {rows : List (List T)} (k : Nat), lens sz rows -> (rows.take k).flatten = rows.flatten.take (k * sz)
 | [], k, _ => by simp
 | r :: rs, 0, _ => by simp
 | r :: rs, k + 1, h => by
  have h1 := h r (by simp)
  rw [List.take_succ_cons, List.flatten_cons, List.flatten_cons, ze5 k fun y hy => h y (by simp [hy]), show (k + 1) * sz = r.length + k * sz by rw [h1, Nat.add_mul]; omega, List.take_length_add_append]
theorem zj8 (z : Array Value) (n : Nat) : (Builtin.zeroCells z n).toList = (List.replicate n z.toList).flatten := by
 unfold Builtin.zeroCells
 apply List.ext_getElem
 ·simp
 ·intro i h1 h2
  simp only [Array.toList_map, Array.toList_range, List.getElem_map, List.getElem_range]
  have hi : i < n * z.size := by simpa using h1
  have hz : 0 < z.size := Nat.pos_of_ne_zero fun h => by rw [h] at hi; omega
  have hm : i % z.size < z.size := Nat.mod_lt _ hz
  rw [getElem!_pos z (i % z.size) hm]
  have : ∀ (n i : Nat) (h : i < ((List.replicate n z.toList).flatten).length), ((List.replicate n z.toList).flatten)[i] = z[i % z.size]'(Nat.mod_lt _ hz) := by
   intro n
   induction n with
   | zero => intro i h; simp at h
   | succ n ih =>
    intro i h
    simp only [List.replicate_succ, List.flatten_cons] at h ⊢
    by_cases hlt : i < z.size
    ·rw [List.getElem_append_left (by simpa using hlt)]
     simp [Nat.mod_eq_of_lt hlt]
    ·rw [List.getElem_append_right (by simpa using hlt)]
     rw [ih]
     have e : (i - z.toList.length) % z.size = i % z.size := by
      rw [Array.length_toList, <- Nat.mod_eq_sub_mod (by omega)]
     simp only [e]
  exact (this n i h2).symm
theorem ziq : ∀ {ts : List T} {vs : List Value} {f : List Nat} {w : World}, (∀ c ∈ ts, c.flat = true) -> zas w ts vs f -> f = []
 | [], _, _, _, _, h => h.2
 | c :: ts, vs, f, w, hc, h => by
  obtain ⟨v, vs', f1, f2, _, rfl, h1, h2⟩ := h
  rw [ziq (fun c' hc' => hc c' (by simp [hc'])) h2, List.append_nil]
  have hcf := hc c (by simp)
  cases c <;> simp only [T.flat, Bool.false_eq_true] at hcf <;> unfold zao at h1
  ·exact h1.2.2.2
  ·exact h1.2
  ·exact h1.2.2
  ·exact h1.2
theorem qdd {σ : St} {K : St -> Prop} {d : Nat} {t el : TypeId} {x hi : Operand} {ty : TypeId} {ps : String} {af : Array Edge} {e gn sz k : Nat} {rows : List (List T)} {kk : IntKind} (s1 : σ.get P t x = .one (.ow e gn)) (s2 : σ.get P 0 hi = .one (.t (.int kk k))) (he : σ.ev e = some ⟨true, sz, rows, gn, true⟩)
  (hfl : ∀ c ∈ rows.flatten, c.flat = true) (hkl : k < rows.length) (hel : elT P t = some el) (hsz : zba P el = some sz) (hK : K ((σ.apd e [] ⟨true, sz, rows.take k, gn + 1, true⟩).put (some d) (.one (.ow e (gn + 1))))) : zbu P ⟨some d, .slice t x none (some hi) none, ty, ps, af, none⟩ σ K := by
 intro n0 N g a w hR hn hdN
 have v1 := hR.get P t x
 rw [s1] at v1
 obtain ⟨v1, -⟩ := v1
 obtain ⟨vs0, fps, top, hT⟩ := hR.tgt he rfl
 have hlens := hT.lens
 simp only at hlens
 rcases hT.val with ⟨_, hh, _⟩ | ⟨b, cap, cells, cty, w1, w2, w3, w4, w5, w6, w7⟩
 ·simp only at hh; rw [hh] at hkl; simp at hkl
 simp only at w1 w2 w5 w6
 have hown := hT.own rfl
 simp only at hown
 have hfps := ziq hfl hown
 subst hfps
 have hbn := zcx (P := P) (low := none) (high := some hi) (len := rows.length) (cap := cap) hR true (l := 0) (u := (k : Int)) rfl (by simp only [zj0, s2]) (by omega) (by omega) (by omega) w2
 have hun : P.underlying t = some (.slice el) := zek hel
 have e0 : (execOp a.eval ⟨some d, .slice t x none (some hi) none, ty, ps, af, none⟩).run P w = .ok (.value (.slice (some ⟨b, 0, none⟩) k cap)) w := by
  unfold execOp
  have hcp : ¬ cap = 0 := by omega
  rw [Int.toNat_natCast, show ((0 : Int).toNat) = 0 from rfl, Option.map_some, Option.map_none] at hbn
  simp only [Instr.sliceAt, Instr.slice, Sem.run_bind, run_underlying hun, Result.andThen, v1, w1, Option.map_some, Option.map_none, hbn, zbl hsz, Sem.run_pure]
  rw [if_neg hcp]
  simp only [Addr.add]
  congr 2
  simp
 unfold Oper.wp
 rw [e0]
 have hTl : (rows.take k).length = k := by rw [List.length_take]; omega
 have hR' := hR.apd_fin (w' := w) (y := ⟨true, sz, rows.take k, gn + 1, true⟩) (v' := .slice (some ⟨b, 0, none⟩) k cap) (fp' := [b]) (fps2 := []) hT rfl (fun m hm => by
   obtain ⟨q, hq, hmq⟩ := hm
   rw [he, Option.some.injEq] at hq
   subst hq
   simp only at hmq ⊢
   exact ⟨by omega, fun em => by omega⟩) (cons := []) (fun p hp => by simp at hp) (fun b hb => by simp at hb) b (Or.inl w7.symm) (fun k _ _ => rfl) (Nat.le_refl _) hn (by simp) (fun c hc => by
   simp only [List.mem_singleton] at hc
   exact Or.inl hc) (fun c hc => by simpa using hc.symm) fun A' hA' => by
  refine ⟨some ⟨b, 0, none⟩, cap, by simp only [hTl], by simp only [hTl]; omega, w3, Or.inr ⟨b, cells, cty, [], rfl, rfl, w4, w5, ?_⟩⟩
  simp only [if_true]
  have hl2 : lens sz (rows.take k) := fun r hr => hlens r (List.mem_of_mem_take hr)
  rw [<- List.take_append_drop (k * sz) rows.flatten, <- ze5 k hlens] at hown
  obtain ⟨u1, u2, f1, f2, hu, hf, k1, k2⟩ := hown.split
  obtain ⟨rfl, rfl⟩ := List.append_eq_nil_iff.1 hf.symm
  refine zah.of_vals hl2 k1 fun j u hj => ?_
  have hju : vs0[j]? = some u := by rw [hu, List.getElem?_append_left (List.getElem?_eq_some_iff.1 hj).1]; exact hj
  have hc : cells.toList[j]? = some u := by
   rw [<- w6, List.getElem?_take] at hju
   split at hju
   ·exact hju
   ·cases hju
  rw [Nat.zero_add]
  simpa using hc
 have hE : (σ.apd e [] ⟨true, sz, rows.take k, gn + 1, true⟩).ev e = some ⟨true, sz, rows.take k, gn + 1, true⟩ := by simp [St.apd, zag]
 exact ⟨_, _, hK, hR'.put (some d) (x := .one (.ow e (gn + 1))) (v := .slice (some ⟨b, 0, none⟩) k cap) ⟨by simp only [zag], _, hE, Nat.le_refl _⟩ (fun j hj => hdN j hj), Bk.refl _ _, rfl, rfl⟩
theorem qet {σ : St} {K : St -> Prop} {t el : TypeId} {x : Operand} {ty : TypeId} {ps : String} {af : Array Edge} {e gn sz k : Nat} {rows : List (List T)} {z : Value} {zt : List T} (s1 : σ.get P t x = .one (.vw e gn sz k)) (he : σ.ev e = some ⟨true, sz, rows, gn, true⟩)
  (hfl : ∀ c ∈ rows.flatten, c.flat = true) (hel : elT P t = some el) (hzv : ∀ w, (zeroValue el).run P w = .ok z w) (hzl : zt.length = sz) (hz1 : ∀ v ∈ z.cells.toList, v.oneCell' = true) (hzt : ∀ w, zas w zt z.cells.toList [])
  (hK : K (σ.apd e [] ⟨true, sz, rows.take k ++ List.replicate (rows.length - k) zt, gn, true⟩)) : zbu P ⟨none, .call ⟨.builtin .clear, #[x], #[t]⟩, ty, ps, af, none⟩ σ K := by
 intro n0 N g a w hR hn hdN
 have v1 := hR.get P t x
 rw [s1] at v1
 obtain ⟨b0, n0', c0, q1, q2, q3, -⟩ := v1
 obtain ⟨vs0, fps, top, hT⟩ := hR.tgt he rfl
 have hlens := hT.lens
 simp only at hlens
 have hzs : z.cells.toList.length = sz := by rw [<- hzl]; exact (hzt w).len
 rcases hT.val with ⟨hh, _⟩ | ⟨b, cap, cells, cty, w1, w2, w3, w4, w5, w6, w7⟩
 ·simp only at hh; rw [q1] at hh; cases hh
 simp only at w1 w2 w5 w6
 obtain ⟨rfl, rfl, rfl⟩ : b = b0 /\ rows.length = n0' /\ cap = c0 := by
  have := w1.symm.trans q1
  simp only [Value.slice.injEq, Option.some.injEq, Addr.mk.injEq] at this
  exact ⟨this.1.1, this.2.1, this.2.2⟩
 have hown := hT.own rfl
 simp only at hown
 have hfps := ziq hfl hown
 subst hfps
 have hun : P.underlying t = some (.slice el) := zek hel
 have hrl : rows.flatten.length = rows.length * sz := zf6 hlens
 have hsub : k * sz + (rows.length - k) * sz = rows.length * sz := by rw [<- Nat.add_mul]; congr 1; omega
 have hcap : rows.length * sz <= cap * sz := Nat.mul_le_mul_right _ w2
 have hvl : vs0.length = rows.length * sz := hT.len
 have hzl2 : ((List.replicate (rows.length - k) z.cells.toList).flatten).length = (rows.length - k) * sz := by simp [hzs]
 have hst := run_storeCells_at P b (k * sz) cty ((List.replicate (rows.length - k) z.cells.toList).flatten) 0 cells w w4 (by rw [hzl2, w5]; omega) (fun v hv => by
  obtain ⟨l, hl, hv⟩ := List.mem_flatten.1 hv
  rw [List.eq_of_mem_replicate hl] at hv
  exact hz1 v hv)
 simp only [Nat.add_zero] at hst
 rw [hzl2, hsub] at hst
 have hnew : cells.toList.take (k * sz) ++ (List.replicate (rows.length - k) z.cells.toList).flatten ++ cells.toList.drop (rows.length * sz) = vs0.take (k * sz) ++ (List.replicate (rows.length - k) z.cells.toList).flatten ++ cells.toList.drop (rows.length * sz) := by
  rw [<- w6, List.take_take, Nat.min_eq_left (by omega)]
 rw [hnew] at hst
 have e1 : (execOp a.eval ⟨none, .call ⟨.builtin .clear, #[x], #[t]⟩, ty, ps, af, none⟩).run P w = .ok (.value (.tuple #[])) (w.setRow b (vs0.take (k * sz) ++ (List.replicate (rows.length - k) z.cells.toList).flatten ++ cells.toList.drop (rows.length * sz)).toArray) := by
  obtain ⟨n', hn'⟩ : ∃ n', rows.length - k = n' + 1 := ⟨rows.length - k - 1, by omega⟩
  have hzc := zj8 z.cells (rows.length - k)
  rw [hn'] at q2 hst hzc ⊢
  unfold execOp
  simp [resolve, invoke, builtin, q2, Builtin.clear_, run_underlying hun, hzv, hzc, hst, Result.andThen]
 unfold Oper.wp
 rw [e1]
 have hsame : ∀ j, j ≠ b -> (w.setRow b (vs0.take (k * sz) ++ (List.replicate (rows.length - k) z.cells.toList).flatten ++ cells.toList.drop (rows.length * sz)).toArray).heap[j]? = w.heap[j]? := fun j hj => setRow_other w _ j _ hj
 have hblk := setRow_heap w b cells (vs0.take (k * sz) ++ (List.replicate (rows.length - k) z.cells.toList).flatten ++ cells.toList.drop (rows.length * sz)).toArray cty (0, 0) w4
 have hsize : (w.setRow b (vs0.take (k * sz) ++ (List.replicate (rows.length - k) z.cells.toList).flatten ++ cells.toList.drop (rows.length * sz)).toArray).heap.size = w.heap.size := setRow_size _ _ _
 have hbk : Bk n0 w (w.setRow b (vs0.take (k * sz) ++ (List.replicate (rows.length - k) z.cells.toList).flatten ++ cells.toList.drop (rows.length * sz)).toArray) := ⟨rfl, rfl, rfl, Nat.le_of_eq hsize.symm, fun j hj => hsame j fun e' => (hT.bx b (Or.inl w7.symm)).2.1.2.2 (e' ▸ hj)⟩
 generalize w.setRow b (vs0.take (k * sz) ++ (List.replicate (rows.length - k) z.cells.toList).flatten ++ cells.toList.drop (rows.length * sz)).toArray = w' at hsame hblk hsize hbk ⊢
 have hyl : (rows.take k ++ List.replicate (rows.length - k) zt).length = rows.length := by simp; omega
 have hR' := hR.apd_fin (w' := w') (y := ⟨true, sz, rows.take k ++ List.replicate (rows.length - k) zt, gn, true⟩) (v' := g.ψ e gn) (fp' := [b]) (fps2 := []) hT rfl (fun m hm => ⟨by
   obtain ⟨q, hq, hmq⟩ := hm
   rw [he, Option.some.injEq] at hq
   subst hq
   exact hmq, fun em => by simp only at em; rw [em]⟩) (cons := []) (fun p hp => by simp at hp) (fun b hb => by simp at hb) b (Or.inl w7.symm) (fun j _ hj => hsame j hj) (Nat.le_of_eq hsize.symm) hn (by simp) (fun c hc => by
   simp only [List.mem_singleton] at hc
   exact Or.inl hc) (fun c hc => by simpa using hc.symm) fun A' hA' => by
  refine ⟨some ⟨b, 0, none⟩, cap, by rw [hyl]; exact w1, by rw [hyl]; exact w2, w3, Or.inr ⟨b, _, cty, [], rfl, rfl, hblk, ?_, ?_⟩⟩
  ·simp only [List.size_toArray, List.length_append, List.length_take, List.length_drop, hzl2, hvl, Array.length_toList, w5]
   omega
  ·simp only [if_true]
   have hl2 : lens sz (rows.take k ++ List.replicate (rows.length - k) zt) := fun r hr => by
    rcases List.mem_append.1 hr with h | h
    ·exact hlens r (List.mem_of_mem_take h)
    ·rw [List.eq_of_mem_replicate h]; exact hzl
   rw [<- List.take_append_drop (k * sz) rows.flatten, <- ze5 k hlens] at hown
   obtain ⟨u1, u2, f1, f2, hu, hf, k1, k2⟩ := hown.split
   obtain ⟨rfl, rfl⟩ := List.append_eq_nil_iff.1 hf.symm
   have l1 : u1.length = k * sz := by rw [k1.len, ze5 k hlens, List.length_take, hrl]; omega
   have ha : zas w' (rows.take k ++ List.replicate (rows.length - k) zt).flatten (u1 ++ (List.replicate (rows.length - k) z.cells.toList).flatten) [] := by
    rw [List.flatten_append]
    exact (k1.keep fun c hc => by simp at hc).append (zdv (hzt w') _)
   rw [hu, <- l1, List.take_left]
   refine zah.of_vals hl2 ha fun j u hu => ?_
   rw [Nat.zero_add]
   simp only [List.getElem?_toArray]
   rw [List.getElem?_append_left (List.getElem?_eq_some_iff.1 hu).1]
   exact hu
 exact ⟨_, _, hK, hR', hbk, rfl, rfl⟩
end Go.Proofs.YtmhbmpbgpjljeaaGreat
namespace Go.Proofs.YtmhbmpbgpjljeaaGreat
set_option linter.unusedSimpArgs false
set_option linter.unusedVariables false
set_option linter.unusedSectionVars false
set_option maxRecDepth 4000
open Go.RowKit
def zy5 (w : World) (A : Nat -> Prop) (fl : List (List T)) (ls : List Li) : Prop := ∀ i (h : i < fl.length) (h2 : i < ls.length), zsx w A fl[i] ls[i]
theorem zy5.keep {w w' : World} {A : Nat -> Prop} (hs : ∀ b, A b -> w'.heap[b]? = w.heap[b]?) {fl : List (List T)} {ls : List Li} (h : zy5 w A fl ls) : zy5 w' A fl ls := fun i h1 h2 => (h i h1 h2).keep hs fun _ q => q
end Go.Proofs.YtmhbmpbgpjljeaaGreat
namespace Go.Proofs.YtmhbmpbgpjljeaaGreat
set_option linter.unusedSimpArgs false
set_option linter.unusedVariables false
set_option linter.unusedSectionVars false
set_option maxRecDepth 4000
open Go.RowKit
def OwnZ (w : World) (z : List T × Li × List Nat) : Prop := ∃ ao l c, z.1 = [.bool z.2.1.pos, .str z.2.1.atom.name, .vs ao l c] /\ zao w (tmS z.2.1.atom.args) (.slice ao l c) z.2.2
theorem OwnZ.keep {w w' : World} {z : List T × Li × List Nat} (h : OwnZ w z) (hs : ∀ b ∈ z.2.2, w'.heap[b]? = w.heap[b]?) : OwnZ w' z := by
 obtain ⟨ao, l, c, h1, h2⟩ := h
 exact ⟨ao, l, c, h1, zao.keep _ _ _ h2 hs⟩
noncomputable def cmpc (ls : List Li) : List Li := (kp ls ls.length).filterMap fun i => ls[i]?
end Go.Proofs.YtmhbmpbgpjljeaaGreat
