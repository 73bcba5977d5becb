/-
  The walk over plain data, and contracts of functions of the program and of its laws.
  Conditions: those that each theorem names.
-/
import Derived.Test.YteeaofpphmhjdaaQT3
import Derived.MapKept
import Derived.RangeFuncNested
import Derived.RangeFuncLeaves
import Derived.Test.YteeaofpphmhjdaaProg
import Derived.KernelRfl
import Derived.Test.YteeaofpphmhjdaaQT1
import Derived.Sort.OwnSorted
import Derived.Sort.KeysCollected
import Derived.Sort.Walk0
import Derived.Laws.AppendOwn
import Derived.RangeFuncBound
import Derived.RangeFuncCalls
import Derived.TacticsInMore
import Derived.LoopNIn
import Derived.LoopIn
namespace Go.Proofs.Yteeaofpphmhjdaa
set_option linter.unusedSimpArgs false
set_option linter.unusedVariables false
set_option linter.unusedSectionVars false
set_option maxRecDepth 4000
open Go.RowKit
variable {P : Program}
def zkc : T -> T -> Option Bool
 | .int k a, .int k' b => if k = k' then some (decide (a = b)) else none
 | .str a, .str b => some (decide (a = b))
 | .bool a, .bool b => some (a == b)
 | _, _ => none
def zbm (k : T) : List (List T) -> Option (Option (List T))
 | [] => some none
 | [] :: _ => none
 | (x :: vs) :: rows => match zkc k x with
  | some true => some (some vs)
  | some false => zbm k rows
  | none => none
def zme : TypeDesc -> T -> Bool
 | .int k, .int k' _ => decide (k' = k)
 | .string, .str _ => true
 | .bool, .bool _ => true
 | _, _ => false
theorem zmm {w : World} {A : Nat -> Prop} {d : TypeDesc} {k : T} {v : Value} (h : zme d k = true) (hv : zag w A k v) : Go.MapKept.IsKey d v := by
 cases d <;> cases k <;> simp [zme] at h <;> unfold zag at hv
 ·subst hv; trivial
 ·rw [hv.1]; exact h
 ·rw [hv.1]; trivial
theorem zjk {w : World} {A : Nat -> Prop} {d : TypeDesc} {k x : T} {kv xv : Value} {b : Bool} (hd : zme d k = true) (h : zkc k x = some b) (hk : zag w A k kv) (hx : zag w A x xv) : Instr.sameNow d kv xv = some b := by
 cases d <;> cases k <;> simp [zme] at hd <;> cases x <;> simp [zkc] at h <;> unfold zag at hk hx
 ·subst hk hx h; rfl
 ·rw [hk.1, hx.1]
  obtain ⟨h1, h2⟩ := h
  subst h1 h2
  simp [Instr.sameNow]
  exact Bool.eq_iff_iff.2 (by simp)
 ·rw [hk.1, hx.1]
  subst h
  simp only [Instr.sameNow, Option.some.injEq]
  rw [Bool.eq_iff_iff, Go.MapKept.bytes_beq]
  simp
theorem zdp {w : World} {A : Nat -> Prop} {d : TypeDesc} {k : T} {kv : Value} (hd : zme d k = true) (hk : zag w A k kv) (ag : Bool) : ∀ (rows : List (List T)) (es : List MapEntry) (i : Nat) (r : Option (List T)), zan w A ag rows es -> zbm k rows = some r →
  match r with
  | none => Instr.findNow d kv es i = some none
  | some vs => ∃ j u us, Instr.findNow d kv es i = some (some (j, u)) /\ (if ag = true then u = .agg ⟨us⟩ else us = [u]) /\ zaa w A vs us
 | [], es, i, r, h, hf => by
  unfold zan at h
  subst h
  cases hf
  rfl
 | [] :: _, _, _, _, _, hf => by cases hf
 | (x :: vs) :: rows, es, i, r, h, hf => by
  unfold zan at h
  obtain ⟨e, es', us, rfl, h1, h2, h3⟩ := h
  unfold zaa at h2
  obtain ⟨xv, us', e1, h2, h4⟩ := h2
  cases e1
  unfold zbm at hf
  split at hf
  ·rename_i hq
   cases hf
   exact ⟨i, e.val, us, by simp [Instr.findNow, zjk hd hq hk h2], h1, h4⟩
  ·rename_i hq
   have := zdp hd hk ag rows es' (i + 1) r h3 hf
   simp only [Instr.findNow, zjk hd hq hk h2]
   exact this
  ·cases hf
def rowV (ag : Bool) (vs : List T) : Option V := if ag = true then some (.agg (vs.map .t)) else match vs with | [t] => some (.one (.t t)) | _ => none
def zuv (P : Program) (t : TypeId) : Option (TypeDesc × TypeId) := match P.underlying t with
 | some (.map kt et) => (P.underlying kt).map fun d => (d, et)
 | _ => none
theorem zqi {t : TypeId} {d : TypeDesc} {et : TypeId} (h : zuv P t = some (d, et)) : ∃ kt, P.underlying t = some (.map kt et) /\ P.underlying kt = some d := by
 unfold zuv at h
 split at h
 ·rename_i kt et' hu
  obtain ⟨d', h1, h2⟩ := Option.map_eq_some_iff.1 h
  cases h2
  exact ⟨kt, hu, h1⟩
 ·cases h
theorem zwt {σ : St} {g : Gh} {w : World} : ∀ {ts : List T} {vs : List Value}, zaa w (Fix σ g w) ts vs -> CRs σ g w (ts.map .t) vs
 | [], vs, h => by unfold zaa at h; exact h
 | t :: ts, vs, h => by
  unfold zaa at h
  obtain ⟨v, vs', rfl, h1, h2⟩ := h
  exact ⟨v, vs', rfl, h1, zwt h2⟩
theorem znl {o : Oper} {σ : St} {mt : TypeId} {x ix : Operand} {d : TypeDesc} {et : TypeId} {ag : Bool} {rows : List (List T)} {k : T} {vs : List T} {v : V} (ho : o.op = .lookup mt x ix false)
  (ht : zuv P mt = some (d, et)) (hk : zme d k = true) (hx : σ.get P 0 x = .one (.t (.mp ag rows))) (hi : σ.get P 0 ix = .one (.t k)) (hf : zbm k rows = some (some vs)) (hv : rowV ag vs = some v) :
  zab P o σ (σ.put o.dst v) :=
 zab.value fun n0 N g a w hR => by
  obtain ⟨kt, t1, t2⟩ := zqi ht
  have h1 := hR.get P 0 x
  have h2 := hR.get P 0 ix
  rw [hx] at h1
  rw [hi] at h2
  have h1 : zag w (Fix σ g w) (.mp ag rows) (a.eval x) := h1
  have h2 : zag w (Fix σ g w) k (a.eval ix) := h2
  unfold zag at h1
  obtain ⟨b, es, clk, e1, hA, hb, he⟩ := h1
  obtain ⟨j, u, us, f1, f2, f3⟩ := zdp hk h2 ag rows es.toList 0 (some vs) he hf
  refine ⟨u, ?_, ?_⟩
  ·unfold execOp
   simp only [ho]
   simp [Instr.lookup, run_underlying t1, e1, Go.MapKept.run_getObj_map hb, Go.MapKept.run_checkKey t2 (zmm hk h2), Go.MapKept.run_findKey t2 f1, Result.andThen]
  ·unfold rowV at hv
   by_cases hag : ag = true
   ·rw [if_pos hag] at hv f2
    cases hv
    exact ⟨us, f2, zwt f3⟩
   ·rw [if_neg hag] at hv f2
    subst f2
    rcases vs with _ | ⟨t, _ | ⟨t', vs⟩⟩
    ·cases hv
    ·cases hv
     unfold zaa at f3
     obtain ⟨v', vs', e, h3, _⟩ := f3
     cases e
     exact h3
    ·cases hv
theorem zni {o : Oper} {σ : St} {mt : TypeId} {x ix : Operand} {d : TypeDesc} {et : TypeId} {ag : Bool} {rows : List (List T)} {k : T} {vs : List T} {v : V} (ho : o.op = .lookup mt x ix false)
  (ht : zuv P mt = some (d, et)) (hk : zme d k = true) (hx : σ.get P 0 x = .one (.t (.mp ag rows))) (hi : σ.get P 0 ix = .one (.t k)) (hf : zbm k rows = some (some vs)) (hv : rowV ag vs = some v) :
  zez P o (zak [x, ix]) (dK o.dst ++ eK []) σ (σ.put o.dst v) := by
 rw [show σ.put o.dst v = (σ.upE []).put o.dst v from rfl]
 refine zez.of (zbd _) fun σ1 h1 => ?_
 have e1 : σ1.get P 0 x = σ.get P 0 x := zbr (l := [x, ix]) h1 (by simp) 0
 have e2 : σ1.get P 0 ix = σ.get P 0 ix := zbr (l := [x, ix]) h1 (by simp) 0
 exact znl ho ht hk (by rw [e1]; exact hx) (by rw [e2]; exact hi) hf hv
def lkV (P : Program) (σ : St) (mt : TypeId) (x ix : Operand) : Option V := match σ.get P 0 x, σ.get P 0 ix, zuv P mt with
 | .one (.t (.mp ag rows)), .one (.t k), some (d, _) => if zme d k = true then (zbm k rows).bind fun r => r.bind (rowV ag) else none
 | _, _, _ => none
theorem lkV_eq {σ : St} {mt : TypeId} {x ix : Operand} {v : V} (h : lkV P σ mt x ix = some v) : ∃ d et ag rows k vs, zuv P mt = some (d, et) /\ zme d k = true /\ σ.get P 0 x = .one (.t (.mp ag rows)) /\ σ.get P 0 ix = .one (.t k) /\ zbm k rows = some (some vs) /\ rowV ag vs = some v := by
 unfold lkV at h
 split at h
 ·rename_i ag rows k d et h1 h2 h3
  split at h
  ·rename_i hk
   obtain ⟨r, h4, h5⟩ := Option.bind_eq_some_iff.1 h
   obtain ⟨vs, rfl, h6⟩ := Option.bind_eq_some_iff.1 h5
   exact ⟨d, et, ag, rows, k, vs, h3, hk, h1, h2, h4, h6⟩
  ·cases h
 ·cases h
section
variable {ks : List Fr} {Q : Exit -> St -> Prop} {σ : St} {ops : Array Oper} {os : List Oper} {L : List (List Ky × List Ky)} {ty : TypeId} {ps : String} {af : Array Edge} {dst : Option Nat} {mt : TypeId} {x ix : Operand} {v : V}
theorem zwf (h : lkV P σ mt x ix = some v) (k : exd P ops os (L ++ [(zak [x, ix], dK dst ++ [])]) ks Q (σ.put dst v)) : exd P ops (⟨dst, .lookup mt x ix false, ty, ps, af, none⟩ :: os) L ks Q σ := by
 obtain ⟨d, et, ag, rows, kk, vs, h1, h2, h3, h4, h5, h6⟩ := lkV_eq h
 exact ze1 rfl rfl (zni rfl h1 h2 h3 h4 h5 h6) k
end
attribute [go_sem] lkV zbm zkc zme rowV zuv
end Go.Proofs.Yteeaofpphmhjdaa
namespace Go.Proofs.Yteeaofpphmhjdaa
set_option linter.unusedSimpArgs false
set_option linter.unusedVariables false
set_option linter.unusedSectionVars false
set_option maxRecDepth 4000
open Go.RowKit
variable {P : Program}
def pinC (v : Value) : T -> T
 | .sl sz rows => .pin v (.sl sz rows)
 | t => t
def zs9 (us : Nat -> Value) : Nat -> List T -> List T
 | _, [] => []
 | j, c :: cs => pinC (us j) c :: zs9 us (j + 1) cs
def zdn (vs : Nat -> Nat -> Value) : Nat -> List (List T) -> List (List T)
 | _, [] => []
 | i, r :: rs => zs9 (vs i) 0 r :: zdn vs (i + 1) rs
theorem zm0 (us : Nat -> Value) : ∀ (cs : List T) (j : Nat), (zs9 us j cs).length = cs.length
 | [], _ => rfl
 | c :: cs, j => by simp [zs9, zm0 us cs]
theorem zd3 (vs : Nat -> Nat -> Value) : ∀ (rs : List (List T)) (i : Nat), (zdn vs i rs).length = rs.length
 | [], _ => rfl
 | c :: cs, j => by simp [zdn, zd3 vs cs]
theorem zap.pin {w : World} {t : T} {v : Value} {fp : List Nat} (h : zap w t v fp) : zap w (pinC v t) v fp := by
 unfold pinC
 split
 ·unfold zap; exact ⟨rfl, h⟩
 ·exact h
theorem zax.pin {w : World} {cells : Array Value} {us : Nat -> Value} : ∀ {cs : List T} {o j : Nat} {fps : List Nat}, zax w cells o cs fps -> (∀ i, us (j + i) = cells.getD (o + i) undef) -> zax w cells o (zs9 us j cs) fps
 | [], _, _, _, h, _ => h
 | c :: cs, o, j, fps, h, hu => by
  unfold zax at h
  obtain ⟨v, f1, f2, h1, rfl, h2, h3⟩ := h
  unfold zs9 zax
  have e : us j = v := by have := hu 0; rw [Nat.add_zero, Nat.add_zero] at this; rw [this, Array.getD_eq_getD_getElem?, h1]; rfl
  refine ⟨v, f1, f2, h1, rfl, by rw [e]; exact h2.pin, zax.pin h3 fun i => ?_⟩
  have := hu (i + 1)
  rwa [show j + (i + 1) = j + 1 + i by omega, show o + (i + 1) = o + 1 + i by omega] at this
theorem zad.pin {w : World} {cells : Array Value} {sz : Nat} : ∀ {rows : List (List T)} {i : Nat} {fps : List Nat}, zad w cells (i * sz) sz rows fps -> zad w cells (i * sz) sz (zdn (fun i j => cells.getD (i * sz + j) undef) i rows) fps
 | [], _, _, h => h
 | r :: rs, i, fps, h => by
  unfold zad at h
  obtain ⟨h1, f1, f2, rfl, h2, h3⟩ := h
  unfold zdn zad
  refine ⟨by rw [zm0]; exact h1, f1, f2, rfl, h2.pin fun j => by simp, ?_⟩
  rw [show i * sz + sz = (i + 1) * sz by rw [Nat.add_mul]; omega] at h3 ⊢
  exact zad.pin h3
theorem zap.pins {w : World} {sz : Nat} {rows : List (List T)} {v : Value} {fp : List Nat} (h : zap w (.sl sz rows) v fp) : ∃ vs, zap w (.sl sz (zdn vs 0 rows)) v fp := by
 unfold zap at h
 obtain ⟨ao, cap, h1, h2, h3, h4⟩ := h
 rcases h4 with ⟨k1, k2, rfl, k4⟩ | ⟨b, cells, ty, fps, k1, k2, k3, k4, k5⟩
 ·refine ⟨fun _ _ => undef, ?_⟩
  unfold zap
  exact ⟨ao, cap, h1, h2, h3, Or.inl ⟨k1, k2, rfl, k4⟩⟩
 ·refine ⟨fun i j => cells.getD (i * sz + j) undef, ?_⟩
  unfold zap
  have := zad.pin (i := 0) (by rw [Nat.zero_mul]; exact k5)
  rw [Nat.zero_mul] at this
  exact ⟨ao, cap, by rw [zd3]; exact h1, by rw [zd3]; exact h2, h3, Or.inr ⟨b, cells, ty, fps, k1, k2, k3, k4, this⟩⟩
def zjo : T -> T
 | .pin _ t => t
 | t => t
def zdq (rs : List (List T)) : List (List T) := rs.map fun r => r.map zjo
theorem zap.unpin {w : World} : ∀ {t : T} {v : Value} {fp : List Nat}, zap w t v fp -> zap w (zjo t) v fp
 | .pin _ _, _, _, h => by unfold zap at h; exact h.2
 | .int _ _, _, _, h => h
 | .bool _, _, _, h => h
 | .str _, _, _, h => h
 | .sl _ _, _, _, h => h
 | .ptr _, _, _, h => h
 | .fn _ _, _, _, h => h
 | .mp _ _, _, _, h => h
 | .vs _ _ _, _, _, h => h
theorem zax.unpin {w : World} {cells : Array Value} : ∀ {cs : List T} {o : Nat} {fps : List Nat}, zax w cells o cs fps -> zax w cells o (cs.map zjo) fps
 | [], _, _, h => h
 | c :: cs, o, fps, h => by
  unfold zax at h
  obtain ⟨v, f1, f2, h1, rfl, h2, h3⟩ := h
  rw [List.map_cons]
  unfold zax
  exact ⟨v, f1, f2, h1, rfl, h2.unpin, h3.unpin⟩
theorem zad.unpin {w : World} {cells : Array Value} {sz : Nat} : ∀ {rows : List (List T)} {o : Nat} {fps : List Nat}, zad w cells o sz rows fps -> zad w cells o sz (zdq rows) fps
 | [], _, _, h => h
 | r :: rs, o, fps, h => by
  unfold zad at h
  obtain ⟨h1, f1, f2, rfl, h2, h3⟩ := h
  show zad w cells o sz (r.map zjo :: zdq rs) (f1 ++ f2)
  unfold zad
  exact ⟨by simpa using h1, f1, f2, rfl, h2.unpin, h3.unpin⟩
theorem zap.unpins {w : World} {sz : Nat} {rows : List (List T)} {v : Value} {fp : List Nat} (h : zap w (.sl sz rows) v fp) : zap w (.sl sz (zdq rows)) v fp := by
 unfold zap at h ⊢
 have hl : (zdq rows).length = rows.length := by simp [zdq]
 obtain ⟨ao, cap, h1, h2, h3, h4⟩ := h
 refine ⟨ao, cap, by rw [hl]; exact h1, by rw [hl]; exact h2, h3, ?_⟩
 rcases h4 with ⟨k1, k2, rfl, k4⟩ | ⟨b, cells, ty, fps, k1, k2, k3, k4, k5⟩
 ·exact Or.inl ⟨k1, k2, rfl, k4⟩
 ·exact Or.inr ⟨b, cells, ty, fps, k1, k2, k3, k4, k5.unpin⟩
theorem Rel.reown {n0 : Nat -> Prop} {N : Nat} {σ : St} {g : Gh} {a : Act} {w : World} (hR : Rel n0 N σ g a w) (hn : LtK n0 w) {e sz gn : Nat} {rows rows' : List (List T)} (he : σ.ev e = some ⟨true, sz, rows, gn, true⟩) (h : zap w (.sl sz rows') (g.ψ e gn) (g.φ e)) :
  Rel n0 N (σ.inp [(e, rows')]) g a w := by
 have hOn : σ.On e := ⟨_, he, rfl⟩
 have hev : ∀ e', (∀ p ∈ [(e, rows')], p.1 ≠ e') -> (σ.inp [(e, rows')]).ev e' = σ.ev e' := fun e' h' => zdy (by simpa using Ne.symm (h' (e, rows') (List.mem_singleton.2 rfl)))
 have m : Mv σ (σ.inp [(e, rows')]) g g w w := by
  refine ⟨fun b hf => rfl, fun b hf => ⟨hf.1, fun e' x hx hon => ?_, hf.2.2⟩, fun b hb => ⟨rfl, hb⟩, fun e n he => ⟨zei he, rfl⟩, fun b hb => (zjf hR (U := [(e, rows')]) (fp := g.φ e) (φ' := g.φ) (fun b hb => ⟨(e, rows'), List.mem_singleton.2 rfl, hb⟩) (fun p hp => by rw [List.mem_singleton.1 hp]; exact hOn) (Bk.refl _ _) (fun p hp b hb => Or.inl (by rw [List.mem_singleton.1 hp] at hb; exact hb)) (fun _ _ => rfl) b hb).2.2⟩
  by_cases h' : e' = e
  ·subst h'; exact hf.2.1 e' _ he rfl
  ·exact hf.2.1 e' x ((hev e' (by simpa using Ne.symm h')).symm.trans hx) hon
 exact hR.inp hn (fp := g.φ e) (fp' := g.φ e) (φ' := g.φ) (by simp) (by simp) (fun b hb => ⟨(e, rows'), List.mem_singleton.2 rfl, hb⟩) (Bk.refl _ _) (fun b hb => Or.inl hb) (fun _ _ => rfl)
  (fun p hp => by simp at hp; subst hp; exact ⟨sz, rows, gn, he, h, hR.nodup e hOn, fun b hb => hb⟩) (fun p hp q hq hne => by simp at hp hq; subst hp; subst hq; exact absurd rfl hne)
  (fun i v h => m.vr h) (fun b cs vs _ h => m.crs h) (fun e x _ _ _ v fpx hE hs => m.evr hE hs) (fun e x _ _ v h => m.rep h)
def zwc (vs : Nat -> Nat -> Value) (sz : Nat) (rows : List (List T)) (post : List D) : St := (znm [] (.one (.sl sz rows)) post).inp [(0, zdn vs 0 rows)]
theorem zsi {f : FuncId} {fn : Func} {c : Code} {sz : Nat} {rows rows' : List (List T)} {post : List D} {res : List D} (hc : za0 P f) (hf : P.funcs[f]? = some fn) (hb : fn.body = some c) (hd : za3 fn.ntmps c = true) (hN : (zdj [] (.one (.sl sz rows)) post).length <= fn.ntmps) (hN2 : fn.ntmps <= 1000000)
  (h : ∀ vs, ex P c [] (PI P fn.results.toList (.one (.sl sz rows')) res) (zwc vs sz rows post)) : IC P f [] (.one (.sl sz rows)) post (.one (.sl sz rows')) res := by
 have hs : ∀ ds : List D, zc7 (zdj [] (.one (.sl sz rows)) ds) := fun ds => ⟨rfl, zb1 ds⟩
 refine IC_ofW hc hf hb hd hN hN2 (hs _) trivial fun n0 N g a w hR hn => ?_
 have he : (znm [] (.one (.sl sz rows)) post).ev 0 = some ⟨true, sz, rows, 0, true⟩ := rfl
 have hO := zcn hR he
 obtain ⟨vs, hv⟩ := hO.pins
 exact ⟨_, h vs, hR.reown hn he hv⟩
theorem zax.cell {w : World} {cells : Array Value} : ∀ {cs : List T} {o j : Nat} {c : T} {fps : List Nat}, zax w cells o cs fps -> cs[j]? = some c →
  ∃ f1 f f2 v, fps = f1 ++ (f ++ f2) /\ cells[o + j]? = some v /\ zap w c v f /\ ∀ (w' : World) (c' : T) (f' : List Nat), (∀ b, b ∈ f1 \/ b ∈ f2 -> w'.heap[b]? = w.heap[b]?) -> zap w' c' v f' -> zax w' cells o (cs.set j c') (f1 ++ (f' ++ f2))
 | [], _, _, _, _, _, h => by simp at h
 | d :: cs, o, 0, c, fps, h, hc => by
  unfold zax at h
  obtain ⟨v, f1, f2, h1, rfl, h2, h3⟩ := h
  simp only [List.getElem?_cons_zero, Option.some.injEq] at hc
  subst hc
  refine ⟨[], f1, f2, v, rfl, h1, h2, fun w' c' f' hk ho => ?_⟩
  show zax w' cells o (c' :: cs) (f' ++ f2)
  unfold zax
  exact ⟨v, f', f2, h1, rfl, ho, zax.keep cells _ cs f2 h3 fun b hb => hk b (Or.inr hb)⟩
 | d :: cs, o, j + 1, c, fps, h, hc => by
  unfold zax at h
  obtain ⟨v, f1, f2, h1, rfl, h2, h3⟩ := h
  obtain ⟨g1, g, g2, u, rfl, k1, k2, k3⟩ := zax.cell h3 (by simpa using hc)
  refine ⟨f1 ++ g1, g, g2, u, by simp, by rw [<- k1]; congr 1; omega, k2, fun w' c' f' hk ho => ?_⟩
  show zax w' cells o (d :: cs.set j c') _
  unfold zax
  exact ⟨v, f1, g1 ++ (f' ++ g2), h1, by simp, zap.keep d v f1 h2 fun b hb => hk b (Or.inl (by simp [hb])), k3 w' c' f' (fun b hb => hk b (by rcases hb with hb | hb <;> simp [hb])) ho⟩
theorem zad.cell {w : World} {cells : Array Value} {sz : Nat} : ∀ {rows : List (List T)} {o i j : Nat} {r : List T} {c : T} {fps : List Nat}, zad w cells o sz rows fps -> rows[i]? = some r -> r[j]? = some c →
  ∃ f1 f f2 v, fps = f1 ++ (f ++ f2) /\ cells[o + i * sz + j]? = some v /\ zap w c v f /\ ∀ (w' : World) (c' : T) (f' : List Nat), (∀ b, b ∈ f1 \/ b ∈ f2 -> w'.heap[b]? = w.heap[b]?) -> zap w' c' v f' -> zad w' cells o sz (rows.set i (r.set j c')) (f1 ++ (f' ++ f2))
 | [], _, _, _, _, _, _, _, h, _ => by simp at h
 | d :: rows, o, 0, j, r, c, fps, h, hr, hc => by
  unfold zad at h
  obtain ⟨h1, f1, f2, rfl, h2, h3⟩ := h
  simp only [List.getElem?_cons_zero, Option.some.injEq] at hr
  subst hr
  obtain ⟨g1, g, g2, u, rfl, k1, k2, k3⟩ := zax.cell h2 hc
  refine ⟨g1, g, g2 ++ f2, u, by simp, by simpa using k1, k2, fun w' c' f' hk ho => ?_⟩
  show zad w' cells o sz (d.set j c' :: rows) _
  unfold zad
  exact ⟨by simp [h1], g1 ++ (f' ++ g2), f2, by simp, k3 w' c' f' (fun b hb => hk b (by rcases hb with hb | hb <;> simp [hb])) ho, zad.keep cells _ sz rows f2 h3 fun b hb => hk b (by simp [hb])⟩
 | d :: rows, o, i + 1, j, r, c, fps, h, hr, hc => by
  unfold zad at h
  obtain ⟨h1, f1, f2, rfl, h2, h3⟩ := h
  obtain ⟨g1, g, g2, u, rfl, k1, k2, k3⟩ := zad.cell h3 (by simpa using hr) hc
  refine ⟨f1 ++ g1, g, g2, u, by simp, by rw [<- k1]; congr 1; rw [Nat.add_mul]; omega, k2, fun w' c' f' hk ho => ?_⟩
  show zad w' cells o sz (d :: rows.set i (r.set j c')) _
  unfold zad
  exact ⟨h1, f1, g1 ++ (f' ++ g2), by simp, zax.keep cells o d f1 h2 fun b hb => hk b (Or.inl (by simp [hb])), k3 w' c' f' (fun b hb => hk b (by rcases hb with hb | hb <;> simp [hb])) ho⟩
theorem zqc {o : Oper} {σ : St} {x : Operand} {asx : Array Operand} {ts : Array TypeId} {f : FuncId} {cvs : List V} {post : List D} {sz1 : Nat} {rows1 rows1' : List (List T)} {res : List D} {v : Value} {p2 : List V} {e i j sz gn : Nat} {rows : List (List T)} {r : List T} (ho : o.op = .call ⟨.value x, asx, ts⟩)
  (h : IC P f [] (.one (.sl sz1 rows1)) post (.one (.sl sz1 rows1')) res) (hc : zas (σ.get P 0 x) = some (f, cvs)) (hx : σ.gets P asx ts ++ cvs = .one (.cv v) :: p2) (h2 : zkd p2 post) (he : σ.ev e = some ⟨true, sz, rows, gn, true⟩) (hr : rows[i]? = some r) (hcl : r[j]? = some (.pin v (.sl sz1 rows1)))
  (hres : res.all D.fl = true) (hD : Deep σ) : zab P o σ ((σ.inp [(e, rows.set i (r.set j (.sl sz1 rows1')))]).put o.dst (zno (res.map D.toV))) := by
 intro n0 N g a w hR hn hdN
 obtain ⟨vs, hrun, hvl⟩ := zdh hR ho hc h.1
 rw [hx] at hvl
 obtain ⟨v1, us2, rfl, rfl, v4⟩ := hvl
 have hOn : σ.On e := ⟨_, he, rfl⟩
 have hO := zcn hR he
 have hnd := hR.nodup e hOn
 have hO2 := hO
 unfold zap at hO
 obtain ⟨ao, cap, e1, e2, e3, e4⟩ := hO
 rcases e4 with ⟨_, _, rfl, _⟩ | ⟨b0, cells, ty, fps, k1, k2, k3, k4, k5⟩
 ·simp at hr
 obtain ⟨f1, ff, f2, u, rfl, c1, c2, c3⟩ := zad.cell k5 hr hcl
 unfold zap at c2
 obtain ⟨rfl, c2⟩ := c2
 have hsubf : ∀ b', b' ∈ ff -> b' ∈ g.φ e := fun b' hb => by rw [k2]; simp [hb]
 rw [k2] at hnd
 obtain ⟨nb, nd⟩ := List.nodup_cons.1 hnd
 obtain ⟨nd1, nd2, nd3⟩ := List.nodup_append.1 nd
 obtain ⟨nd4, nd5, nd6⟩ := List.nodup_append.1 nd2
 have hbf : ∀ b', (b' = b0 \/ b' ∈ f1 \/ b' ∈ f2) -> b' ∉ ff := fun b' h hm => by
  rcases h with rfl | h | h
  ·exact nb (by simp [hm])
  ·exact nd3 b' h b' (by simp [hm]) rfl
  ·exact nd6 b' hm b' h rfl
 have hlt : ∀ b' ∈ g.φ e, b' < w.heap.size := (hR.evs e _ he rfl).lt
 unfold Oper.wp
 rw [hrun]
 refine (h.2 w [] u us2 ff (zge (.sl sz1 rows1) ff) rfl ⟨c2, rfl⟩ (zfn _ h2 v4) nd4).mono ?_
 rintro ee w' ⟨us, fp', tp', rfl, q1, q2, q3, q4⟩
 obtain ⟨v0, us0, g1, g2, t1, t2, e0, rfl, rfl, q5, q6⟩ := q1
 cases e0
 obtain ⟨n1, n2, n3⟩ := List.nodup_append.1 q2
 have hnew : ∀ b', b' < w.heap.size -> b' ∈ g1 -> b' ∈ ff := fun b' h1 h2 => (q3 b' (List.mem_append_left _ h2)).resolve_right (by omega)
 have hsub : ∀ b' ∈ g1, b' ∈ ff \/ w.heap.size <= b' := fun b' hb => q3 b' (List.mem_append_left _ hb)
 have hblk : ∀ b', b' < w.heap.size -> b' ∉ ff -> w'.heap[b']? = w.heap[b']? := fun b' h1 h2 => q4.block b' ⟨h1, h2⟩
 have hrows := c3 w' (.sl sz1 rows1') g1 (fun b' hb => hblk b' (hlt b' (by rw [k2]; rcases hb with hb | hb <;> simp [hb])) (hbf b' (Or.inr hb))) q5.1
 have hown : zap w' (.sl sz (rows.set i (r.set j (.sl sz1 rows1')))) (g.ψ e gn) (b0 :: (f1 ++ (g1 ++ f2))) := by
  unfold zap
  exact ⟨ao, cap, by simpa using e1, by simpa using e2, e3, Or.inr ⟨b0, cells, ty, _, k1, rfl, by rw [hblk b0 (hlt b0 (by rw [k2]; simp)) (hbf b0 (Or.inl rfl))]; exact k3, k4, hrows⟩⟩
 have hnd' : (b0 :: (f1 ++ (g1 ++ f2))).Nodup := by
  refine List.nodup_cons.2 ⟨fun hm => ?_, List.nodup_append.2 ⟨nd1, List.nodup_append.2 ⟨n1, nd5, fun x hx y hy hxy => ?_⟩, fun x hx y hy hxy => ?_⟩⟩
  ·have hl := hlt b0 (by rw [k2]; simp)
   simp only [List.mem_append] at hm
   rcases hm with hm | hm | hm
   ·exact nb (by simp [hm])
   ·exact nb (by simp [hnew b0 hl hm])
   ·exact nb (by simp [hm])
  ·subst hxy
   exact nd6 x (hnew x (hlt x (by rw [k2]; simp [hy])) hx) x hy rfl
  ·subst hxy
   have hl := hlt x (by rw [k2]; simp [hx])
   rcases List.mem_append.1 hy with hy | hy
   ·exact nd3 x hx x (by simp [hnew x hl hy]) rfl
   ·exact nd3 x hx x (by simp [hy]) rfl
 have hBkf : Bk (fun k => k < w.heap.size /\ k ∉ g.φ e) w w' := ⟨q4.os, q4.tape, q4.output, q4.size, fun k hk => q4.block k ⟨hk.1, fun hm => hk.2 (hsubf k hm)⟩⟩
 have hBk : Bk n0 w w' := ⟨q4.os, q4.tape, q4.output, q4.size, fun k hk => q4.block k ⟨hn k hk, fun hm => hR.etop e hOn k (hsubf k hm) hk⟩⟩
 have hfp' : ∀ b' ∈ b0 :: (f1 ++ (g1 ++ f2)), b' ∈ g.φ e \/ w.heap.size <= b' := fun b' hb => by
  simp only [List.mem_cons, List.mem_append] at hb
  rw [k2]
  rcases hb with hb | hb | hb | hb
  ·left; simp [hb]
  ·left; simp [hb]
  ·rcases hsub b' hb with hb | hb
   ·left; simp [hb]
   ·exact Or.inr hb
  ·left; simp [hb]
 generalize hrw : rows.set i (r.set j (.sl sz1 rows1')) = rows' at hown ⊢
 have j1 : ∀ e', (∀ p ∈ [(e, rows')], p.1 ≠ e') -> upd g.φ e (b0 :: (f1 ++ (g1 ++ f2))) e' = g.φ e' := fun e' h' => zai _ _ (Ne.symm (h' (e, rows') (List.mem_singleton.2 rfl)))
 have hfpU : ∀ b' ∈ g.φ e, ∃ p ∈ [(e, rows')], b' ∈ g.φ p.1 := fun b' hb => ⟨(e, rows'), List.mem_singleton.2 rfl, hb⟩
 have hOU : ∀ p ∈ [(e, rows')], σ.On p.1 := fun p hp => by rw [List.mem_singleton.1 hp]; exact hOn
 have hb' : ∀ p ∈ [(e, rows')], ∀ b' ∈ upd g.φ e (b0 :: (f1 ++ (g1 ++ f2))) p.1, b' ∈ g.φ e \/ w.heap.size <= b' := fun p hp b' hb => by
  rw [List.mem_singleton.1 hp, zae] at hb
  exact hfp' b' hb
 obtain ⟨d1, d2, d3⟩ := hD
 have hrn := zjf hR hfpU hOU hBkf hb' j1
 have hR' : Rel n0 N (σ.inp [(e, rows')]) { g with φ := upd g.φ e (b0 :: (f1 ++ (g1 ++ f2))) } a w' := by
  refine hR.inp hn (by simp) (fun p hp => by rw [List.mem_singleton.1 hp]; exact fun _ h => h) hfpU hBkf hfp' j1
   (fun p hp => by rw [List.mem_singleton.1 hp, zae]; exact ⟨sz, rows, gn, he, hown, hnd', fun _ h => h⟩) (fun p hp q hq hne => by rw [List.mem_singleton.1 hp, List.mem_singleton.1 hq] at hne; exact absurd rfl hne)
   (fun i v h => zw7 (g := g) (g' := { g with φ := upd g.φ e (b0 :: (f1 ++ (g1 ++ f2))) }) rfl rfl (fun e n => zei) hrn (d1 i) h) (fun b cs vs hb h => zf9 (g := g) (g' := { g with φ := upd g.φ e (b0 :: (f1 ++ (g1 ++ f2))) }) rfl rfl (fun e n => zei) hrn (d2 b cs hb) h) (fun e x he hx hon v fpx hE hs => ?_) (fun e x hx hon => ?_)
  ·obtain ⟨ao, cap, r1, r2, r3, r4⟩ := hE
   refine ⟨ao, cap, r1, r2, r3, ?_⟩
   rcases r4 with r4 | ⟨b, cells, ty, fps, r4, r5, r6, r7, r8⟩
   ·exact Or.inl r4
   ·subst r5
    rw [if_pos (d3 e x hx).2] at r8
    exact Or.inr ⟨b, cells, ty, fps, r4, rfl, by rw [hs b (by simp)]; exact r6, r7, by rw [if_pos (d3 e x hx).2]; exact zad.keep cells 0 x.sz x.rows fps r8 fun b' hb' => hs b' (by simp [hb'])⟩
  ·rw [(d3 e x hx).1] at hon; cases hon
 refine ⟨{ g with φ := upd g.φ e (b0 :: (f1 ++ (g1 ++ f2))) }, ?_, hBk, rfl, rfl⟩
 exact hR'.put o.dst (zf7 (za4.vrl (zh7 hres q6)) (fun y hy => by
  obtain ⟨d, _, rfl⟩ := List.mem_map.1 hy
  cases d <;> rfl)) hdN
def zhb (rows : List (List T)) (i j : Nat) (t : T) : List (List T) := rows.set i ((rows.getD i []).set j t)
def evC (i j : Nat) (t : T) (x : Ev) : Ev := ⟨x.deep, x.sz, zhb x.rows i j t, x.gen, x.on⟩
def St.cN (σ : St) (e i j : Nat) (t : T) (dst : Option Nat) (res : List D) : St := St.put ⟨σ.sl, σ.bx, upd σ.ev e ((σ.ev e).map (evC i j t))⟩ dst (zno (res.map D.toV))
def onN (x : Option Ev) (i j : Nat) (v : Value) (t : T) : Prop := zal x fun y => y.on = true /\ y.deep = true /\ y.rows[i]?.isSome = true /\ (y.rows.getD i [])[j]? = some (.pin v t)
def zx3 (xs : List V) (K : Value -> List V -> Prop) : Prop := match xs with
 | .one (.cv v) :: p2 => K v p2
 | _ => False
section
variable {ks : List Fr} {Q : Exit -> St -> Prop} {σ : St} {ops : Array Oper} {os : List Oper} {ty : TypeId} {ps : String} {af : Array Edge} {dst : Option Nat} {x : Operand} {asx : Array Operand} {ts : Array TypeId} {f : FuncId} {post : List D} {res : List D}
theorem callN {l : List (Nat × V)} {bl : List (Nat × List C)} {el : List (Nat × Ev)} (e i j : Nat) {sz1 : Nat} {rows1 rows1' : List (List T)} (h : IC P f [] (.one (.sl sz1 rows1)) post (.one (.sl sz1 rows1')) res) (hw : wkL σ (hd l bl el) l /\ wkB σ (hd l bl el) bl /\ wkE σ el)
  (hd1 : (l.all fun p => p.2.mOk) = true) (hd2 : (bl.all fun p => p.2.all C.mOk) = true) (hd3 : (el.all fun p => p.2.on && p.2.deep) = true)
  (hp : zal (zas ((hd l bl el).get P 0 x)) fun p => p.1 = f /\ zx3 ((hd l bl el).gets P asx ts ++ p.2) fun v p2 => zkd p2 post /\ onN (tbl el e) i j v (.sl sz1 rows1)) (hr : res.all D.fl = true)
  (k : exo P ops os ks Q ((hd l bl el).cN e i j (.sl sz1 rows1') dst res)) : exo P ops (⟨dst, .call ⟨.value x, asx, ts⟩, ty, ps, af, none⟩ :: os) ks Q σ := by
 obtain ⟨⟨f', cvs⟩, h1, rfl, h2⟩ := zam hp
 unfold zx3 at h2
 split at h2
 ·rename_i v p2 hx
  obtain ⟨h3, h4⟩ := h2
  obtain ⟨⟨dp, sz, rows, gn, on⟩, he, rfl, rfl, h5, h6⟩ := zam h4
  obtain ⟨r, hr'⟩ := Option.isSome_iff_exists.1 h5
  have hg : rows.getD i [] = r := by rw [List.getD_eq_getElem?_getD, hr']; rfl
  rw [hg] at h6
  have hs := zqc (P := P) (o := ⟨dst, .call ⟨.value x, asx, ts⟩, ty, ps, af, none⟩) (σ := hd l bl el) rfl h h1 hx h3 (e := e) he hr' h6 hr (zsm hd1 hd2 hd3)
  refine zch rfl rfl (σ' := (hd l bl el).cN e i j (.sl sz1 rows1') dst res) ?_ k
  have e0 : (hd l bl el).cN e i j (.sl sz1 rows1') dst res = ((hd l bl el).inp [(e, rows.set i (r.set j (.sl sz1 rows1')))]).put dst (zno (res.map D.toV)) := by
   unfold St.cN St.inp zoo zoo
   rw [show (hd l bl el).ev e = _ from he]
   simp only [Option.map_some, zhb, evC, hg]
  rw [e0]
  exact zab.pre (zac hw) hs
 ·exact h2.elim
end
attribute [go_sem] zx3 onN St.cN evC
end Go.Proofs.Yteeaofpphmhjdaa
namespace Go.Proofs.Yteeaofpphmhjdaa
set_option linter.unusedSimpArgs false
set_option linter.unusedVariables false
set_option linter.unusedSectionVars false
set_option maxRecDepth 4000
open Go.RowKit
variable {P : Program}
abbrev Sr := Nat × Option (Nat × Nat)
def okQ : Option (Nat × Nat) -> Option (Nat × Nat) -> Bool
 | some a, some b => !(a.1 == b.1 && a.2 == b.2)
 | _, _ => false
def okS : List Sr -> Sr -> Bool
 | [], _ => true
 | (e, p) :: u, (e', p') => (if e = e' then okQ p p' else true) && okS u (e', p')
def owU (x : Option Ev) (sz : Nat) (rows : List (List T)) (g : Nat) : Prop := zal x fun y => y.deep = true /\ y.sz = sz /\ (y.rows = rows \/ zdq y.rows = rows) /\ y.gen = g /\ y.on = true
def gvT (σ : St) (K : List Sr -> List (Nat × Nat × Nat) -> Prop) (u : List Sr) (ps : List (Nat × Nat × Nat)) (x t : T) : Prop := match x, ps with
 | .pin v y, (e, i, j) :: ps => y = t /\ okS u (e, some (i, j)) = true /\ onN (σ.ev e) i j v t /\ K ((e, some (i, j)) :: u) ps
 | x, ps => x = t /\ t.flat = true /\ K u ps
def gvK (σ : St) (K : List Sr -> List (Nat × Nat × Nat) -> Prop) : List Sr -> List (Nat × Nat × Nat) -> List C -> List T -> Prop
 | u, ps, [], [] => K u ps
 | u, ps, .t x :: cs, t :: ts => gvT σ (fun u ps => gvK σ K u ps cs ts) u ps x t
 | u, ps, .nl _ :: cs, .sl _ rows :: ts => rows = [] /\ gvK σ K u ps cs ts
 | u, ps, .ow e g :: cs, .sl sz rows :: ts => okS u (e, none) = true /\ owU (σ.ev e) sz rows g /\ gvK σ K ((e, none) :: u) ps cs ts
 | u, (e, i, j) :: ps, .cv v :: cs, t :: ts => okS u (e, some (i, j)) = true /\ onN (σ.ev e) i j v t /\ gvK σ K ((e, some (i, j)) :: u) ps cs ts
 | _, _, _, _ => False
def rdC : C -> T -> Prop
 | .t x, y => x = y /\ T.nm y = true
 | .fn f [], .fn g [] => f = g
 | .rn x, y => x = y
 | .er cs o, .ptr cs' => o = 0 /\ cs = cs'
 | .nl _, .sl _ rows => rows = []
 | _, _ => False
def rdCs : List C -> List T -> Prop
 | [], [] => True
 | c :: cs, t :: ts => rdC c t /\ rdCs cs ts
 | _, _ => False
def rdV : V -> D -> Prop
 | .one c, .one t => rdC c t
 | .agg cs, .agg ts => rdCs cs ts
 | _, _ => False
def gvA (σ : St) (K : List Sr -> Prop) : List Sr -> List (Nat × Nat × Nat) -> List V -> List (Bool × D) -> Prop
 | u, _, [], [] => K u
 | u, ps, v :: vs, (false, d) :: ds => rdV v d /\ gvA σ K u ps vs ds
 | u, ps, .one c :: vs, (true, .one t) :: ds => gvK σ (fun u ps => gvA σ K u ps vs ds) u ps [c] [t]
 | u, ps, .agg cs :: vs, (true, .agg ts) :: ds => gvK σ (fun u ps => gvA σ K u ps vs ds) u ps cs ts
 | _, _, _, _ => False
theorem zao.fam {w : World} : ∀ {cs : List T} {vs : List Value} {fps : List Nat}, zao w cs vs fps -> ∃ F : Nat -> List Nat, (∀ k c, cs[k]? = some c -> ∃ v, vs[k]? = some v /\ zap w c v (F k)) /\ (∀ k b, b ∈ F k -> b ∈ fps) /\ (fps.Nodup -> (∀ k, (F k).Nodup) /\ ∀ k k', k ≠ k' -> ∀ b ∈ F k, b ∉ F k')
 | [], vs, fps, h => ⟨fun _ => [], fun k c hc => by simp at hc, by simp, fun _ => ⟨by simp, by simp⟩⟩
 | c :: cs, _, _, h => by
  obtain ⟨v, vs', f1, f2, rfl, rfl, h1, h2⟩ := h
  obtain ⟨F, k1, k2, k3⟩ := zao.fam h2
  refine ⟨fun k => match k with | 0 => f1 | k + 1 => F k, fun k c' hc => ?_, fun k b hb => ?_, fun hn => ?_⟩
  ·cases k with
   | zero => simp only [List.getElem?_cons_zero, Option.some.injEq] at hc; subst hc; exact ⟨v, rfl, h1⟩
   | succ k => exact k1 k c' (by simpa using hc)
  ·cases k with
   | zero => exact List.mem_append_left _ hb
   | succ k => exact List.mem_append_right _ (k2 k b hb)
  ·obtain ⟨n1, n2, n3⟩ := List.nodup_append.1 hn
   obtain ⟨m1, m2⟩ := k3 n2
   refine ⟨fun k => ?_, fun k k' hne b hb hb' => ?_⟩
   ·cases k with
    | zero => exact n1
    | succ k => exact m1 k
   ·cases k with
    | zero =>
     cases k' with
     | zero => exact hne rfl
     | succ k' => exact n3 b hb b (k2 k' b hb') rfl
    | succ k =>
     cases k' with
     | zero => exact n3 b hb' b (k2 k b hb) rfl
     | succ k' => exact m2 k k' (by omega) b hb hb'
theorem zrq {sz : Nat} : ∀ {rows : List (List T)} {i j : Nat} {r : List T} {c : T}, lens sz rows -> rows[i]? = some r -> r[j]? = some c -> rows.flatten[i * sz + j]? = some c
 | [], _, _, _, _, _, h, _ => by simp at h
 | d :: rows, 0, j, r, c, hl, hr, hc => by
  simp only [List.getElem?_cons_zero, Option.some.injEq] at hr
  subst hr
  have hj : j < d.length := by
   rcases Nat.lt_or_ge j d.length with h | h
   ·exact h
   ·rw [List.getElem?_eq_none h] at hc; cases hc
  rw [List.flatten_cons, List.getElem?_append_left (by omega)]
  simpa using hc
 | d :: rows, i + 1, j, r, c, hl, hr, hc => by
  have hd : d.length = sz := hl d (by simp)
  have := zrq (sz := sz) (rows := rows) (fun r hr => hl r (by simp [hr])) (by simpa using hr) hc
  rw [List.flatten_cons, List.getElem?_append_right (by rw [hd, Nat.add_mul]; omega)]
  rwa [show (i + 1) * sz + j - d.length = i * sz + j by rw [hd, Nat.add_mul]; omega]
structure Fam (w : World) (σ : St) (g : Gh) (B : Sr -> List Nat) : Prop where
 whole : ∀ e, B (e, none) = g.φ e
 cell : ∀ e i j v t, onN (σ.ev e) i j v t -> zap w t v (B (e, some (i, j)))
 sub : ∀ e p b, σ.On e -> b ∈ B (e, p) -> b ∈ g.φ e
 nodup : ∀ e p, σ.On e -> (B (e, p)).Nodup
 apart : ∀ e p p', σ.On e -> p ≠ p' -> ∀ b ∈ B (e, some p), b ∉ B (e, some p')
theorem Rel.fam {n0 : Nat -> Prop} {N : Nat} {σ : St} {g : Gh} {a : Act} {w : World} (hR : Rel n0 N σ g a w) : ∃ B, Fam w σ g B := by
 have h1 : ∀ e, ∃ F : Nat × Nat -> List Nat, ∀ dp sz rows gn, σ.ev e = some ⟨dp, sz, rows, gn, true⟩ -> ((dp = true -> ∀ i j v t, rows[i]?.isSome = true -> (rows.getD i [])[j]? = some (.pin v t) -> zap w t v (F (i, j))) /\ (∀ p b, b ∈ F p -> b ∈ g.φ e) /\ (∀ p, (F p).Nodup) /\ ∀ p p', p ≠ p' -> ∀ b ∈ F p, b ∉ F p') := by
  intro e
  by_cases hon : ∃ sz rows gn, σ.ev e = some ⟨true, sz, rows, gn, true⟩
  ·obtain ⟨sz, rows, gn, he⟩ := hon
   have hnd := hR.nodup e ⟨_, he, rfl⟩
   obtain ⟨ao, cap, vs, k1, k2, k3, k4, k5, k6, k7⟩ := hR.vals he rfl
   rcases k7 with ⟨_, _, k7, k8⟩ | ⟨b, cells, ty, fps, k7, k8, k9, k10, k11, k12, k13⟩
   ·refine ⟨fun _ => [], fun dp sz' rows' gn' he' => ?_⟩
    rw [he, Option.some.injEq] at he'
    cases he'
    have k7 : rows = [] := k7
    subst k7
    exact ⟨fun _ i j v t h => by simp at h, by simp, by simp, by simp⟩
   ·obtain ⟨F, f1, f2, f3⟩ := (k12 rfl).fam
    rw [k8] at hnd
    obtain ⟨m1, m2⟩ := f3 (List.nodup_cons.1 hnd).2
    refine ⟨fun p => if p.2 < sz /\ p.1 < rows.length then F (p.1 * sz + p.2) else [], fun dp sz' rows' gn' he' => ?_⟩
    rw [he, Option.some.injEq] at he'
    cases he'
    refine ⟨fun _ i j v t h1 h2 => ?_, fun p b hb => ?_, fun p => ?_, fun p p' hne b hb hb' => ?_⟩
    ·obtain ⟨r, hr⟩ := Option.isSome_iff_exists.1 h1
     have hg : rows.getD i [] = r := by rw [List.getD_eq_getElem?_getD, hr]; rfl
     rw [hg] at h2
     have hj : j < sz := by
      have : r.length = sz := k4 r (List.mem_of_getElem? hr)
      rcases Nat.lt_or_ge j r.length with h | h
      ·omega
      ·rw [List.getElem?_eq_none h] at h2; cases h2
     have hi : i < rows.length := (List.getElem?_eq_some_iff.1 hr).1
     obtain ⟨u, _, hu⟩ := f1 _ _ (zrq k4 hr h2)
     show zap w t v (if j < sz /\ i < rows.length then F (i * sz + j) else [])
     rw [if_pos ⟨hj, hi⟩]
     unfold zap at hu
     obtain ⟨rfl, hu⟩ := hu
     exact hu
    ·by_cases hp : p.2 < sz /\ p.1 < rows.length
     ·simp only [if_pos hp] at hb; rw [k8]; exact List.mem_cons_of_mem _ (f2 _ _ hb)
     ·simp only [if_neg hp] at hb; simp at hb
    ·by_cases hp : p.2 < sz /\ p.1 < rows.length
     ·simp only [if_pos hp]; exact m1 _
     ·simp only [if_neg hp]; simp
    ·by_cases hp : p.2 < sz /\ p.1 < rows.length
     ·by_cases hp' : p'.2 < sz /\ p'.1 < rows.length
      ·simp only [if_pos hp, if_pos hp'] at hb hb'
       refine m2 _ _ (fun heq => hne ?_) b hb hb'
       obtain ⟨i, j⟩ := p
       obtain ⟨i', j'⟩ := p'
       simp only at hp hp' heq
       have hii : i = i' := by
        rcases Nat.lt_trichotomy i i' with h | h | h
        ·have := Nat.mul_le_mul_right sz (show i + 1 <= i' by omega); rw [Nat.add_mul] at this; omega
        ·exact h
        ·have := Nat.mul_le_mul_right sz (show i' + 1 <= i by omega); rw [Nat.add_mul] at this; omega
       subst hii
       have : j = j' := by omega
       subst this; rfl
      ·simp only [if_neg hp'] at hb'; simp at hb'
     ·simp only [if_neg hp] at hb; simp at hb
  ·refine ⟨fun _ => [], fun dp sz rows gn he => ⟨fun hd => ?_, by simp, by simp, by simp⟩⟩
   subst hd
   exact absurd ⟨sz, rows, gn, he⟩ hon
 refine ⟨fun s => match s.2 with | none => g.φ s.1 | some p => Classical.choose (h1 s.1) p, ⟨fun e => rfl, fun e i j v t ho => ?_, fun e p b ho hb => ?_, fun e p ho => ?_, fun e p p' ho hne b hb => ?_⟩⟩
 ·obtain ⟨⟨dp, sz, rows, gn, on⟩, he, h2, h3, h4, h5⟩ := zam ho
  simp only at h2 h3
  subst h2 h3
  exact (Classical.choose_spec (h1 e) true sz rows gn he).1 rfl i j v t h4 h5
 ·cases p with
  | none => exact hb
  | some p =>
   obtain ⟨⟨dp, sz, rows, gn, on⟩, he, ho⟩ := ho
   simp only at ho
   subst ho
   exact (Classical.choose_spec (h1 e) dp sz rows gn he).2.1 p b hb
 ·cases p with
  | none => exact hR.nodup e ho
  | some p =>
   obtain ⟨⟨dp, sz, rows, gn, on⟩, he, ho⟩ := ho
   simp only at ho
   subst ho
   exact (Classical.choose_spec (h1 e) dp sz rows gn he).2.2.1 p
 ·obtain ⟨⟨dp, sz, rows, gn, on⟩, he, ho⟩ := ho
  simp only at ho
  subst ho
  exact (Classical.choose_spec (h1 e) dp sz rows gn he).2.2.2 p p' hne b hb
def bks (B : Sr -> List Nat) (u : List Sr) : List Nat := u.flatMap B
def okP (s s' : Sr) : Prop := s.1 ≠ s'.1 \/ (s.2 ≠ none /\ s'.2 ≠ none /\ s.2 ≠ s'.2)
theorem okP.symm {s s' : Sr} (h : okP s s') : okP s' s := h.imp (fun h => Ne.symm h) fun h => ⟨h.2.1, h.1, Ne.symm h.2.2⟩
theorem zl5 : ∀ {u : List Sr} {s : Sr}, okS u s = true -> ∀ x ∈ u, okP s x
 | [], _, _, x, hx => by simp at hx
 | (e, p) :: u, (e', p'), h, x, hx => by
  unfold okS at h
  rw [Bool.and_eq_true] at h
  rcases List.mem_cons.1 hx with rfl | hx
  ·have h1 := h.1
   by_cases he : e = e'
   ·rw [if_pos he] at h1
    right
    unfold okQ at h1
    split at h1
    ·rename_i a b
     refine ⟨by simp, by simp, fun e => ?_⟩
     simp only [Option.some.injEq] at e
     subst e
     simp at h1
    ·cases h1
   ·left; exact Ne.symm he
  ·exact zl5 h.2 x hx
theorem ziu {n0 : Nat -> Prop} {N : Nat} {σ : St} {g : Gh} {a : Act} {w : World} (hR : Rel n0 N σ g a w) {B : Sr -> List Nat} (hB : Fam w σ g B) : ∀ {s : List Sr}, (∀ x ∈ s, σ.On x.1) -> s.Pairwise okP -> (bks B s).Nodup
 | [], _, _ => List.nodup_nil
 | x :: s, ho, hp => by
  obtain ⟨p1, p2⟩ := List.pairwise_cons.1 hp
  unfold bks
  rw [List.flatMap_cons]
  refine List.nodup_append.2 ⟨hB.nodup x.1 x.2 (ho x (by simp)), ziu hR hB (fun y hy => ho y (by simp [hy])) p2, fun b hb b' hb' hbb => ?_⟩
  subst hbb
  obtain ⟨y, hy, hb'⟩ := List.mem_flatMap.1 hb'
  obtain ⟨e, p⟩ := x
  obtain ⟨e', p'⟩ := y
  have o1 := ho (e, p) (by simp)
  have o2 := ho (e', p') (by simp [hy])
  rcases p1 (e', p') hy with h | ⟨h1, h2, h3⟩
  ·exact hR.apart e e' o1 o2 h b (hB.sub e p b o1 hb) (hB.sub e' p' b o2 hb')
  ·by_cases hee : e = e'
   ·subst hee
    cases p with
    | none => exact h1 rfl
    | some p =>
     cases p' with
     | none => exact h2 rfl
     | some p' => exact hB.apart e p p' o1 (fun h => h3 (by rw [h])) b hb hb'
   ·exact hR.apart e e' o1 o2 hee b (hB.sub e p b o1 hb) (hB.sub e' p' b o2 hb')
theorem zwu {σ : St} {e i j : Nat} {v : Value} {t : T} (h : onN (σ.ev e) i j v t) : σ.On e := by
 obtain ⟨x, hx, h2, _⟩ := zam h
 exact ⟨x, hx, h2⟩
section
variable {n0 : Nat -> Prop} {N : Nat} {σ : St} {g : Gh} {a : Act} {w : World} (hR : Rel n0 N σ g a w) {B : Sr -> List Nat} (hB : Fam w σ g B)
include hR hB
theorem zcb {K : List Sr -> List (Nat × Nat × Nat) -> Prop} : ∀ {cs : List C} {ts : List T} {u : List Sr} {ps : List (Nat × Nat × Nat)} {vs : List Value}, gvK σ K u ps cs ts -> CRs σ g w cs vs →
  ∃ s ps' tp, K (s.reverse ++ u) ps' /\ zud w ts vs (bks B s) tp /\ (∀ x ∈ s, σ.On x.1) /\ (u.Pairwise okP -> (s.reverse ++ u).Pairwise okP)
 | [], [], u, ps, vs, h, hv => ⟨[], ps, [], h, ⟨hv, rfl, rfl⟩, by simp, fun h => h⟩
 | [], _ :: _, _, _, _, h, _ => by cases h
 | c :: cs, [], u, ps, vs, h, hv => by cases c <;> first | exact (show False from h).elim | (cases ps <;> exact (show False from h).elim)
 | c :: cs, t :: ts, u, ps, vs, h, hv => by
  obtain ⟨v, vs', rfl, h1, h2⟩ := hv
  unfold gvK at h
  split at h
  ·rename_i e1 e2; cases e1
  ·rename_i x cs' t' ts' e1 e2
   cases e1; cases e2
   unfold gvT at h
   split at h
   ·rename_i v0 y e i j ps0
    obtain ⟨rfl, hok, he, h⟩ := h
    obtain ⟨s, ps', tp, k1, k2, k3, k4⟩ := zcb h h2
    unfold CR zag at h1
    obtain ⟨rfl, _⟩ := h1
    have ho := hB.cell e i j v y he
    refine ⟨(e, some (i, j)) :: s, ps', zge y (B (e, some (i, j))) ++ tp, by simpa using k1, ⟨v, vs', _, bks B s, tp, rfl, by unfold bks; rw [List.flatMap_cons], rfl, ho, k2⟩, fun x hx => ?_, fun hu => ?_⟩
    ·rcases List.mem_cons.1 hx with rfl | hx
     ·exact zwu he
     ·exact k3 x hx
    ·have := k4 (List.pairwise_cons.2 ⟨zl5 hok, hu⟩)
     simpa using this
   obtain ⟨rfl, hf, h⟩ := h
   obtain ⟨s, ps', tp, k1, k2, k3, k4⟩ := zcb h h2
   have ho : zap w x v [] := by
    cases x <;> simp only [T.flat, Bool.false_eq_true] at hf <;> simp only [CR, zag] at h1 <;> unfold zap
    ·exact ⟨h1.1, h1.2.1, h1.2.2, rfl⟩
    ·exact ⟨h1, rfl⟩
    ·exact ⟨h1.1, h1.2, rfl⟩
    ·exact ⟨h1, rfl⟩
   exact ⟨s, ps', zge x [] ++ tp, k1, ⟨v, vs', [], _, tp, rfl, rfl, rfl, ho, k2⟩, k3, k4⟩
  ·rename_i z cs' sz rows ts' e1 e2
   cases e1; cases e2
   obtain ⟨rfl, h⟩ := h
   obtain ⟨s, ps', tp, k1, k2, k3, k4⟩ := zcb h h2
   have ho : zap w (.sl sz []) v [] := by
    unfold zap
    exact ⟨none, 0, h1, by simp, by simp, Or.inl ⟨rfl, rfl, rfl, rfl⟩⟩
   exact ⟨s, ps', zge (.sl sz []) [] ++ tp, k1, ⟨v, vs', [], _, tp, rfl, rfl, rfl, ho, k2⟩, k3, k4⟩
  ·rename_i e gn cs' sz rows ts' e1 e2
   cases e1; cases e2
   obtain ⟨hok, he, h⟩ := h
   obtain ⟨s, ps', tp, k1, k2, k3, k4⟩ := zcb h h2
   have hou := he
   obtain ⟨⟨dp, sz0, rows0, gn0, on0⟩, hev, rfl, rfl, hrows, rfl, rfl⟩ := zam hou
   have ho : zap w (.sl sz0 rows) (g.ψ e gn0) (g.φ e) := by
    rcases hrows with rfl | rfl
    ·exact zcn hR hev
    ·exact (zcn hR hev).unpins
   have h1 : v = g.ψ e gn0 /\ _ := h1
   rw [<- h1.1] at ho
   refine ⟨(e, none) :: s, ps', zge (.sl _ _) (g.φ e) ++ tp, by simpa using k1, ⟨v, vs', g.φ e, bks B s, tp, rfl, by unfold bks; rw [List.flatMap_cons, hB.whole], rfl, ho, k2⟩, fun x hx => ?_, fun hu => ?_⟩
   ·rcases List.mem_cons.1 hx with rfl | hx
    ·exact ⟨_, hev, rfl⟩
    ·exact k3 x hx
   ·have := k4 (List.pairwise_cons.2 ⟨zl5 hok, hu⟩)
    simpa using this
  ·rename_i e i j ps0 v0 cs' t' ts' e1 e2
   cases e1; cases e2
   obtain ⟨hok, he, h⟩ := h
   obtain ⟨s, ps', tp, k1, k2, k3, k4⟩ := zcb h h2
   have h1 : v = v0 := h1
   subst h1
   have ho := hB.cell e i j v t he
   refine ⟨(e, some (i, j)) :: s, ps', zge t (B (e, some (i, j))) ++ tp, by simpa using k1, ⟨v, vs', _, bks B s, tp, rfl, by unfold bks; rw [List.flatMap_cons], rfl, ho, k2⟩, fun x hx => ?_, fun hu => ?_⟩
   ·rcases List.mem_cons.1 hx with rfl | hx
    ·exact zwu he
    ·exact k3 x hx
   ·have := k4 (List.pairwise_cons.2 ⟨zl5 hok, hu⟩)
    simpa using this
  ·exact h.elim
omit hB in
theorem zq7 {FP : List Nat} (hFP : ∀ b ∈ FP, ∃ e, σ.On e /\ b ∈ g.φ e) {c : C} {t : T} {v : Value} (h : rdC c t) (hv : CR σ g w c v) : zag w (fun b => b < w.heap.size /\ b ∉ FP) t v := by
 unfold rdC at h
 split at h
 ·rename_i x
  obtain ⟨rfl, hn⟩ := h
  exact zla (σ := σ) (g := g) (x := .one (.t x)) (d := .one x) ⟨rfl, hn⟩ hv _
 ·rename_i f f'
  subst h
  exact zla (σ := σ) (g := g) (x := .one (.fn f [])) (d := .one (.fn f [])) rfl hv _
 ·subst h
  refine zag.keep (fun _ _ => rfl) (fun b hb => ⟨hb.1.2.2.1, fun hm => ?_⟩) _ v hv
  obtain ⟨e, ho, hm⟩ := hFP b hm
  exact hb.2 e ho hm
 ·obtain ⟨rfl, rfl⟩ := h
  obtain ⟨b, q, h1, h2, h3⟩ := hv
  have hk : ∀ b, zcr σ g w b -> b < w.heap.size /\ b ∉ FP := fun b hb => ⟨hb.1.2.2.1, fun hm => by obtain ⟨e, ho, hm⟩ := hFP b hm; exact hb.2 e ho hm⟩
  unfold zag
  exact ⟨b, q, h1, hk b h2, zar.keep (fun _ _ => rfl) hk b rfl q _ h3⟩
 ·subst h
  rw [show v = .slice none 0 0 from hv]
  unfold zag
  exact ⟨none, 0, rfl, by simp, by simp, Or.inl rfl⟩
 ·exact h.elim
omit hB in
theorem zlp {FP : List Nat} (hFP : ∀ b ∈ FP, ∃ e, σ.On e /\ b ∈ g.φ e) : ∀ {cs : List C} {ts : List T} {vs : List Value}, rdCs cs ts -> CRs σ g w cs vs -> zaa w (fun b => b < w.heap.size /\ b ∉ FP) ts vs
 | [], [], vs, _, hv => by unfold zaa; exact hv
 | [], _ :: _, _, h, _ => h.elim
 | _ :: _, [], _, h, _ => h.elim
 | c :: cs, t :: ts, vs, h, hv => by
  obtain ⟨v, vs', rfl, h1, h2⟩ := hv
  unfold zaa
  exact ⟨v, vs', rfl, zq7 hR hFP h.1 h1, zlp hFP h.2 h2⟩
theorem zd9 {K : List Sr -> Prop} : ∀ {xs : List V} {ds : List (Bool × D)} {u : List Sr} {ps : List (Nat × Nat × Nat)} {vs : List Value}, gvA σ K u ps xs ds -> VRl σ g w xs vs →
  ∃ s, K (s.reverse ++ u) /\ (∀ FP : List Nat, (∀ b ∈ FP, ∃ e, σ.On e /\ b ∈ g.φ e) -> ∃ tp, zbg w (fun b => b < w.heap.size /\ b ∉ FP) ds vs (bks B s) tp) /\ (∀ x ∈ s, σ.On x.1) /\ (u.Pairwise okP -> (s.reverse ++ u).Pairwise okP)
 | [], [], u, ps, vs, h, hv => ⟨[], h, fun _ _ => ⟨[], hv, rfl, rfl⟩, by simp, fun h => h⟩
 | [], _ :: _, _, _, _, h, _ => h.elim
 | x :: xs, [], _, _, _, h, _ => by cases x <;> exact h.elim
 | x :: xs, (false, d) :: ds, u, ps, vs, h, hv => by
  obtain ⟨v, vs', rfl, h1, h2⟩ := hv
  unfold gvA at h
  obtain ⟨hr, h⟩ := h
  obtain ⟨s, k1, k2, k3, k4⟩ := zd9 h h2
  refine ⟨s, k1, fun FP hFP => ?_, k3, k4⟩
  obtain ⟨tp, k2⟩ := k2 FP hFP
  refine ⟨tp, v, vs', rfl, ?_, k2⟩
  unfold rdV at hr
  split at hr
  ·exact zq7 hR hFP hr h1
  ·obtain ⟨b, e, h1⟩ := h1; exact ⟨b, e, zlp hR hFP hr h1⟩
  ·exact hr.elim
 | .one c :: xs, (true, .one t) :: ds, u, ps, vs, h, hv => by
  obtain ⟨v, vs', rfl, h1, h2⟩ := hv
  unfold gvA at h
  obtain ⟨s, ps', tp, k1, k2, k3, k4⟩ := zcb hR hB h (vs := [v]) ⟨v, [], rfl, h1, rfl⟩
  obtain ⟨s', j1, j2, j3, j4⟩ := zd9 k1 h2
  obtain ⟨v0, vs0, f1, f2, t2, e0, e1, rfl, q1, q2⟩ := k2
  cases e0
  obtain ⟨_, rfl, rfl⟩ := q2
  rw [List.append_nil] at e1
  refine ⟨s ++ s', by simpa using j1, fun FP hFP => ?_, fun x hx => ?_, fun hu => by simpa using j4 (k4 hu)⟩
  ·obtain ⟨tp', j2⟩ := j2 FP hFP
   exact ⟨zge t f1 ++ tp', v, vs', bks B s, bks B s', _, tp', rfl, by unfold bks; rw [List.flatMap_append], rfl, ⟨by rw [e1]; exact q1, by rw [e1]⟩, j2⟩
  ·rcases List.mem_append.1 hx with hx | hx
   ·exact k3 x hx
   ·exact j3 x hx
 | .agg cs :: xs, (true, .agg ts) :: ds, u, ps, vs, h, hv => by
  obtain ⟨v, vs', rfl, ⟨y, rfl, h1⟩, h2⟩ := hv
  unfold gvA at h
  obtain ⟨s, ps', tp, k1, k2, k3, k4⟩ := zcb hR hB h h1
  obtain ⟨s', j1, j2, j3, j4⟩ := zd9 k1 h2
  refine ⟨s ++ s', by simpa using j1, fun FP hFP => ?_, fun x hx => ?_, fun hu => by simpa using j4 (k4 hu)⟩
  ·obtain ⟨tp', j2⟩ := j2 FP hFP
   exact ⟨tp ++ tp', _, vs', bks B s, bks B s', tp, tp', rfl, by unfold bks; rw [List.flatMap_append], rfl, ⟨y, rfl, k2⟩, j2⟩
  ·rcases List.mem_append.1 hx with hx | hx
   ·exact k3 x hx
   ·exact j3 x hx
 | .one _ :: _, (true, .agg _) :: _, _, _, _, h, _ => h.elim
 | .agg _ :: _, (true, .one _) :: _, _, _, _, h, _ => h.elim
 | .tup _ :: _, (true, d) :: _, _, _, _, h, _ => by cases d <;> exact h.elim
end
end Go.Proofs.Yteeaofpphmhjdaa
namespace Go.Proofs.Yteeaofpphmhjdaa
set_option linter.unusedSimpArgs false
set_option linter.unusedVariables false
set_option linter.unusedSectionVars false
set_option maxRecDepth 4000
open Go.RowKit
variable {P : Program}
attribute [go_sem] gvT owU zdq zjo gvA gvK okS okQ rdV rdC rdCs
end Go.Proofs.Yteeaofpphmhjdaa
namespace Go.Proofs.Yteeaofpphmhjdaa
set_option linter.unusedSimpArgs false
set_option linter.unusedVariables false
set_option linter.unusedSectionVars false
set_option maxRecDepth 4000
open Go.RowKit
variable {P : Program}
def litRs : Option (Nat × List (List C)) -> List (List C)
 | some p => p.2
 | none => []
def blK (d : Nat) : Option (Ev × List (Nat × Ev)) -> List (Nat × Ev)
 | some (x, cons) => (d * 32, x) :: zne cons
 | none => []
def apKs : Option (Prop × Nat × Ev × List (Nat × Ev)) -> List Ky
 | some (_, e, _, cons) => (2, e) :: cons.map (fun p => (2, p.1))
 | none => []
section
variable {ks : List Fr} {Q : Exit -> St -> Prop} {σ : St} {ops : Array Oper} {os : List Oper} {L : List (List Ky × List Ky)} {d : Nat} {t : TypeId} {ty : TypeId} {ps : String} {af : Array Edge} {len : Nat} {parts : Array (Nat × Operand)} {s y : Operand}
theorem zdd (h : zal (blD P σ t len parts) fun r => σ.ev (d * 32) = none /\ (r.2.map (·.1)).Nodup)
  (k : exd P ops os (L ++ [(zak (parts.toList.map (·.2)) ++ (rK (litRs (zlh P (σ.get P) t len parts)) ++ [(2, d * 32)]), dK (some d) ++ eK (blK d (blD P σ t len parts)))]) ks Q ((σ.bl d (blD P σ t len parts)).put (some d) (.one (.ow (d * 32) 0)))) :
  exd P ops (⟨some d, .buildSlice t len parts, ty, ps, af, none⟩ :: os) L ks Q σ := by
 obtain ⟨⟨x, cons⟩, h1, h2, h3⟩ := zam h
 rw [h1] at k
 unfold blD at h1
 obtain ⟨p, e1, h1⟩ := Option.bind_eq_some_iff.1 h1
 obtain ⟨q, e2, h1⟩ := Option.map_eq_some_iff.1 h1
 simp only [Prod.mk.injEq] at h1
 obtain ⟨rfl, rfl⟩ := h1
 rw [e1] at k
 exact zxm ⟨e1, e2, h2, h3⟩ k
theorem zw3 (dp2 : Bool) (h : zal (apV P σ d t s y dp2) fun r => r.1) (k : exd P ops os (L ++ [(zak [s, y] ++ apKs (apV P σ d t s y dp2), dK (some d) ++ apKs (apV P σ d t s y dp2))]) ks Q (σ.apV d (apV P σ d t s y dp2))) :
  exd P ops (⟨some d, .call ⟨.builtin .append, #[s, y], #[t, t]⟩, ty, ps, af, none⟩ :: os) L ks Q σ := by
 obtain ⟨⟨p, e, x, cons⟩, h1, h2⟩ := zam h
 rw [h1] at k
 unfold Go.Proofs.Yteeaofpphmhjdaa.apV at h1
 split at h1
 ·rename_i e0 gn e2 gn2 hs hy
  obtain ⟨x0, k1, h3⟩ := Option.bind_eq_some_iff.1 h1
  obtain ⟨z, k2, h4⟩ := Option.bind_eq_some_iff.1 h3
  clear h1 h3
  by_cases hc : x0.gen = gn /\ x0.on = true /\ z.gen = gn2 /\ z.on = true /\ z.sz = x0.sz /\ e2 ≠ e0
  ·rw [if_pos hc] at h4
   obtain ⟨rfl, c2, rfl, c4, c5, c6⟩ := hc
   simp only [Option.some.injEq, Prod.mk.injEq] at h4
   obtain ⟨rfl, rfl, rfl, rfl⟩ := h4
   obtain ⟨dp, sz, rows, gn, on⟩ := x0
   obtain ⟨dp2, sz2, rows2, gn2, on2⟩ := z
   simp only at c2 c4 c5
   subst c2 c4 c5
   exact dApOO ⟨hs, zvi hy, k1, k2, c6, rfl⟩ h2.1 h2.2 k
  ·rw [if_neg hc] at h4; cases h4
 ·rename_i e0 gn sz rows2 hs hy
  obtain ⟨x0, k1, h4⟩ := Option.bind_eq_some_iff.1 h1
  clear h1
  by_cases hc : x0.gen = gn /\ x0.on = true /\ sz = x0.sz
  ·rw [if_pos hc] at h4
   obtain ⟨rfl, c2, rfl⟩ := hc
   simp only [Option.some.injEq, Prod.mk.injEq] at h4
   obtain ⟨rfl, rfl, rfl, rfl⟩ := h4
   obtain ⟨dp, sz, rows, gn, on⟩ := x0
   simp only at c2
   subst c2
   exact dApOT dp2 ⟨hs, hy, k1⟩ (fun hd => zfq (h2.2.2 hd)) h2.1 h2.2.1 k
  ·rw [if_neg hc] at h4; cases h4
 ·rename_i z0 e2 gn2 hs hy
  obtain ⟨z, k2, h4⟩ := Option.bind_eq_some_iff.1 h1
  clear h1
  by_cases hc : z.gen = gn2 /\ z.on = true /\ e2 ≠ d * 32
  ·rw [if_pos hc] at h4
   obtain ⟨rfl, c2, c3⟩ := hc
   simp only [Option.some.injEq, Prod.mk.injEq] at h4
   obtain ⟨rfl, rfl, rfl, rfl⟩ := h4
   obtain ⟨dp2, sz2, rows2, gn2, on2⟩ := z
   simp only at c2
   subst c2
   exact dApNO ⟨hs, zvi hy, h2.2.2, k2, c3⟩ h2.1 h2.2.1 k
  ·rw [if_neg hc] at h4; cases h4
 ·rename_i z0 sz rows2 hs hy
  simp only [Option.some.injEq, Prod.mk.injEq] at h1
  obtain ⟨rfl, rfl, rfl, rfl⟩ := h1
  exact dApNT dp2 ⟨hs, hy, h2.2.2.2⟩ (fun hd => zfq (h2.2.2.1 hd)) h2.1 h2.2.1 k
 ·cases h1
end
attribute [go_sem] litRs blK apKs
end Go.Proofs.Yteeaofpphmhjdaa
namespace Go.Proofs.Yteeaofpphmhjdaa
set_option linter.unusedSimpArgs false
set_option linter.unusedVariables false
set_option linter.unusedSectionVars false
set_option maxRecDepth 4000
open Go.RowKit
variable {P : Program}
def PX (P : Program) (rs : List ResultVar) (res : List D) (σ : St) : Prop := ∃ pl, zal (zbe P σ rs) fun vs => gvA σ (fun _ => True) [] pl vs (res.map fun d => (true, d))
def PS (P : Program) (rs : List ResultVar) (res : List D) (e : Exit) (σ : St) : Prop := match e with
 | .normal => PF P rs res .normal σ \/ PX P rs res σ
 | .ret => PF P rs res .ret σ \/ PX P rs res σ
 | _ => False
theorem zew {w : World} {A : Nat -> Prop} : ∀ {res : List D} {vs : List Value} {fp tp : List Nat}, zbg w A (res.map fun d => (true, d)) vs fp tp -> GDs w res vs fp tp
 | [], _, _, _, h => h
 | d :: ds, _, _, _, h => by
  obtain ⟨v, vs', f1, f2, t1, t2, rfl, rfl, rfl, h1, h2⟩ := h
  exact ⟨v, vs', f1, f2, t1, t2, rfl, rfl, rfl, h1, zew h2⟩
theorem zpz {n0 : Nat -> Prop} {N : Nat} {σ : St} {g : Gh} {a : Act} {w : World} (hR : Rel n0 N σ g a w) {vs : List V} {res : List D} {pl : List (Nat × Nat × Nat)} (h : gvA σ (fun _ => True) [] pl vs (res.map fun d => (true, d))) {us : List Value} (hv : VRl σ g w vs us) :
  ∃ fp tp, GDs w res us fp tp /\ fp.Nodup /\ ∀ b ∈ fp, ∃ e, σ.On e /\ b ∈ g.φ e := by
 obtain ⟨B, hB⟩ := hR.fam
 obtain ⟨s, k1, k2, k3, k4⟩ := zd9 hR hB h hv
 rw [List.append_nil] at k4
 have hsp : s.Pairwise okP := (List.pairwise_reverse.1 (k4 List.Pairwise.nil)).imp fun h => h.symm
 obtain ⟨tp, k2⟩ := k2 [] (by simp)
 refine ⟨_, tp, zew k2, ziu hR hB k3 hsp, fun b hb => ?_⟩
 obtain ⟨x, hx, hm⟩ := List.mem_flatMap.1 hb
 exact ⟨x.1, k3 x hx, hB.sub x.1 x.2 b (k3 x hx) hm⟩
theorem GC_ofW {f : FuncId} {fn : Func} {c : Code} {args : List (Bool × D)} {res : List D} (hc : za0 P f) (hf : P.funcs[f]? = some fn) (hb : fn.body = some c) (hd : za3 fn.ntmps c = true) (hN : args.length <= fn.ntmps) (hs : zc7 args)
  (h : ∀ (w : World) (vs : List Value) (fp tp : List Nat), zbg w (fun b => b < w.heap.size /\ b ∉ fp) args vs fp tp -> ∀ (g : Gh) (a : Act), Rel (fun b => b < w.heap.size /\ b ∉ fp) fn.ntmps (zdm args) g a w -> (a.tmps = (⟨vs⟩ : Array Value) ++ Array.replicate (fn.ntmps - vs.length) undef /\ (g.A0, g.R0) = ((fun _ => True), RP.of fun b => b ∈ fp \/ w.heap.size <= b)) →
   ∃ σ0, ex P c [] (PS P fn.results.toList res) σ0 /\ Rel (fun b => b < w.heap.size /\ b ∉ fp) fn.ntmps σ0 g a w) : GC P f args res := by
 refine ⟨hc, fun w vs fp tp hv hn => ?_⟩
 refine calls_of_wp hf hb ?_
 have hv' : zbg w (fun b => b < w.heap.size /\ True /\ b ∉ fp) args vs fp tp := zbg.keepA (fun b hb => ⟨hb.1, trivial, hb.2⟩) hv
 obtain ⟨g, hg, hR⟩ := Rel.start (A0 := fun _ => True) (R0 := RP.of fun b => b ∈ fp \/ w.heap.size <= b) (N := fn.ntmps) hv' hn hs hN (fun _ _ => trivial) (fun b hb => ⟨trivial, Or.inl hb⟩) (fun b hb => ⟨trivial, by
  by_cases hlt : b < w.heap.size
  ·exact Or.inl (Classical.byContradiction fun h => hb ⟨hlt, h⟩)
  ·exact Or.inr (by omega)⟩)
 obtain ⟨σ0, hex, hR0⟩ := h w vs fp tp hv g _ hR ⟨rfl, hg⟩
 refine wp_mono (za2 (w0 := w) c σ0 _ hd hex g _ w hR0 (fun k hk => hk.1) (Bk.refl _ _) hg) fun e a' w' hq => ?_
 obtain ⟨σ', g', h1, h2, h3, h4, h5⟩ := hq
 have fin : ∀ {us : List Value} {v : Value}, (results fn a'.tmps).run P w' = .ok v w' -> v = zbl us -> (∃ fp' tp', GDs w' res us fp' tp' /\ fp'.Nodup /\ ∀ b ∈ fp', ∃ e, σ'.On e /\ b ∈ g'.φ e) -> ∃ v, (results fn a'.tmps).run P w' = .ok v w' /\ ∃ us fp' tp', Ending.returned v = .returned (zbl us) /\ GDs w' res us fp' tp' /\ fp'.Nodup /\ (∀ b ∈ fp', b ∈ fp \/ w.heap.size <= b) /\ Bk (fun k => k < w.heap.size /\ k ∉ fp) w w' := fun {us v} r1 rv ⟨fp', tp', o1, o2, o3⟩ => by
  refine ⟨_, r1, us, fp', tp', by rw [rv], o1, o2, fun b hb => ?_, h4⟩
  obtain ⟨e, l, m⟩ := o3 b hb
  have := (h2.ebase e l b m).2
  rw [(Prod.mk.inj h5).2] at this
  exact this
 have key : (zal (zbe P σ' fn.results.toList) (fun vs => zlx σ' [] vs res) \/ PX P fn.results.toList res σ') -> ∃ v, (results fn a'.tmps).run P w' = .ok v w' /\ ∃ us fp' tp', Ending.returned v = .returned (zbl us) /\ GDs w' res us fp' tp' /\ fp'.Nodup /\ (∀ b ∈ fp', b ∈ fp \/ w.heap.size <= b) /\ Bk (fun k => k < w.heap.size /\ k ∉ fp) w w' := fun hk => by
  rcases hk with hk | ⟨pl, hk⟩
  ·obtain ⟨vs, hvs, hk⟩ := zam hk
   obtain ⟨us, r1, r2⟩ := zbc h2 fn hvs
   obtain ⟨used, fp', tp', o1, o2⟩ := zbz h2 hk r2
   exact fin r1 rfl ⟨fp', tp', o1, o2.1, fun b hb => by obtain ⟨e, _, _, l, m⟩ := o2.2.1 b hb; exact ⟨e, l, m⟩⟩
  ·obtain ⟨vs, hvs, hk⟩ := zam hk
   obtain ⟨us, r1, r2⟩ := zbc h2 fn hvs
   exact fin r1 rfl (zpz h2 hk r2)
 cases e with
 | normal => exact ⟨h2.defers, key h1⟩
 | ret => exact ⟨h2.defers, key h1⟩
 | exit _ => exact h1.elim
 | goto _ => exact h1.elim
 | panic _ => exact h1.elim
 | outgrown => exact h1.elim
theorem zt6 (p : Prop) : (True \/ p) = True := by simp
theorem zq2 {α : Type} (x : α) (xs : List α) (d : α) : (x :: xs).getD 0 d = x := rfl
theorem zv0 {α : Type} (x y : α) (xs : List α) (d : α) : (x :: y :: xs).getD 1 d = y := rfl
attribute [go_sem] zq2 zv0
attribute [go_sem] Bool.false_and Bool.and_false Bool.and_self
attribute [go_sem] PS zt6
section
variable (A B : List (List T)) (r : List T)
theorem ztp {k : Nat} (h : A.length = k) : (A ++ r :: B).getD k [] = r := by subst h; simp
theorem zyy {k : Nat} (h : A.length = k) : (A ++ r :: B)[k]? = some r := by subst h; simp
theorem zqe {k : Nat} (h : A.length = k) (o : Nat) (ts : List T) : zb8 (A ++ r :: B) k o ts = A ++ setR r o ts :: B := by subst h; simp [zb8]
theorem zlc {k : Nat} (h : A.length = k) (j : Nat) (t : T) : zhb (A ++ r :: B) k j t = A ++ r.set j t :: B := by subst h; simp [zhb]
end
theorem znf (vs : Nat -> Nat -> Value) (i : Nat) (r : List T) (rs : List (List T)) : zdn vs i (r :: rs) = zs9 (vs i) 0 r :: zdn vs (i + 1) rs := rfl
theorem zo5 (us : Nat -> Value) (j : Nat) (c : T) (cs : List T) : zs9 us j (c :: cs) = pinC (us j) c :: zs9 us (j + 1) cs := rfl
theorem zt1 (us : Nat -> Value) (j : Nat) : zs9 us j [] = [] := rfl
theorem zyw (v : Value) (sz : Nat) (rows : List (List T)) : pinC v (.sl sz rows) = .pin v (.sl sz rows) := rfl
theorem ztf (v : Value) (k : IntKind) (n : Int) : pinC v (.int k n) = .int k n := rfl
theorem zqy (vs : Nat -> Nat -> Value) (i : Nat) : zdn vs i [] = [] := rfl
theorem zkw (n m : Nat) : (n < n + (m + 1)) = True := by simp
attribute [go_sem] PI zkw zqy znf zo5 zt1 zyw ztf zd3 List.length_append zyy ztp zqe zlc
theorem zxa (n : Nat) : ((n : Int) < 0) = False := by simp
attribute [go_sem] zxa List.set_cons_succ List.set_cons_zero
end Go.Proofs.Yteeaofpphmhjdaa
namespace Go.Proofs.Yteeaofpphmhjdaa
set_option linter.unusedSimpArgs false
set_option linter.unusedVariables false
set_option linter.unusedSectionVars false
set_option maxRecDepth 4000
open Go.RowKit
variable {P : Program}
def D.toN : D -> V
 | .one t => .one t.toN
 | .agg ts => .agg (ts.map T.toN)
def ze3 : Nat -> List D -> Nat -> V
 | _, [] => fun _ => .one .any
 | k, d :: ds => upd (ze3 (k + 1) ds) k d.toN
def zed (args : List D) : St := ⟨ze3 0 args, fun _ => none, fun _ => none⟩
theorem ziv : ∀ (ds : List D) (k i : Nat), ze3 k ds (k + i) = match ds[i]? with | some d => d.toN | none => .one .any
 | [], k, i => by simp [ze3]
 | d :: ds, k, 0 => by simp [ze3, upd]
 | d :: ds, k, i + 1 => by
  unfold ze3
  rw [zai _ _ (by omega), show k + (i + 1) = k + 1 + i by omega, ziv ds (k + 1) i]
  simp
theorem zpx {σ : St} {g : Gh} {w : World} {A : Nat -> Prop} (hA : ∀ b, A b -> zcr σ g w b) {x : T} {v : Value} (h : zag w A x v) : CR σ g w x.toN v := by
 cases x <;> first | exact zag.keep (fun _ _ => rfl) (fun b hb => (hA b hb).1) _ v h | exact zag.keep (fun _ _ => rfl) hA _ v h
theorem zkk {σ : St} {g : Gh} {w : World} {A : Nat -> Prop} (hA : ∀ b, A b -> zcr σ g w b) : ∀ {ts : List T} {vs : List Value}, zaa w A ts vs -> CRs σ g w (ts.map T.toN) vs
 | [], vs, h => by unfold zaa at h; exact h
 | t :: ts, vs, h => by
  unfold zaa at h
  obtain ⟨v, vs', rfl, h1, h2⟩ := h
  exact ⟨v, vs', rfl, zpx hA h1, zkk hA h2⟩
theorem toN_vr {σ : St} {g : Gh} {w : World} {A : Nat -> Prop} (hA : ∀ b, A b -> zcr σ g w b) {d : D} {v : Value} (h : ztc w A d v) : VR σ g w d.toN v := by
 cases d with
 | one t => exact zpx hA h
 | agg ts => obtain ⟨a, h0, h1⟩ := h; exact ⟨a, h0, zkk hA h1⟩
theorem za4.at {w : World} {A : Nat -> Prop} : ∀ {ds : List D} {vs : List Value}, za4 w A ds vs -> ∀ (i : Nat) d, ds[i]? = some d -> ∃ v, vs[i]? = some v /\ ztc w A d v
 | [], _, _, i, d, h => by simp at h
 | d0 :: ds, vs, h, 0, d, hi => by
  obtain ⟨v, vs', rfl, h1, h2⟩ := h
  simp only [List.getElem?_cons_zero, Option.some.injEq] at hi
  subst hi; exact ⟨v, rfl, h1⟩
 | d0 :: ds, vs, h, i + 1, d, hi => by
  obtain ⟨v, vs', rfl, h1, h2⟩ := h
  simpa using za4.at h2 i d (by simpa using hi)
theorem zbq {w : World} {A : Nat -> Prop} : ∀ {ds : List D} {vs : List Value} {fp tp : List Nat}, zbg w A (rd ds) vs fp tp -> za4 w A ds vs /\ fp = [] /\ tp = []
 | [], _, _, _, h => ⟨h.1, h.2.1, h.2.2⟩
 | d :: ds, _, _, _, h => by
  obtain ⟨v, vs', rfl, h1, h2⟩ := h
  obtain ⟨k1, k2, k3⟩ := zbq h2
  exact ⟨⟨v, vs', rfl, h1, k1⟩, k2, k3⟩
theorem zfz {args : List D} {w : World} {vs : List Value} {N : Nat} {g : Gh} {a : Act} (hr : za4 w (fun b => b < w.heap.size /\ b ∉ ([] : List Nat)) args vs) (hR : Rel (fun b => b < w.heap.size /\ b ∉ ([] : List Nat)) N (zdm (rd args)) g a w)
  (hg : a.tmps = (⟨vs⟩ : Array Value) ++ Array.replicate (N - vs.length) undef /\ (g.A0, g.R0) = ((fun _ => True), RP.of fun b => b ∈ ([] : List Nat) \/ w.heap.size <= b)) : Rel (fun b => b < w.heap.size /\ b ∉ ([] : List Nat)) N (zed args) g a w := by
 have hbx : ∀ (ds : List D) (k : Nat), ze9 k (rd ds) = fun _ => none := fun ds => by
  induction ds with
  | nil => intro k; rfl
  | cons d ds ih => intro k; exact ih (k + 1)
 have hG : ∀ b, (b < w.heap.size /\ b ∉ ([] : List Nat)) -> zcr (zed args) g w b := fun b hb => by
  refine ⟨⟨fun k hk => absurd rfl hk, fun e x he _ => (by cases he), hb.1, by rw [(Prod.mk.inj hg.2).1]; trivial⟩, ?_⟩
  rintro e ⟨x, hx, _⟩
  cases hx
 refine hR.slots_of (σ' := zed args) rfl ?_ hR.defers hR.size fun i => ?_
 ·show (fun _ => none) = ze9 0 (rd args)
  rw [hbx]
 ·have hm : Mv (zed args) (zed args) g g w w := Mv.of_eq g w rfl rfl
  show VR (zdm (rd args)) g w (ze3 0 args i) _
  have hi := ziv args 0 i
  rw [Nat.zero_add] at hi
  rw [hi]
  cases hd : args[i]? with
  | none => trivial
  | some d =>
   obtain ⟨v, hv1, hv2⟩ := za4.at hr i d hd
   have hlt : i < vs.length := (List.getElem?_eq_some_iff.1 hv1).1
   have e : a.tmps.getD i (g.R0.ξ i) = v := by
    rw [hg.1]
    rw [Array.getD_eq_getD_getElem?, Array.getElem?_append_left (by simpa using hlt)]
    simp [hv1]
   rw [e]
   have hx := toN_vr hG hv2
   exact (Mv.of_eq (σ := zed args) (σ' := zdm (rd args)) g w rfl (by show ze9 0 (rd args) = fun _ => none; rw [hbx])).vr hx
theorem FC_ofN {f : FuncId} {fn : Func} {c : Code} {args res : List D} (hc : za0 P f) (hf : P.funcs[f]? = some fn) (hb : fn.body = some c) (hd : za3 fn.ntmps c = true) (hN : (rd args).length <= fn.ntmps)
  (h : ex P c [] (PS P fn.results.toList res) (zed args)) : FC P f args res := by
 refine GC_ofW hc hf hb hd hN (zb1 args) fun w vs fp tp hv g a hR hg => ?_
 obtain ⟨hr, rfl, rfl⟩ := zbq hv
 exact ⟨zed args, h, zfz hr hR hg⟩
attribute [go_sem] zed ze3 D.toN T.toN
end Go.Proofs.Yteeaofpphmhjdaa
namespace Go.Proofs.Yteeaofpphmhjdaa
set_option linter.unusedSimpArgs false
set_option linter.unusedVariables false
set_option linter.unusedSectionVars false
set_option maxRecDepth 4000
open Go.RowKit
variable {P : Program}
abbrev FR (r : Option Nat) : Fence := { Fence.wide with round := r }
theorem zdc {r : Option Nat} {n : Nat} {f : FuncId} {args : Array Value} {w : World} {R : Ending -> World -> Prop} : CallsIn (FR r) n P f args w R ↔ Calls P f args w R :=
 (callsIn_wide (n := n) : CallsIn Fence.wide n P f args w R ↔ _)
def Oper.nodef (o : Oper) : Bool := match o.op with | .defer _ => false | _ => true
theorem zvk {o : Oper} (h : Oper.nodef o = true) : ∀ c, o.op ≠ .defer c := fun c hc => by simp [Oper.nodef, hc] at h
theorem zby (a : Act) (d : Option Nat) (v : Value) (ds : List Deferred) : ({ a with defers := ds } : Act).put d v = { a.put d v with defers := ds } := by cases d <;> rfl
theorem zks (a : Act) (d : Option Nat) (v : Value) : (a.put d v).defers = a.defers := by cases d <;> rfl
theorem zwx {r : Option Nat} {n : Nat} {o : Oper} {a : Act} {w : World} {K : Act -> World -> Prop} {ds : List Deferred} {K' : Act -> World -> Prop} {Q : Exit -> Act -> World -> Prop} (hnd : Oper.nodef o = true) (hK : ∀ a w, K a w -> a.defers = []) (h : o.wp P a w K (fun _ _ _ => False))
  (hK' : ∀ v w', K (a.put o.dst v) w' -> K' { a.put o.dst v with defers := ds } w') : o.wpIn (FR r) n P { a with defers := ds } w K' Q := by
 unfold Oper.wp at h
 refine ⟨fun _ _ => trivial, ?_⟩
 rw [Oper.semAt_eq _ _ _ (zvk hnd)]
 show o.uponIn (FR r) n P { a with defers := ds } K' Q ((execOp a.eval o).run P w)
 generalize (execOp a.eval o).run P w = x at h
 cases x with
 | ok nx w' =>
  cases nx with
  | value v => show K' _ _; rw [zby]; exact hK' v w' h
  | skip => show K' _ _; rw [zby]; exact hK' _ w' h
  | defer d => exact absurd (hK _ _ h) (by rw [zks]; simp)
  | enter f args =>
   refine ⟨(by intro h; cases h), zdc.2 (Calls.mono h fun e w'' he => ?_)⟩
   cases e with
   | returned v => show K' _ _; rw [zby]; exact hK' v w'' he
   | panicked c => exact he.elim
   | outgrown => obtain ⟨_, _, hx⟩ := he; exact hx.elim
  | row row args =>
   refine ⟨(by intro h; cases h), fun c cs _ => ?_⟩
   obtain ⟨v, w'', h1, h2⟩ := h c cs
   refine ⟨v, w'', ?_, stepsIn_wide.2 h2⟩
   show K' _ _; rw [zby]; exact hK' v w'' h1
  | _ => exact (show False from h).elim
 | halt x w' => cases x <;> exact (show False from h).elim
def Ag (D : Nat -> Prop) (a a' : Act) : Prop := ∀ i, ¬ D i -> a'.tmps.getD i undef = a.tmps.getD i undef
theorem Ag.refl (D : Nat -> Prop) (a : Act) : Ag D a a := fun _ _ => rfl
theorem Ag.put {D : Nat -> Prop} {a0 a : Act} (h : Ag D a0 a) {d : Option Nat} (hd : ∀ i, d = some i -> D i) (v : Value) : Ag D a0 (a.put d v) := fun i hi => by
 cases d with
 | none => exact h i hi
 | some j =>
  have hij : i ≠ j := fun e => hi (e ▸ hd j rfl)
  rw [show (a.put (some j) v).tmps = a.tmps.setIfInBounds j v from rfl, zeu a hij]
  exact h i hi
def zn7 (n0 : Nat -> Prop) (N : Nat) (w0 : World) (A0 : (Nat -> Prop) × RP) (ds : List Deferred) (D : Nat -> Prop) (a0 : Act) (Q : Exit -> St -> Prop) (e : Exit) (a : Act) (w : World) : Prop := ∃ a1, a = { a1 with defers := ds } /\ Ag D a0 a1 /\ zv8 n0 N w0 A0 Q e a1 w
theorem zgi {ops : Array Oper} {K : St -> Prop} {n0 : Nat -> Prop} {N : Nat} {w0 : World} {A0 : (Nat -> Prop) × RP} {r : Option Nat} {n : Nat} {ds : List Deferred} {D : Nat -> Prop} {a0 : Act} {R : Exit -> Act -> World -> Prop}
  (hR : ∀ a w σ g, K σ -> Rel n0 N σ g a w -> LtK n0 w -> Bk n0 w0 w -> (g.A0, g.R0) = A0 -> Ag D a0 a -> R .normal { a with defers := ds } w) :
  ∀ (k i : Nat), i + k = ops.size -> (∀ o ∈ ops.toList, Oper.nodef o = true /\ ∀ d, o.dst = some d -> d < N /\ D d) -> ∀ (σ : St) (g : Gh) (a : Act) (w : World), za8 P ops (ops.toList.drop i) σ K -> Rel n0 N σ g a w -> LtK n0 w -> Bk n0 w0 w -> (g.A0, g.R0) = A0 -> Ag D a0 a -> wpOpsIn (FR r) n P ops R (List.range' i k) { a with defers := ds } w
 | 0, i, hi, hd, σ, g, a, w, h, hr, hn, hb, hA, hg => by
  have : ops.toList.drop i = [] := List.drop_of_length_le (by simp; omega)
  rw [this] at h
  exact hR a w σ g h hr hn hb hA hg
 | k + 1, i, hi, hd, σ, g, a, w, h, hr, hn, hb, hA, hg => by
  have hlt : i < ops.size := by omega
  have hcons : ops.toList.drop i = ops[i] :: ops.toList.drop (i + 1) := by
   rw [List.drop_eq_getElem_cons (by simpa using hlt)]; rfl
  rw [hcons] at h
  rw [show List.range' i (k + 1) = i :: List.range' (i + 1) k from rfl]
  have ho : ops[i]? = some ops[i] := by simp [hlt]
  obtain ⟨hnd, hdi⟩ := hd ops[i] (by simp)
  have next : ∀ σ' a' w', (∃ g', Rel n0 N σ' g' a' w' /\ Bk n0 w w' /\ g'.A0 = g.A0 /\ g'.R0 = g.R0) -> Ag D a0 a' -> za8 P ops (ops.toList.drop (i + 1)) σ' K -> wpOpsIn (FR r) n P ops R (List.range' (i + 1) k) { a' with defers := ds } w' := by
   rintro σ' a' w' ⟨g', k1, k2, k3, k4⟩ hg' hK
   exact zgi hR k (i + 1) (by omega) hd σ' g' a' w' hK k1 (hn.mono k2.size) (hb.trans k2) (by rw [k3, k4]; exact hA) hg'
  have run : ∀ σ0, σ0 = σ -> zbv P ops[i] σ0 (fun σ' => za8 P ops (ops.toList.drop (i + 1)) σ' K) -> ops[i].wpIn (FR r) n P { a with defers := ds } w (wpOpsIn (FR r) n P ops R (List.range' (i + 1) k)) R := fun σ0 e0 h1 => by
   subst e0
   exact zwx hnd (fun a' w' ⟨σ', g', h0, hh⟩ => hh.1.defers) (zcv h1 n0 N g a w hr hn fun d hd => (hdi d hd).1) fun v w' ⟨σ', g', h0, hh⟩ => next σ' _ w' ⟨g', hh⟩ (hg.put (fun d hd => (hdi d hd).2) v) h0
  simp only [wpOpsIn, ho]
  unfold za8 exG at h
  split at h
  ·rename_i hg0
   have : Region.wanted ops[i] (yielded ops a.tmps) = true := by simp [Region.wanted, hg0]
   rw [if_pos this]
   exact run σ rfl h
  ·rename_i j want hg0
   split at h
   ·rename_i d hdj
    split at h
    ·rename_i c hc
     have hv := hr.slots d
     rw [hc] at hv
     simp only [VR, CR, zag] at hv
     have hy : yielded ops a.tmps j = some c := by
      unfold yielded
      rw [hdj]
      simp only [Option.bind_some]
      cases ht : a.tmps[d]? with
      | none => rw [Array.getD_eq_getD_getElem?, ht] at hv; exact absurd hv (g.R0.nb _ _)
      | some u => rw [Array.getD_eq_getD_getElem?, ht] at hv; simp only [Option.getD_some] at hv; subst hv; rfl
     have hw : Region.wanted ops[i] (yielded ops a.tmps) = (c == want) := by
      unfold Region.wanted
      rw [hg0]
      simp only [hy]
      cases c <;> cases want <;> rfl
     rw [hw]
     by_cases hcw : c = want
     ·subst hcw
      simp only [beq_self_eq_true, if_true]
      exact run _ (zdi hc) (h.1 rfl)
     ·have hne : (c == want) = false := by simpa using hcw
      rw [hne]
      simp only [Bool.false_eq_true, if_false]
      have hnot : c = !want := by cases c <;> cases want <;> simp_all
      have hh := h.2 hnot
      rw [<- hnot, zdi hc] at hh
      refine ⟨fun _ _ => trivial, ?_⟩
      rw [zby]
      exact next _ _ _ ⟨g, hr.put _ (x := .tup []) ⟨[], rfl, rfl⟩ fun d hd => (hdi d hd).1, Bk.refl _ _, rfl, rfl⟩ (hg.put (fun d hd => (hdi d hd).2) _) hh
    ·rename_i xs hc
     have hv := hr.slots d
     rw [hc] at hv
     obtain ⟨vs, hv, _⟩ := hv
     have hy : yielded ops a.tmps j = none := by
      unfold yielded
      rw [hdj]
      simp only [Option.bind_some]
      cases ht : a.tmps[d]? with
      | none => rfl
      | some u => rw [Array.getD_eq_getD_getElem?, ht] at hv; simp only [Option.getD_some] at hv; subst hv; rfl
     have hw : Region.wanted ops[i] (yielded ops a.tmps) = false := by
      unfold Region.wanted
      rw [hg0]
      simp only [hy]
      rfl
     rw [hw]
     simp only [Bool.false_eq_true, if_false]
     refine ⟨fun _ _ => trivial, ?_⟩
     rw [zby]
     exact next _ _ _ ⟨g, hr.put _ (x := .tup []) ⟨[], rfl, rfl⟩ fun d hd => (hdi d hd).1, Bk.refl _ _, rfl, rfl⟩ (hg.put (fun d hd => (hdi d hd).2) _) h
    ·exact h.elim
   ·exact h.elim
def zbs : Code -> Bool
 | .region _ ops false => ops.all Oper.nodef
 | .seq a b => zbs a && zbs b
 | .cond _ a b => zbs a && zbs b
 | .block _ b => zbs b
 | .skip => true
 | .ret => true
 | .exit _ => true
 | _ => false
def zbp : Code -> List Nat
 | .region _ ops _ => ops.toList.filterMap (·.dst)
 | .seq a b => zbp a ++ zbp b
 | .cond _ a b => zbp a ++ zbp b
 | .block _ b => zbp b
 | .loop b => zbp b
 | _ => []
theorem zbh {n0 : Nat -> Prop} {N : Nat} {w0 : World} {A0 : (Nat -> Prop) × RP} {r : Option Nat} {n : Nat} {ds : List Deferred} {D : Nat -> Prop} {a0 : Act} : ∀ (c : Code) (σ : St) (Q : Exit -> St -> Prop), zbs c = true -> za3 N c = true -> (∀ d ∈ zbp c, D d) -> zds P c σ Q →
  ∀ (g : Gh) (a : Act) (w : World), Rel n0 N σ g a w -> LtK n0 w -> Bk n0 w0 w -> (g.A0, g.R0) = A0 -> Ag D a0 a -> c.wpIn (FR r) n P (zn7 n0 N w0 A0 ds D a0 Q) { a with defers := ds } w
 | .skip, σ, Q, _, _, _, h, g, a, w, hr, hn, hb, hA, hg => wpIn_skip ⟨a, rfl, hg, σ, g, h, hr, hn, hb, hA⟩
 | .ret, σ, Q, _, _, _, h, g, a, w, hr, hn, hb, hA, hg => wpIn_ret ⟨a, rfl, hg, σ, g, h, hr, hn, hb, hA⟩
 | .exit id, σ, Q, _, _, _, h, g, a, w, hr, hn, hb, hA, hg => wpIn_exit ⟨a, rfl, hg, σ, g, h, hr, hn, hb, hA⟩
 | .seq x y, σ, Q, hp, hd, hD, h, g, a, w, hr, hn, hb, hA, hg => by
  simp only [za3, zbs, Bool.and_eq_true] at hd hp
  simp only [zbp, List.mem_append] at hD
  refine wpIn_seq (wpIn_mono (zbh x σ _ hp.1 hd.1 (fun d h => hD d (Or.inl h)) h g a w hr hn hb hA hg) fun e a' w' hq => ?_)
  obtain ⟨a1, rfl, hg1, σ', g', h1, h2, h3, h4, h5⟩ := hq
  cases e with
  | normal => exact zbh y σ' Q hp.2 hd.2 (fun d h => hD d (Or.inr h)) h1 g' a1 w' h2 h3 h4 h5 hg1
  | exit i => exact ⟨a1, rfl, hg1, σ', g', h1, h2, h3, h4, h5⟩
  | goto l => exact ⟨a1, rfl, hg1, σ', g', h1, h2, h3, h4, h5⟩
  | ret => exact ⟨a1, rfl, hg1, σ', g', h1, h2, h3, h4, h5⟩
  | panic ch => exact ⟨a1, rfl, hg1, σ', g', h1, h2, h3, h4, h5⟩
  | outgrown => exact ⟨a1, rfl, hg1, σ', g', h1, h2, h3, h4, h5⟩
 | .cond c x y, σ, Q, hp, hd, hD, h, g, a, w, hr, hn, hb, hA, hg => by
  simp only [za3, zbs, Bool.and_eq_true] at hd hp
  simp only [zbp, List.mem_append] at hD
  unfold zds at h
  have hv := hr.get P 0 c
  split at h
  ·rename_i t hc
   rw [hc] at hv
   simp only [VR, CR, zag] at hv
   exact wpIn_cond_split hv (fun ht => zbh x σ Q hp.1 hd.1 (fun d h => hD d (Or.inl h)) (h.1 ht) g a w hr hn hb hA hg) (fun ht => zbh y σ Q hp.2 hd.2 (fun d h => hD d (Or.inr h)) (h.2 ht) g a w hr hn hb hA hg)
  ·exact h.elim
 | .block id b, σ, Q, hp, hd, hD, h, g, a, w, hr, hn, hb, hA, hg => by
  refine wpIn_block (wpIn_mono (zbh b σ _ hp hd hD h g a w hr hn hb hA hg) fun e a' w' hq => ?_)
  obtain ⟨a1, rfl, hg1, σ', g', h1, h2, h3, h4, h5⟩ := hq
  cases e with
  | exit i =>
   simp only [Exit.inBlock]
   simp only at h1
   split at h1
   ·rw [if_pos ‹_›]; exact ⟨a1, rfl, hg1, σ', g', h1, h2, h3, h4, h5⟩
   ·rw [if_neg ‹_›]; exact ⟨a1, rfl, hg1, σ', g', h1, h2, h3, h4, h5⟩
  | normal => exact ⟨a1, rfl, hg1, σ', g', h1, h2, h3, h4, h5⟩
  | goto l => exact ⟨a1, rfl, hg1, σ', g', h1, h2, h3, h4, h5⟩
  | ret => exact ⟨a1, rfl, hg1, σ', g', h1, h2, h3, h4, h5⟩
  | panic ch => exact ⟨a1, rfl, hg1, σ', g', h1, h2, h3, h4, h5⟩
  | outgrown => exact ⟨a1, rfl, hg1, σ', g', h1, h2, h3, h4, h5⟩
 | .region id ops false, σ, Q, hp, hd, hD, h, g, a, w, hr, hn, hb, hA, hg => by
  refine wpIn_region ?_
  have hd' : ∀ o ∈ ops.toList, Oper.nodef o = true /\ ∀ d, o.dst = some d -> d < N /\ D d := fun o ho => by
   simp only [za3, zbs, Array.all_eq_true_iff_forall_mem] at hd hp
   refine ⟨hp o (by simpa using ho), fun d hdd => ⟨?_, hD d (by simp only [zbp, List.mem_filterMap]; exact ⟨o, ho, hdd⟩)⟩⟩
   have := hd o (by simpa using ho)
   rw [hdd] at this
   simpa using this
  rw [List.range_eq_range']
  exact zgi (fun a w σ g h1 h2 h3 h4 h5 h6 => ⟨a, rfl, h6, σ, g, h1, h2, h3, h4, h5⟩) ops.size 0 (by omega) hd' σ g a w (by simpa [zds] using h) hr hn hb hA hg
 | .loop _, _, _, hp, _, _, _, _, _, _, _, _, _, _, _ => by cases hp
 | .region _ _ true, _, _, hp, _, _, _, _, _, _, _, _, _, _, _ => by cases hp
 | .rangeFunc .., _, _, hp, _, _, _, _, _, _, _, _, _, _, _ => by cases hp
 | .scope _, _, _, hp, _, _, _, _, _, _, _, _, _, _, _ => by cases hp
 | .label _, _, _, hp, _, _, _, _, _, _, _, _, _, _, _ => by cases hp
 | .goto _, _, _, hp, _, _, _, _, _, _, _, _, _, _, _ => by cases hp
 | .refuse _, _, _, hp, _, _, _, _, _, _, _, _, _, _, _ => by cases hp
end Go.Proofs.Yteeaofpphmhjdaa
namespace Go.Proofs.Yteeaofpphmhjdaa
set_option linter.unusedSimpArgs false
set_option linter.unusedVariables false
set_option linter.unusedSectionVars false
set_option maxRecDepth 4000
open Go.RowKit
variable {P : Program}
theorem Rel.turn {n0 n1 A1 : Nat -> Prop} {N : Nat} {σ : St} {g : Gh} {a : Act} {w w' : World} (h : Rel n0 N σ g a w) (hF : ∀ b, Fix σ g w b -> A1 b /\ w'.heap[b]? = w.heap[b]?) (hz : w.heap.size <= w'.heap.size)
  (hn : ∀ b, ¬ n1 b -> A1 b /\ g.R0 b) (hb : ∀ k, σ.bx k ≠ none -> ¬ n1 (g.β k) /\ w'.heap[g.β k]? = w.heap[g.β k]?) (he : ∀ e, σ.On e -> ∀ b ∈ g.φ e, ¬ n1 b /\ A1 b /\ w'.heap[b]? = w.heap[b]?) : Rel n1 N σ { g with A0 := A1 } a w' := by
 have m : Mv σ σ g { g with A0 := A1 } w w' := ⟨fun b hf => (hF b hf).2, fun b hf => ⟨hf.1, hf.2.1, Nat.lt_of_lt_of_le hf.2.2.1 hz, (hF b hf).1⟩, fun b hbb => ⟨rfl, hbb⟩, fun e n hh => ⟨hh, rfl⟩, fun b hb => hb.2⟩
 refine ⟨h.defers, h.size, hn, fun i => m.vr (h.slots i), fun b cs hbb => ?_, fun b hbb => (hb b hbb).1, h.inj, fun e x hx ho => m.evr (h.evs e x hx ho) fun b hm => (he e ⟨x, hx, ho⟩ b hm).2.2, fun e x hx ho => ⟨m.rep (h.offs e x hx ho).1, (h.offs e x hx ho).2⟩, h.slc, fun e ho b hm => ⟨(he e ho b hm).2.1, (h.ebase e ho b hm).2⟩, fun e ho b hm => (he e ho b hm).1, h.nodup, h.apart, h.ebx⟩
 obtain ⟨vs, ty, k1, k2⟩ := h.boxes b cs hbb
 exact ⟨vs, ty, by rw [(hb b (by rw [hbb]; simp)).2]; exact k1, m.crs k2⟩
theorem Rel.elt {n0 : Nat -> Prop} {N : Nat} {σ : St} {g : Gh} {a : Act} {w : World} (h : Rel n0 N σ g a w) {e : Nat} (ho : σ.On e) {b : Nat} (hm : b ∈ g.φ e) : b < w.heap.size := by
 obtain ⟨x, hx, hon⟩ := ho
 exact (h.evs e x hx hon).lt b hm
theorem Rel.enter {n0 : Nat -> Prop} {N : Nat} {σ : St} {g : Gh} {a : Act} {w : World} (h : Rel n0 N σ g a w) (o1 o2 : Obj) :
  Rel (fun b => n0 b \/ b = w.heap.size \/ b = w.heap.size + 1) N σ { g with A0 := fun b => g.A0 b /\ b ≠ w.heap.size /\ b ≠ w.heap.size + 1 } a ((w.alloc o1).alloc o2) := by
 have hs : ∀ b, b < w.heap.size -> ((w.alloc o1).alloc o2).heap[b]? = w.heap[b]? := fun b hb => by rw [Below.heap_alloc _ _ _ (by simp; omega), Below.heap_alloc _ _ _ hb]
 refine h.turn (fun b hf => ⟨⟨hf.2.2.2, ?_, ?_⟩, hs b hf.2.2.1⟩) (by simp; omega) (fun b hb => ?_) (fun k hk => ⟨?_, hs _ (h.lt hk)⟩) (fun e ho b hm => ?_)
 ·have := hf.2.2.1; omega
 ·have := hf.2.2.1; omega
 ·have h1 : ¬ n0 b := fun k => hb (Or.inl k)
  exact ⟨⟨(h.anew b h1).1, fun e => hb (Or.inr (Or.inl e)), fun e => hb (Or.inr (Or.inr e))⟩, (h.anew b h1).2⟩
 ·have := h.lt hk
  rintro (k1 | k1 | k1)
  ·exact h.base k hk k1
  ·omega
  ·omega
 ·have := h.elt ho hm
  refine ⟨?_, ⟨(h.ebase e ho b hm).1, by omega, by omega⟩, hs b this⟩
  rintro (k1 | k1 | k1)
  ·exact h.etop e ho b hm k1
  ·omega
  ·omega
theorem Rel.putObj {n1 : Nat -> Prop} {N : Nat} {σ : St} {g : Gh} {a : Act} {w : World} (h : Rel n1 N σ g a w) {l : Nat} (hl : n1 l) (hA : ¬ g.A0 l) (o : Obj) : Rel n1 N σ g a (w.putObj l o) := by
 have := h.turn (n1 := n1) (A1 := g.A0) (w' := w.putObj l o) (fun b hf => ⟨hf.2.2.2, World.putObj_heap_other (fun e => hA (e ▸ hf.2.2.2))⟩) (by simp) h.anew
  (fun k hk => ⟨h.base k hk, World.putObj_heap_other (fun e => h.base k hk (e ▸ hl))⟩) (fun e ho b hm => ⟨h.etop e ho b hm, (h.ebase e ho b hm).1, World.putObj_heap_other (fun e' => h.etop e ho b hm (e' ▸ hl))⟩)
 exact this
theorem Rel.leave {n0 n1 A1 : Nat -> Prop} {N : Nat} {σ : St} {g : Gh} {a : Act} {w : World} (h : Rel n1 N σ g a w) (hn : ∀ b, n0 b -> n1 b) (hA : ∀ b, g.A0 b -> A1 b) (hnew : ∀ b, ¬ n0 b -> A1 b /\ g.R0 b) : Rel n0 N σ { g with A0 := A1 } a w :=
 h.turn (fun b hf => ⟨hA b hf.2.2.2, rfl⟩) (Nat.le_refl _) hnew (fun k hk => ⟨fun k1 => h.base k hk (hn _ k1), rfl⟩) (fun e ho b hm => ⟨fun k1 => h.etop e ho b hm (hn _ k1), hA b (h.ebase e ho b hm).1, rfl⟩)
theorem Rel.frame {n0 : Nat -> Prop} {N : Nat} {σ : St} {g : Gh} {a a0 : Act} {w : World} (h : Rel n0 N σ g a w) {D : Nat -> Prop} (hg : Ag D a0 a) (hd : a0.defers = []) (hz : a0.tmps.size = N) (hany : ∀ i, D i -> σ.sl i = .one .any) : Rel n0 N σ g a0 w := by
 refine h.slots_of rfl rfl hd hz fun i => ?_
 by_cases hi : D i
 ·rw [hany i hi]; trivial
 ·have h1 := hg i hi
  have h2 := h.slots i
  have e : a0.tmps.getD i (g.R0.ξ i) = a.tmps.getD i (g.R0.ξ i) := by
   rw [Array.getD_eq_getD_getElem?, Array.getD_eq_getD_getElem?] at h1 ⊢
   by_cases hlt : i < N
   ·have s1 : i < a.tmps.size := by rw [h.size]; exact hlt
    have s2 : i < a0.tmps.size := by rw [hz]; exact hlt
    simp only [Array.getElem?_eq_getElem s1, Array.getElem?_eq_getElem s2, Option.getD_some] at h1 ⊢
    exact h1.symm
   ·have s1 : ¬ i < a.tmps.size := by rw [h.size]; exact hlt
    have s2 : ¬ i < a0.tmps.size := by rw [hz]; exact hlt
    simp [s1, s2]
  rw [e]; exact h2
def agv (ag : Bool) (r : List Value) : Value := if ag = true then .agg ⟨r⟩ else r.headD undef
def zmx (P : Program) (f : FuncId) (ag : Bool) (sz : Nat) : Prop := ∀ (l Bs n : Nat) (W : World) (J : Nat -> World -> Prop), n <= zc5 →
 (∀ W, J 0 W -> ∃ ao cap, W.cell? ⟨Bs, 0, none⟩ = some (.slice ao n cap)) →
 (∀ k W, J k W -> k < n -> ∃ b o cap r, W.cell? ⟨Bs, 0, none⟩ = some (.slice (some ⟨b, o, none⟩) n cap) /\ r.length = sz /\ (∀ j v, r[j]? = some v -> W.cell? ⟨b, o + (n - 1 - k) * sz + j, none⟩ = some v) ∧
  YieldAt (FR none) 5 P l #[.int .i64 ((n - 1 - k : Nat) : Int), agv ag r] W fun e W' => e = .returned (.bool true) /\ J (k + 1) W') →
 J 0 W -> CallsIn (FR none) 6 P f #[.func (.yield l) #[] #[], .pointer (some ⟨Bs, 0, none⟩)] W fun e W' => (∃ v, e = .returned v) /\ J n W'
theorem zar.valsN {w : World} {A : Nat -> Prop} {b : Nat} : ∀ {cs : List T} {o : Nat}, zar w A b o cs -> ∃ vs, zaa w A cs vs /\ ∀ j v, vs[j]? = some v -> w.cell? ⟨b, o + j, none⟩ = some v
 | [], _, _ => ⟨[], by unfold zaa; rfl, fun j v h => by simp at h⟩
 | c :: cs, o, h => by
  unfold zar at h
  obtain ⟨⟨v, h1, h2⟩, h3⟩ := h
  obtain ⟨vs, k1, k2⟩ := zar.valsN h3
  refine ⟨v :: vs, by unfold zaa; exact ⟨v, vs, rfl, h2, k1⟩, fun j u hj => ?_⟩
  cases j with
  | zero => simp only [List.getElem?_cons_zero, Option.some.injEq] at hj; subst hj; exact h1
  | succ j =>
   have := k2 j u (by simpa using hj)
   rwa [show o + (j + 1) = o + 1 + j by omega]
def rowN (ag : Bool) (r : List T) : V := if ag = true then .agg (r.map T.toN) else .one (r.headD (.bool false)).toN
theorem zx1 {σ : St} {g : Gh} {w : World} {ag : Bool} {r : List T} {vs : List Value} (hag : ag = true \/ r.length = 1) (h : zaa w (zcr σ g w) r vs) : VR σ g w (rowN ag r) (agv ag vs) := by
 cases ag with
 | true => exact ⟨vs, rfl, zkk (fun _ h => h) h⟩
 | false =>
  have hl := hag.resolve_left (by simp)
  match r, hl, h with
  | [c], _, h =>
   unfold zaa at h
   obtain ⟨v, vs', rfl, h1, h2⟩ := h
   exact zpx (fun _ h => h) h1
theorem Bk.mono {n0 n1 : Nat -> Prop} {w w' : World} (h : Bk n1 w w') (hn : ∀ b, n0 b -> n1 b) : Bk n0 w w' := ⟨h.os, h.tape, h.output, h.size, fun k hk => h.block k (hn k hk)⟩
theorem Bk.putObj {n0 : Nat -> Prop} (w : World) {l : Nat} (hl : ¬ n0 l) (o : Obj) : Bk n0 w (w.putObj l o) := ⟨rfl, rfl, rfl, by simp, fun k hk => World.putObj_heap_other (fun e => hl (e ▸ hk))⟩
theorem zko {n0 : Nat -> Prop} {N : Nat} {σ : St} {g : Gh} {a : Act} {w : World} (h : Rel n0 N σ g a w) {id sz : Nat} {rows : List (List T)} (hb : σ.bx id = some [.rn (.sl sz rows)]) :
  ∃ ao cap, w.cell? ⟨g.β id, 0, none⟩ = some (.slice ao rows.length cap) /\ rows.length <= zc5 /\ (rows = [] \/ ∃ b o, ao = some ⟨b, o, none⟩ /\ zah w (zcr σ g w) b o sz rows) := by
 obtain ⟨⟨vl⟩, ty, k1, v, vs', rfl, k2, k3⟩ := h.boxes id _ hb
 obtain rfl : vs' = [] := k3
 simp only [CR] at k2
 unfold zag at k2
 obtain ⟨ao, cap, rfl, h2, h3, h4⟩ := k2
 refine ⟨ao, cap, by simp [World.cell?, k1], by omega, h4.imp (fun h => h) ?_⟩
 rintro ⟨b, o, e1, _, e2⟩
 exact ⟨b, o, e1, e2⟩
end Go.Proofs.Yteeaofpphmhjdaa
namespace Go.Proofs.Yteeaofpphmhjdaa
set_option linter.unusedSimpArgs false
set_option linter.unusedVariables false
set_option linter.unusedSectionVars false
set_option maxRecDepth 4000
open Go.RowKit
variable {P : Program}
def zcg : Code -> Option (Code × (Operand × Array Tmp × Code × Code) × Code)
 | .rangeFunc g ps asg bd => some (.skip, (g, ps, asg, bd), .skip)
 | .block _ b => match b with
  | .rangeFunc g ps asg bd => some (.skip, (g, ps, asg, bd), .skip)
  | _ => none
 | .seq x y => match zcg x with
  | some (p, r, q) => some (p, r, .seq q y)
  | none => match zcg y with
   | some (p, r, q) => some (.seq x p, r, q)
   | none => none
 | _ => none
def zvd (n0 : Nat -> Prop) (N : Nat) (w0 : World) (A0 : (Nat -> Prop) × RP) (Q : Exit -> St -> Prop) (e : Exit) (a : Act) (w : World) : Prop :=
 ∃ (D : Nat) (n1 : Nat -> Prop) (a1 : Act) (σ : St) (g : Gh), a = { a1 with defers := [{ target := .collected D, args := #[] }] } /\ Q e σ /\ Rel n1 N σ g a1 w /\ LtK n1 w /\ Bk n0 w0 w /\ w.heap[D]? = some (.deferred (some [])) /\ n1 D /\ ¬ n0 D /\ (∀ b, n0 b -> n1 b) /\ ¬ g.A0 D /\ (∀ b, g.A0 b -> A0.1 b) /\ g.R0 = A0.2
theorem zn3 {n0 : Nat -> Prop} {N n : Nat} {w0 : World} {A0 : (Nat -> Prop) × RP} {Q : Exit -> St -> Prop} {y : Code} (hp : zbs y = true) (hd : za3 N y = true) {a : Act} {w : World} (h : zvd n0 N w0 A0 (fun _ σ => zds P y σ Q) .normal a w) :
  y.wpIn (FR none) n P (zvd n0 N w0 A0 Q) a w := by
 obtain ⟨D, n1, a1, σ, g, rfl, h1, h2, h3, h4, h5, h6, h7, h8, h9, h10, h11⟩ := h
 refine wpIn_mono (zbh (r := none) (n := n) (ds := [{ target := .collected D, args := #[] }]) (D := fun _ => True) (a0 := a1) (A0 := (g.A0, g.R0)) y σ Q hp hd (fun _ _ => trivial) h1 g a1 w h2 h3 (Bk.refl n1 w) rfl (Ag.refl _ _)) ?_
 rintro e a' w' ⟨a2, rfl, _, σ', g', k1, k2, k3, k4, k5⟩
 have e1 : g'.A0 = g.A0 := (Prod.mk.inj k5).1
 have e2 : g'.R0 = g.R0 := (Prod.mk.inj k5).2
 exact ⟨D, n1, a2, σ', g', rfl, k1, k2, k3, h4.trans (k4.mono h8), (k4.block D h6).trans h5, h6, h7, h8, by rw [e1]; exact h9, by rw [e1]; exact h10, by rw [e2]; exact h11⟩
theorem zw2 {n0 : Nat -> Prop} {N : Nat} {σ : St} {g : Gh} {a : Act} {w : World} {fp : List Nat} {sz : Nat} (hR : Rel n0 N σ g a w) (hr : g.R0 = RP.of fun b => b ∈ fp \/ sz <= b) (fn : Func) {res : List D} (hk : zal (zbe P σ fn.results.toList) (fun vs => zlx σ [] vs res) \/ PX P fn.results.toList res σ) :
  ∃ v, (results fn a.tmps).run P w = .ok v w /\ ∃ us fp' tp', Ending.returned v = .returned (zbl us) /\ GDs w res us fp' tp' /\ fp'.Nodup /\ ∀ b ∈ fp', b ∈ fp \/ sz <= b := by
 have fin : ∀ {us : List Value} {v : Value}, (results fn a.tmps).run P w = .ok v w -> v = zbl us -> (∃ fp' tp', GDs w res us fp' tp' /\ fp'.Nodup /\ ∀ b ∈ fp', ∃ e, σ.On e /\ b ∈ g.φ e) -> ∃ v, (results fn a.tmps).run P w = .ok v w /\ ∃ us fp' tp', Ending.returned v = .returned (zbl us) /\ GDs w res us fp' tp' /\ fp'.Nodup /\ ∀ b ∈ fp', b ∈ fp \/ sz <= b := fun {us v} r1 rv ⟨fp', tp', o1, o2, o3⟩ => by
  refine ⟨_, r1, us, fp', tp', by rw [rv], o1, o2, fun b hb => ?_⟩
  obtain ⟨e, l, m⟩ := o3 b hb
  have := (hR.ebase e l b m).2
  rw [hr] at this
  exact this
 rcases hk with hk | ⟨pl, hk⟩
 ·obtain ⟨vs, hvs, hk⟩ := zam hk
  obtain ⟨us, r1, r2⟩ := zbc hR fn hvs
  obtain ⟨used, fp', tp', o1, o2⟩ := zbz hR hk r2
  exact fin r1 rfl ⟨fp', tp', o1, o2.1, fun b hb => by obtain ⟨e, _, _, l, m⟩ := o2.2.1 b hb; exact ⟨e, l, m⟩⟩
 ·obtain ⟨vs, hvs, hk⟩ := zam hk
  obtain ⟨us, r1, r2⟩ := zbc hR fn hvs
  exact fin r1 rfl (zpz hR hk r2)
end Go.Proofs.Yteeaofpphmhjdaa
namespace Go.Proofs.Yteeaofpphmhjdaa
set_option linter.unusedSimpArgs false
set_option linter.unusedVariables false
set_option linter.unusedSectionVars false
set_option maxRecDepth 4000
open Go.RowKit
variable {P : Program}
def zr0 (P : Program) (f f1 : FuncId) : Prop := za0 P f /\ ∀ (a : Option Addr) (len cap : Nat) (w : World), Calls P f #[.slice a len cap] w fun e w' => ∃ ty, e = .returned (.func (.func f1) #[] #[.pointer (some ⟨w.heap.size, 0, none⟩)]) /\ w' = w.alloc (.cells #[.slice a len cap] ty)
def St.callB (σ : St) (d : Nat) (f1 : FuncId) (c : C) : St := { sl := upd σ.sl d (.one (.fn f1 [d])), bx := upd σ.bx d (some [c]), ev := σ.ev }
theorem zsy {o : Oper} {σ : St} {x : Operand} {asg : Array Operand} {ts : Array TypeId} {f f1 : FuncId} {d : Nat} {sz : Nat} {rows : List (List T)} (ho : o.op = .call ⟨.value x, asg, ts⟩) (hd : o.dst = some d)
  (h : zr0 P f f1) (hc : zas (σ.get P 0 x) = some (f, [])) (hv : σ.gets P asg ts = [.one (.rn (.sl sz rows))]) (hb : σ.bx d = none) : zab P o σ (σ.callB d f1 (.rn (.sl sz rows))) := by
 intro n0 N g a w hR hn hdN
 obtain ⟨vs, h1, h2⟩ := zdh hR ho hc h.1
 rw [hv] at h2
 obtain ⟨v, vs', rfl, k1, k2⟩ := h2
 obtain rfl : vs' = [] := k2
 have k0 : CR σ g w (.rn (.sl sz rows)) v := k1
 simp only [VR, CR] at k1
 unfold zag at k1
 obtain ⟨ao, cap, rfl, _⟩ := k1
 unfold Oper.wp
 rw [h1]
 refine (h.2 ao rows.length cap w).mono ?_
 rintro e w' ⟨ty, rfl, rfl⟩
 refine ⟨{ g with β := upd g.β d w.heap.size }, ?_, Bk.of_alloc hn _, rfl, rfl⟩
 have := (hR.newbox hn hb (cs := [.rn (.sl sz rows)]) (vs := [.slice ao rows.length cap]) ⟨_, _, rfl, k0, rfl⟩ ty).put (some d) (x := .one (.fn f1 [d])) (v := .func (.func f1) #[] #[.pointer (some ⟨w.heap.size, 0, none⟩)]) ⟨by simp [upd], by simp [upd]⟩ (fun i hi => by cases hi; exact hdN d hd)
 rw [hd]
 exact this
section
variable {ks : List Fr} {Q : Exit -> St -> Prop} {σ : St} {ops : Array Oper} {os : List Oper} {ty : TypeId} {ps : String} {af : Array Edge}
theorem callB {d : Nat} {x : Operand} {asg : Array Operand} {ts : Array TypeId} {f f1 : FuncId} {sz : Nat} {rows : List (List T)} (h : zr0 P f f1) (hp : zas (σ.get P 0 x) = some (f, []) /\ σ.gets P asg ts = [.one (.rn (.sl sz rows))] /\ σ.bx d = none)
  (k : exo P ops os ks Q (σ.callB d f1 (.rn (.sl sz rows)))) : exo P ops (⟨some d, .call ⟨.value x, asg, ts⟩, ty, ps, af, none⟩ :: os) ks Q σ :=
 zch rfl rfl (zsy rfl rfl h hp.1 hp.2.1 hp.2.2) k
end
attribute [go_sem] St.callB
end Go.Proofs.Yteeaofpphmhjdaa
namespace Go.Proofs.Yteeaofpphmhjdaa
set_option linter.unusedSimpArgs false
set_option linter.unusedVariables false
set_option linter.unusedSectionVars false
set_option maxRecDepth 4000
open Go.RowKit
variable {P : Program}
def zp2 (f : Nat -> V) : List Nat -> Prop
 | [] => True
 | i :: is => f i = .one .any /\ zp2 f is
theorem zgy {f : Nat -> V} : ∀ {l : List Nat}, zp2 f l -> ∀ i ∈ l, f i = .one .any
 | [], _, i, hi => by simp at hi
 | j :: l, h, i, hi => by
  rcases List.mem_cons.1 hi with rfl | hi
  ·exact h.1
  ·exact zgy h.2 i hi
end Go.Proofs.Yteeaofpphmhjdaa
namespace Go.Proofs.Yteeaofpphmhjdaa
set_option linter.unusedSimpArgs false
set_option linter.unusedVariables false
set_option linter.unusedSectionVars false
set_option maxRecDepth 4000
open Go.RowKit
variable {P : Program}
def swp (a b e : Nat) : Nat := if e = a then b else if e = b then a else e
theorem zb5 (a b e : Nat) : swp a b (swp a b e) = e := by unfold swp; split <;> (try split) <;> (try split) <;> omega
def C.ren (a b : Nat) : C -> C
 | .ow e g => .ow (swp a b e) g
 | .eo e g sz i o => .eo (swp a b e) g sz i o
 | c => c
def V.ren (a b : Nat) : V -> V
 | .one c => .one (c.ren a b)
 | .agg cs => .agg (cs.map (C.ren a b))
 | .tup xs => .tup (xs.map fun x => (x.1, x.2.map (C.ren a b)))
def St.ren (σ : St) (a b : Nat) : St := ⟨fun i => (σ.sl i).ren a b, fun k => (σ.bx k).map (·.map (C.ren a b)), fun e => σ.ev (swp a b e)⟩
def Gh.ren (g : Gh) (a b : Nat) : Gh := { g with ψ := fun e => g.ψ (swp a b e), φ := fun e => g.φ (swp a b e) }
theorem zes {σ : St} {a b k : Nat} : (σ.ren a b).bx k ≠ none ↔ σ.bx k ≠ none := by unfold St.ren; simp
theorem zpc {σ : St} {a b e n : Nat} (h : σ.has e n) : (σ.ren a b).has (swp a b e) n := by
 obtain ⟨x, h1, h2⟩ := h
 exact ⟨x, by show σ.ev (swp a b (swp a b e)) = _; rw [zb5]; exact h1, h2⟩
theorem zk3 {σ : St} {g : Gh} {w : World} {a b : Nat} : Fix (σ.ren a b) (g.ren a b) w = Fix σ g w := by
 funext q
 refine propext ⟨fun h => ⟨fun k hk => h.1 k (zes.2 hk), fun e x he ho => ?_, h.2.2⟩, fun h => ⟨fun k hk => h.1 k (zes.1 hk), fun e x he ho => h.2.1 (swp a b e) x he ho, h.2.2⟩⟩
 have := h.2.1 (swp a b e) x (by show σ.ev (swp a b (swp a b e)) = _; rw [zb5]; exact he) ho
 have e2 : (g.ren a b).φ (swp a b e) = g.φ e := by show g.φ (swp a b (swp a b e)) = _; rw [zb5]
 rwa [e2] at this
theorem zrm {σ : St} {g : Gh} {w : World} {a b : Nat} : zcr (σ.ren a b) (g.ren a b) w = zcr σ g w := by
 funext q
 unfold zcr
 rw [zk3]
 refine propext ⟨fun h => ⟨h.1, fun e ho hm => h.2 (swp a b e) ?_ ?_⟩, fun h => ⟨h.1, fun e ho hm => h.2 (swp a b e) ho hm⟩⟩
 ·show σ.On (swp a b (swp a b e)); rw [zb5]; exact ho
 ·show q ∈ g.φ (swp a b (swp a b e)); rw [zb5]; exact hm
theorem zsd {σ : St} {g : Gh} {w : World} {a b : Nat} {c : C} {v : Value} (h : CR σ g w c v) : CR (σ.ren a b) (g.ren a b) w (c.ren a b) v := by
 have hF := zk3 (σ := σ) (g := g) (w := w) (a := a) (b := b)
 have hψ : ∀ e, (g.ren a b).ψ (swp a b e) = g.ψ e := fun e => by show g.ψ (swp a b (swp a b e)) = _; rw [zb5]
 cases c with
 | t x => show zag _ _ _ _; rw [hF]; exact h
 | nl s => exact h
 | ow e n => exact ⟨by show v = (g.ren a b).ψ (swp a b e) n; rw [hψ]; exact h.1, zpc h.2⟩
 | bx q o => exact ⟨h.1, zes.2 h.2⟩
 | el cs o => obtain ⟨q, r, h1, h2, h3⟩ := h; exact ⟨q, r, h1, by rw [hF]; exact h2, by rw [hF]; exact h3⟩
 | eo e s sz i o => obtain ⟨q, n, c, h1, h2, h3, h4⟩ := h; exact ⟨q, n, c, by rw [hψ]; exact h1, h2, h3, zpc h4⟩
 | fn f caps => exact ⟨h.1, fun q hq => zes.2 (h.2 q hq)⟩
 | cv u => exact h
 | any => trivial
 | rn x => show zag _ _ _ _; rw [zrm]; exact h
 | er cs o => obtain ⟨q, r, h1, h2, h3⟩ := h; exact ⟨q, r, h1, by rw [zrm]; exact h2, by rw [zrm]; exact h3⟩
theorem zh9 {σ : St} {g : Gh} {w : World} {a b : Nat} : ∀ {cs : List C} {vs : List Value}, CRs σ g w cs vs -> CRs (σ.ren a b) (g.ren a b) w (cs.map (C.ren a b)) vs
 | [], _, h => h
 | c :: cs, _, h => by obtain ⟨v, vs', rfl, h1, h2⟩ := h; exact ⟨v, vs', rfl, zsd h1, zh9 h2⟩
theorem zq8 {σ : St} {g : Gh} {w : World} {a b : Nat} : ∀ {xs : List (Bool × List C)} {vs : List Value}, CRt σ g w xs vs -> CRt (σ.ren a b) (g.ren a b) w (xs.map fun x => (x.1, x.2.map (C.ren a b))) vs
 | [], _, h => h
 | x :: xs, _, h => by
  obtain ⟨v, vs', rfl, h1, h2⟩ := h
  refine ⟨v, vs', rfl, ?_, zq8 h2⟩
  unfold CRx at h1 ⊢
  split at h1
  ·rw [if_pos ‹_›]; obtain ⟨q, h3, h4⟩ := h1; exact ⟨q, h3, zh9 h4⟩
  ·rw [if_neg ‹_›]; obtain ⟨c, h3, h4⟩ := h1; exact ⟨c.ren a b, by simp [h3], zsd h4⟩
theorem vr_ren {σ : St} {g : Gh} {w : World} {a b : Nat} {x : V} {v : Value} (h : VR σ g w x v) : VR (σ.ren a b) (g.ren a b) w (x.ren a b) v := by
 cases x with
 | one c => exact zsd h
 | agg cs => obtain ⟨q, h1, h2⟩ := h; exact ⟨q, h1, zh9 h2⟩
 | tup xs => obtain ⟨q, h1, h2⟩ := h; exact ⟨q, h1, zq8 h2⟩
theorem zgm {σ : St} {a b e : Nat} (h : (σ.ren a b).On e) : σ.On (swp a b e) := h
theorem Rel.ren {n0 : Nat -> Prop} {N : Nat} {σ : St} {g : Gh} {ac : Act} {w : World} (h : Rel n0 N σ g ac w) (a b : Nat) : Rel n0 N (σ.ren a b) (g.ren a b) ac w := by
 have hF := zk3 (σ := σ) (g := g) (w := w) (a := a) (b := b)
 refine ⟨h.defers, h.size, h.anew, fun i => vr_ren (h.slots i), fun k cs hk => ?_, fun k hk => h.base k (zes.1 hk), fun k k' h1 h2 => h.inj k k' (zes.1 h1) (zes.1 h2), fun e x he ho => ?_, fun e x he ho => ?_, fun e n => h.slc (swp a b e) n, fun e he => h.ebase _ (zgm he), fun e he => h.etop _ (zgm he), fun e he => h.nodup _ (zgm he), fun e e' he he' hne => h.apart _ _ (zgm he) (zgm he') (fun k => hne (by rw [<- zb5 a b e, k, zb5])), fun e k he hk => h.ebx _ k (zgm he) (zes.1 hk)⟩
 ·obtain ⟨cs0, h1, rfl⟩ := Option.map_eq_some_iff.1 hk
  obtain ⟨vs, ty, k1, k2⟩ := h.boxes k cs0 h1
  exact ⟨vs, ty, k1, zh9 k2⟩
 ·rw [hF]; exact h.evs (swp a b e) x he ho
 ·rw [hF]; exact h.offs (swp a b e) x he ho
theorem zna (a b : Nat) : ∀ (l : List (Nat × V)) (i : Nat), (zkx l i).ren a b = zkx (l.map fun p => (p.1, p.2.ren a b)) i
 | [], i => rfl
 | (j, v) :: l, i => by
  simp only [List.map_cons, zkx]
  split
  ·rfl
  ·exact zna a b l i
theorem zr9 {α β : Type} (f : α -> β) : ∀ (l : List (Nat × α)) (i : Nat), (tbl l i).map f = tbl (l.map fun p => (p.1, f p.2)) i
 | [], i => rfl
 | (j, v) :: l, i => by
  simp only [List.map_cons, tbl]
  split
  ·rfl
  ·exact zr9 f l i
theorem zr5 {α : Type} (a b : Nat) : ∀ (l : List (Nat × α)) (i : Nat), tbl l (swp a b i) = tbl (l.map fun p => (swp a b p.1, p.2)) i
 | [], i => rfl
 | (j, v) :: l, i => by
  simp only [List.map_cons, tbl]
  by_cases h : swp a b i = j
  ·rw [if_pos h, if_pos (by rw [<- h, zb5])]
  ·rw [if_neg h, if_neg (fun e => h (by rw [e, zb5]))]
   exact zr5 a b l i
theorem wk_ren (a b : Nat) (l : List (Nat × V)) (bl : List (Nat × List C)) (el : List (Nat × Ev)) : Wk (hd l bl el) (hd (l.map fun p => (p.1, p.2.ren a b)) (bl.map fun p => (p.1, p.2.map (C.ren a b))) (el.map fun p => (swp a b p.1, p.2))) := fun n0 N g ac w hR => by
 have e : (hd l bl el).ren a b = hd (l.map fun p => (p.1, p.2.ren a b)) (bl.map fun p => (p.1, p.2.map (C.ren a b))) (el.map fun p => (swp a b p.1, p.2)) := by
  unfold hd St.ren
  simp only [St.mk.injEq]
  exact ⟨funext fun i => zna a b l i, funext fun k => zr9 _ bl k, funext fun e => zr5 a b el e⟩
 exact ⟨g.ren a b, e ▸ hR.ren a b, rfl, rfl⟩
end Go.Proofs.Yteeaofpphmhjdaa
namespace Go.Proofs.Yteeaofpphmhjdaa
set_option linter.unusedSimpArgs false
set_option linter.unusedVariables false
set_option linter.unusedSectionVars false
set_option maxRecDepth 4000
open Go.RowKit
variable {P : Program}
def C.evs : C -> List Nat
 | .ow e _ => [e]
 | .eo e _ _ _ _ => [e]
 | _ => []
def C.bxs : C -> List Nat
 | .bx b _ => [b]
 | .fn _ caps => caps
 | _ => []
def V.alls : V -> List C
 | .one c => [c]
 | .agg cs => cs
 | .tup xs => xs.flatMap (·.2)
def ins (x : Nat) : List Nat -> List Nat
 | [] => [x]
 | y :: l => if x = y then y :: l else y :: ins x l
def zgt : List Nat -> List Nat -> List Nat
 | [], l => l
 | x :: xs, l => zgt xs (ins x l)
def zuo : List C -> List Nat
 | [] => []
 | c :: cs => c.bxs ++ zuo cs
def zus : List C -> List Nat
 | [] => []
 | c :: cs => c.evs ++ zus cs
def St.kb0 (σ : St) : List Nat -> List Nat
 | [] => []
 | i :: L => zgt (zuo (σ.sl i).alls) (σ.kb0 L)
def St.kb1 (σ : St) : List Nat -> List Nat
 | [] => []
 | b :: B => zgt (b :: zuo ((σ.bx b).getD [])) (σ.kb1 B)
def St.KB (σ : St) (L : List Nat) : List Nat := σ.kb1 (σ.kb0 L)
def St.ke0 (σ : St) : List Nat -> List Nat
 | [] => []
 | i :: L => zgt (zus (σ.sl i).alls) (σ.ke0 L)
def St.ke1 (σ : St) (l : List Nat) : List Nat -> List Nat
 | [] => l
 | b :: B => zgt (zus ((σ.bx b).getD [])) (σ.ke1 l B)
def St.KE (σ : St) (L : List Nat) : List Nat := σ.ke1 (σ.ke0 L) (σ.KB L)
def St.lL (σ : St) (L : List Nat) : List (Nat × V) := L.map fun i => (i, σ.sl i)
def St.lB (σ : St) (B : List Nat) : List (Nat × List C) := B.map fun b => (b, (σ.bx b).getD [])
def St.lE (σ : St) (E : List Nat) : List (Nat × Ev) := E.map fun e => (e, (σ.ev e).getD ⟨false, 0, [], 0, false⟩)
def St.hL (σ : St) (L : List Nat) : St := hd (σ.lL L) (σ.lB (σ.KB L)) (σ.lE (σ.KE L))
def wkK (σ : St) (L : List Nat) : Prop := wkL σ (σ.hL L) (σ.lL L) /\ wkB σ (σ.hL L) (σ.lB (σ.KB L)) /\ wkE σ (σ.lE (σ.KE L))
section
variable {ks : List Fr} {Q : Exit -> St -> Prop} {σ : St} {ops : Array Oper} {os : List Oper} {ty : TypeId} {ps : String} {af : Array Edge} {dst : Option Nat} {x : Operand} {asx : Array Operand} {ts : Array TypeId} {f : FuncId}
theorem zkl {pre : List D} {d : D} {post : List D} {d' : D} {res : List D} (L : List Nat) (h : IC P f pre d post d' res) (hw : wkK σ L)
  (hd1 : ((σ.lL L).all fun p => p.2.mOk) = true) (hd2 : ((σ.lB (σ.KB L)).all fun p => p.2.all C.mOk) = true) (hd3 : ((σ.lE (σ.KE L)).all fun p => p.2.on && p.2.deep) = true)
  (hp : zal (zas ((σ.hL L).get P 0 x)) fun p => p.1 = f /\ spI ((σ.hL L).gets P asx ts ++ p.2) pre.length fun p1 gv p2 => zkd p1 pre /\ zkd p2 post /\ inG (σ.hL L) gv d d') (hr : res.all D.fl = true)
  (k : exo P ops os ks Q ((σ.hL L).cI P x asx ts pre.length dst d' res)) : exo P ops (⟨dst, .call ⟨.value x, asx, ts⟩, ty, ps, af, none⟩ :: os) ks Q σ :=
 callId h hw hd1 hd2 hd3 hp hr k
end
def renL (a b : Nat) (l : List (Nat × V)) : List (Nat × V) := l.map fun p => (p.1, p.2.ren a b)
def renB (a b : Nat) (l : List (Nat × List C)) : List (Nat × List C) := l.map fun p => (p.1, p.2.map (C.ren a b))
def renE (a b : Nat) (l : List (Nat × Ev)) : List (Nat × Ev) := l.map fun p => (swp a b p.1, p.2)
theorem zm2 (a b : Nat) (c : C) : (c.ren a b).ren a b = c := by cases c <;> simp [C.ren, zb5]
theorem zh8 (a b : Nat) (cs : List C) : (cs.map (C.ren a b)).map (C.ren a b) = cs := by
 rw [List.map_map]; exact (List.map_congr_left fun c _ => zm2 a b c).trans (List.map_id cs)
theorem zu7 (a b : Nat) (v : V) : (v.ren a b).ren a b = v := by
 cases v with
 | one c => simp [V.ren, zm2]
 | agg cs => simp only [V.ren, zh8]
 | tup xs =>
  simp only [V.ren, List.map_map]
  congr 1
  exact (List.map_congr_left fun x _ => by simp only [Function.comp, zh8]; rfl).trans (List.map_id xs)
theorem ztw (a b : Nat) {σ : St} {l : List (Nat × V)} {bl : List (Nat × List C)} {el : List (Nat × Ev)} (h : wkL σ (hd (renL a b l) (renB a b bl) (renE a b el)) (renL a b l) /\ wkB σ (hd (renL a b l) (renB a b bl) (renE a b el)) (renB a b bl) /\ wkE σ (renE a b el)) : Wk σ (hd l bl el) := by
 have h1 := (zac h).trans (wk_ren a b _ _ _)
 have e1 : (renL a b l).map (fun p => (p.1, p.2.ren a b)) = l := by
  unfold renL; rw [List.map_map]; exact (List.map_congr_left fun p _ => by simp only [Function.comp, zu7]; rfl).trans (List.map_id l)
 have e2 : (renB a b bl).map (fun p => (p.1, p.2.map (C.ren a b))) = bl := by
  unfold renB; rw [List.map_map]; exact (List.map_congr_left fun p _ => by simp only [Function.comp, zh8]; rfl).trans (List.map_id bl)
 have e3 : (renE a b el).map (fun p => (swp a b p.1, p.2)) = el := by
  unfold renE; rw [List.map_map]; exact (List.map_congr_left fun p _ => by simp only [Function.comp, zb5]; rfl).trans (List.map_id el)
 rw [e1, e2, e3] at h1
 exact h1
attribute [go_sem] C.evs C.bxs V.alls ins zgt zuo zus St.kb0 St.kb1 St.KB St.ke0 St.ke1 St.KE St.lL St.lB St.lE St.hL wkK renL renB renE C.ren V.ren swp
end Go.Proofs.Yteeaofpphmhjdaa
namespace Go.Proofs.Yteeaofpphmhjdaa
set_option linter.unusedSimpArgs false
set_option linter.unusedVariables false
set_option linter.unusedSectionVars false
set_option maxRecDepth 4000
open Go.RowKit
variable {P : Program}
attribute [go_sem] ztn zy9
end Go.Proofs.Yteeaofpphmhjdaa
namespace Go.Proofs.Yteeaofpphmhjdaa
set_option linter.unusedSimpArgs false
set_option linter.unusedVariables false
set_option linter.unusedSectionVars false
set_option maxRecDepth 4000
open Go.RowKit
variable {P : Program}
attribute [go_sem] V.map
end Go.Proofs.Yteeaofpphmhjdaa
namespace Go.Proofs.Yteeaofpphmhjdaa
theorem ag_3 : zs5 Try.prog 3 = some false := by kernel_rfl
theorem sz_3 : za9 Try.prog 3 = some 1 := by kernel_rfl
theorem ze_3 : zcc Try.prog 3 = some [.t (.int .i64 0)] := by kernel_rfl
theorem ag_4 : zs5 Try.prog 4 = some false := by kernel_rfl
theorem sz_4 : za9 Try.prog 4 = some 1 := by kernel_rfl
theorem bo_4 : zp3 Try.prog 4 = true := by kernel_rfl
theorem ze_4 : zcc Try.prog 4 = some [.t (.bool false)] := by kernel_rfl
theorem nl_24 : nlT Try.prog 24 = 1 := by kernel_rfl
theorem ag_24 : zs5 Try.prog 24 = some false := by kernel_rfl
theorem sz_24 : za9 Try.prog 24 = some 1 := by kernel_rfl
theorem el_24 : elT Try.prog 24 = some 27 := by kernel_rfl
theorem zt2 : zcf Try.prog 27 = some 24 := by kernel_rfl
theorem nl_27 : nlT Try.prog 27 = 1 := by kernel_rfl
theorem ag_27 : zs5 Try.prog 27 = some false := by kernel_rfl
theorem sz_27 : za9 Try.prog 27 = some 1 := by kernel_rfl
theorem el_27 : elT Try.prog 27 = some 3 := by kernel_rfl
theorem zsc : zcf Try.prog 3 = some 8 := by kernel_rfl
theorem ze_27 : zcc Try.prog 27 = some [.nl 1] := by kernel_rfl
theorem nl_40 : nlT Try.prog 40 = 4 := by kernel_rfl
theorem ag_40 : zs5 Try.prog 40 = some false := by kernel_rfl
theorem sz_40 : za9 Try.prog 40 = some 1 := by kernel_rfl
theorem el_40 : elT Try.prog 40 = some 95 := by kernel_rfl
theorem zmf : zcf Try.prog 95 = some 48 := by kernel_rfl
theorem el_46 : elT Try.prog 46 = some 103 := by kernel_rfl
theorem ze_93 : zcc Try.prog 93 = some [.nl 1, .nl 4] := by kernel_rfl
theorem pl_93 : plsT Try.prog 93 = some [(0, 1), (1, 1)] := by kernel_rfl
theorem zxs : zic Try.prog 93 0 = some (0, 24) := by kernel_rfl
theorem zyb : zic Try.prog 93 1 = some (1, 40) := by kernel_rfl
theorem ag_95 : zs5 Try.prog 95 = some true := by kernel_rfl
theorem sz_95 : za9 Try.prog 95 = some 4 := by kernel_rfl
theorem ze_95 : zcc Try.prog 95 = some [.t (.int .i64 0), .t (.int .i64 0), .t (.int .i64 0), .nl 1] := by kernel_rfl
theorem pl_95 : plsT Try.prog 95 = some [(0, 1), (1, 1), (2, 1), (3, 1)] := by kernel_rfl
theorem zy7 : zic Try.prog 95 0 = some (0, 3) := by kernel_rfl
theorem zyc : zic Try.prog 95 1 = some (1, 3) := by kernel_rfl
theorem zxx : zic Try.prog 95 2 = some (2, 3) := by kernel_rfl
theorem zyu : zic Try.prog 95 3 = some (3, 27) := by kernel_rfl
theorem nl_99 : nlT Try.prog 99 = 1 := by kernel_rfl
theorem ag_99 : zs5 Try.prog 99 = some false := by kernel_rfl
theorem sz_99 : za9 Try.prog 99 = some 1 := by kernel_rfl
theorem el_99 : elT Try.prog 99 = some 4 := by kernel_rfl
theorem zxn : zcf Try.prog 4 = some 1 := by kernel_rfl
theorem ze_99 : zcc Try.prog 99 = some [.nl 1] := by kernel_rfl
theorem ag_103 : zs5 Try.prog 103 = some true := by kernel_rfl
theorem sz_103 : za9 Try.prog 103 = some 4 := by kernel_rfl
theorem zue : zic Try.prog 103 0 = some (0, 3) := by kernel_rfl
theorem zte : zic Try.prog 103 1 = some (1, 3) := by kernel_rfl
theorem ztq : zic Try.prog 103 2 = some (2, 3) := by kernel_rfl
theorem zup : zic Try.prog 103 3 = some (3, 27) := by kernel_rfl
theorem ap_27 : apT Try.prog 27 1 := zw9 el_27 sz_3 zsc (by decide) ze_3 rfl
theorem ap_40 : apT Try.prog 40 4 := zw9 el_40 sz_95 zmf (by decide) ze_95 rfl
attribute [go_sem] ag_3 sz_3 ze_3 ag_4 sz_4 bo_4 ze_4 nl_24 ag_24 sz_24 el_24 zt2 nl_27 ag_27 sz_27 el_27 zsc ze_27 nl_40 ag_40 sz_40 el_40 zmf el_46 ze_93 pl_93 zxs zyb ag_95 sz_95 ze_95 pl_95 zy7 zyc zxx zyu nl_99 ag_99 sz_99 el_99 zxn ze_99 ag_103 sz_103 zue zte ztq zup ap_27 ap_40
attribute [go_sem] Nat.reduceEqDiff reduceIte reduceCtorEq Nat.reduceAdd Nat.reduceMul Int.reduceLE Int.reduceNeg Int.reduceToNat Nat.reduceLeDiff Nat.reduceSub Nat.reduceLT Nat.le_refl Int.cast_ofNat_Int Int.reduceLT Int.reduceGT Int.reduceGE Int.reduceEq Int.reduceBEq Nat.reduceBEq Int.reduceBNe Int.reduceAdd Int.reduceSub gt_iff_lt ge_iff_le
end Go.Proofs.Yteeaofpphmhjdaa
namespace Go.Proofs.Yteeaofpphmhjdaa
set_option linter.unusedSimpArgs false
set_option linter.unusedVariables false
set_option linter.unusedSectionVars false
set_option maxRecDepth 4000
open Go.RowKit
abbrev iD (n : Int) : D := .one (.int .i64 n)
abbrev bD (b : Bool) : D := .one (.bool b)
theorem zaf {α : Type} (f : α -> List T) (xs : List α) (k : Nat) (h : k < xs.length) : (xs.map f).getD k [] = f (xs[k]'h) := by simp [List.getD, h]
def szR (w : Nat) (left : Int) : Int := if (w : Int) <= left then left - w else -1
def zkp {α : Type} (f : α -> Nat) (xs : List α) (k : Nat) : Nat := ((xs.take k).map f).sum
theorem zd4 {α : Type} (f : α -> Nat) (xs : List α) : zkp f xs 0 = 0 := by simp [zkp]
theorem zis {α : Type} (f : α -> Nat) (xs : List α) (k : Nat) (h : k < xs.length) : zkp f xs (k + 1) = zkp f xs k + f xs[k] := by
 unfold zkp
 rw [List.take_succ_eq_append_getElem h, List.map_append, List.sum_append]; simp
theorem zss {α : Type} (f : α -> Nat) (xs : List α) (k : Nat) : zkp f xs k <= (xs.map f).sum := by
 unfold zkp
 conv => rhs; rw [<- List.take_append_drop k xs, List.map_append, List.sum_append]
 omega
theorem zlm {α : Type} (f : α -> Nat) (xs : List α) (k : Nat) (h : xs.length <= k) : zkp f xs k = (xs.map f).sum := by
 unfold zkp
 rw [List.take_of_length_le h]
theorem zrj {α : Type} (f : α -> Nat) (xs : List α) : ∀ x ∈ xs, f x <= (xs.map f).sum := by
 induction xs with
 | nil => simp
 | cons a xs ih =>
  intro x hx
  rcases List.mem_cons.1 hx with rfl | hx
  ·simp
  ·have := ih x hx; simp; omega
noncomputable def same {α : Type} (a b : α) : Bool := @decide (a = b) (Classical.propDecidable _)
theorem zb0 {α : Type} {a b : α} : same a b = true ↔ a = b := by simp [same]
theorem zb2 {α : Type} {a b : α} : same a b = false ↔ a ≠ b := by simp [same]
theorem za1 {α : Type} (a : α) : same a a = true := by simp [same]
theorem zcl {α : Type} (a b : α) (xs ys : List α) : same (a :: xs) (b :: ys) = (same a b && same xs ys) := by
 rw [Bool.eq_iff_iff, Bool.and_eq_true, zb0, zb0, zb0, List.cons.injEq]
theorem zvq {α : Type} : same ([] : List α) [] = true := za1 _
theorem zav {k : Nat} (h : k < 9223372036854775807) : IntKind.i64.wrap ((k : Int) + 1) = ((k + 1 : Nat) : Int) := zp9 h
theorem zku {w : Nat} {l : Int} (h0 : 0 <= l) (h : szR w l < 0) : l < w := by unfold szR at h; split at h <;> omega
theorem zhc {w : Nat} {l : Int} (h : ¬ szR w l < 0) : (w : Int) <= l /\ szR w l = l - w := by
 by_cases hh : (w : Int) <= l
 ·exact ⟨hh, if_pos hh⟩
 ·exact absurd (by rw [szR, if_neg hh]; omega) h
theorem zeq {w : Nat} {l : Int} (h : l < w) : szR w l = -1 := if_neg (by omega)
theorem zs3 {w : Nat} {l : Int} (h : (w : Int) <= l) : szR w l = l - w := if_pos h
theorem zwl {k : IntKind} {a b : Int} (h : a = b) : T.int k a = T.int k b := h ▸ rfl
theorem zfr (A : List (List T)) (n k : Nat) (z ts : List T) (hA : A.length = k) (hk : k < n) (hz : ts.length = z.length) : zb8 (A ++ List.replicate (n - k) z) k 0 ts = A ++ [ts] ++ List.replicate (n - (k + 1)) z := by
 subst hA
 have e : List.replicate (n - A.length) z = z :: List.replicate (n - (A.length + 1)) z := by
  rw [show n - A.length = (n - (A.length + 1)) + 1 by omega]; rfl
 unfold zb8
 rw [e]
 simp [zsa _ _ hz]
end Go.Proofs.Yteeaofpphmhjdaa
namespace Go.Proofs.Yteeaofpphmhjdaa
set_option linter.unusedSimpArgs false
set_option linter.unusedVariables false
set_option linter.unusedSectionVars false
set_option maxRecDepth 4000
open Go.RowKit
theorem zca.cons {P : Program} {t : TypeId} {ts : List TypeId} {xs : List PD} (h : zca P (t :: ts) xs) : ∃ x xs', xs = x :: xs' /\ za5 P t x /\ zca P ts xs' := by
 cases xs with
 | nil => rw [zca] at h; cases h
 | cons x xs =>
  rw [zca] at h
  obtain ⟨t', ts', e, h1, h2⟩ := h
  cases e
  exact ⟨x, xs, rfl, h1, h2⟩
theorem zca.nil {P : Program} {xs : List PD} (h : zca P [] xs) : xs = [] := by
 cases xs with
 | nil => rfl
 | cons x xs =>
  rw [zca] at h
  obtain ⟨t', ts', e, _⟩ := h
  cases e
theorem zde {α : Type} (c : α -> List T) : ∀ (xs : List PD), (∀ x ∈ xs, ∃ a, x.cells = c a) -> ∃ l : List α, PD.rows xs = l.map c
 | [], _ => ⟨[], rfl⟩
 | x :: xs, h => by
  obtain ⟨a, ha⟩ := h x (by simp)
  obtain ⟨l, hl⟩ := zde c xs fun y hy => h y (by simp [hy])
  exact ⟨a :: l, by rw [PD.rows, ha, hl]; rfl⟩
end Go.Proofs.Yteeaofpphmhjdaa
namespace Go.Proofs.Yteeaofpphmhjdaa
set_option linter.unusedSimpArgs false
set_option linter.unusedVariables false
set_option linter.unusedSectionVars false
set_option maxRecDepth 4000
def ab (n : Int) : Int := max n (-n)
theorem zw1 (n : Int) : ab (-n) = ab n := by unfold ab; omega
theorem ab_eq {a b : Int} : ab a = ab b ↔ a = b \/ a = -b := by unfold ab; omega
def zsp : Int -> List Int -> Bool
 | _, [] => true
 | p, l :: ls => decide (p < ab l) && decide (ab l <= 12) && zsp (ab l) ls
def pcl (c : List Int) : Bool := zsp 0 c
def zi8 (S : List (List Int)) : Bool := decide (S.length <= 40) && S.all pcl
abbrev Ris (c : List Int) : Prop := c.Pairwise fun a b => ab a < ab b
theorem zlt : ∀ (c : List Int) (p : Int), zsp p c = true ↔ (∀ l ∈ c, p < ab l /\ ab l <= 12) /\ Ris c
 | [], p => by simp [zsp, Ris]
 | l :: ls, p => by
  unfold zsp
  rw [Bool.and_eq_true, Bool.and_eq_true, decide_eq_true_eq, decide_eq_true_eq, zlt ls (ab l)]
  simp only [List.mem_cons, forall_eq_or_imp, Ris, List.pairwise_cons]
  constructor
  ·rintro ⟨⟨h1, h2⟩, h3, h4⟩
   exact ⟨⟨⟨h1, h2⟩, fun x hx => ⟨by have := h3 x hx; omega, (h3 x hx).2⟩⟩, fun x hx => (h3 x hx).1, h4⟩
  ·rintro ⟨⟨⟨h1, h2⟩, h3⟩, h4, h5⟩
   exact ⟨⟨h1, h2⟩, fun x hx => ⟨h4 x hx, (h3 x hx).2⟩, h5⟩
theorem zdo (c : List Int) : pcl c = true ↔ (∀ l ∈ c, 0 < ab l /\ ab l <= 12) /\ Ris c := zlt c 0
theorem zkb {c : List Int} (h : pcl c = true) {l : Int} (hl : l ∈ c) : 0 < ab l /\ ab l <= 12 := ((zdo c).1 h).1 l hl
theorem zyz {l : Int} (h : 0 < ab l /\ ab l <= 12) : l ≠ 0 /\ -12 <= l /\ l <= 12 := by unfold ab at h; omega
theorem zpo {c : List Int} (h : Ris c) : ∀ {a b : Int}, a ∈ c -> b ∈ c -> ab a = ab b -> a = b := by
 induction h with
 | nil => intro a b ha; simp at ha
 | cons h1 _ ih =>
  intro a b ha hb e
  rcases List.mem_cons.1 ha with ea | ha' <;> rcases List.mem_cons.1 hb with eb | hb'
  ·rw [ea, eb]
  ·have := h1 _ hb'; rw [ea] at e; omega
  ·have := h1 _ ha'; rw [eb] at e; omega
  ·exact ih ha' hb' e
theorem zoz {c : List Int} (h : pcl c = true) {l : Int} (hl : l ∈ c) : -l ∉ c := fun hn => by
 have := zpo ((zdo c).1 h).2 hl hn (zw1 l).symm
 have := (zyz (zkb h hl)).1
 omega
theorem zsg : ∀ {c : List Int} {p : Int}, 0 <= p -> p <= 12 -> zsp p c = true -> (c.length : Int) + p <= 12
 | [], p, h0, h1, _ => by simp; exact h1
 | l :: ls, p, h0, h1, h => by
  unfold zsp at h
  simp only [Bool.and_eq_true, decide_eq_true_eq] at h
  have := zsg (c := ls) (p := ab l) (by omega) h.1.2 h.2
  rw [List.length_cons]
  omega
theorem zef {c : List Int} (h : pcl c = true) : c.length <= 12 := by have := zsg (p := 0) (by omega) (by omega) h; omega
theorem zhw {S : List (List Int)} (h : zi8 S = true) {c : List Int} (hc : c ∈ S) : pcl c = true := by
 unfold zi8 at h
 rw [Bool.and_eq_true, List.all_eq_true] at h
 exact h.2 c hc
theorem zg5 {S : List (List Int)} (h : zi8 S = true) : S.length <= 40 := by
 unfold zi8 at h
 rw [Bool.and_eq_true, decide_eq_true_eq] at h
 exact h.1
def zgh : List Int -> Int -> List Int
 | [], x => [x]
 | y :: ys, x => if ab y < ab x then y :: zgh ys x else x :: y :: ys
theorem zd5 : ∀ (c : List Int) (x : Int), (zgh c x).Perm (x :: c)
 | [], x => List.Perm.refl _
 | y :: ys, x => by
  unfold zgh
  split
  ·exact ((zd5 ys x).cons y).trans (List.Perm.swap x y ys)
  ·exact List.Perm.refl _
theorem zog (c : List Int) (x : Int) : (c ++ [x]).Perm (zgh c x) := List.perm_append_comm.trans (zd5 c x).symm
theorem zhp {c : List Int} {x y : Int} : y ∈ zgh c x ↔ y = x \/ y ∈ c := by rw [(zd5 c x).mem_iff, List.mem_cons]
theorem zg2 : ∀ {c : List Int} {x : Int}, Ris c -> (∀ y ∈ c, ab y ≠ ab x) -> Ris (zgh c x)
 | [], x, _, _ => by simp [zgh, Ris]
 | y :: ys, x, h, hx => by
  have hy := List.pairwise_cons.1 h
  unfold zgh
  split
  next hlt =>
   refine List.pairwise_cons.2 ⟨fun z hz => ?_, zg2 hy.2 fun z hz => hx z (by simp [hz])⟩
   rcases zhp.1 hz with rfl | hz
   ·exact hlt
   ·exact hy.1 z hz
  next hlt =>
   have := hx y (by simp)
   refine List.pairwise_cons.2 ⟨fun z hz => ?_, h⟩
   rcases List.mem_cons.1 hz with rfl | hz
   ·omega
   ·have := hy.1 z hz; omega
theorem zu6 {c : List Int} {x : Int} (h : pcl c = true) (hx : 0 < ab x /\ ab x <= 12) (hn : ∀ y ∈ c, ab y ≠ ab x) : pcl (zgh c x) = true := by
 have h' := (zdo c).1 h
 refine (zdo _).2 ⟨fun l hl => ?_, zg2 h'.2 hn⟩
 rcases zhp.1 hl with rfl | hl
 ·exact hx
 ·exact h'.1 l hl
theorem zka (c : List Int) (x : Int) : (zgh c x).length = c.length + 1 := by rw [(zd5 c x).length_eq, List.length_cons]
theorem zoc {c d : List Int} (hp : c.Perm d) (hd : Ris d) (hc : c.Pairwise fun a b => ab a <= ab b) : c = d := by
 refine hp.eq_of_pairwise (le := fun a b => ab a <= ab b) (fun a b ha hb h1 h2 => zpo hd (hp.mem_iff.1 ha) hb (by omega)) hc (hd.imp fun h => by omega)
def asg : Int -> Nat -> Nat -> List Int
 | _, 0, _ => []
 | v, n + 1, k => (if k / 2 ^ n % 2 = 1 then -v else v) :: asg (v + 1) n k
end Go.Proofs.Yteeaofpphmhjdaa
namespace Go.Proofs.Yteeaofpphmhjdaa
set_option linter.unusedSimpArgs false
set_option linter.unusedVariables false
set_option linter.unusedSectionVars false
set_option maxRecDepth 4000
structure Ps where
 l : Int
 r : Int
 p : Int
 c : List Int
def ps0 : Ps := ⟨0, 0, 0, []⟩
def zon (v : Int) : List Int -> List Int -> List Int × Bool
 | out, [] => (out, true)
 | out, x :: xs => if (x == -v || out.contains x) = true then zon v out xs else if out.contains (-x) = true then ([], false) else zon v (zgh out x) xs
def zfl (a b : List Int) (v : Int) : List Int × Bool :=
 if (a.contains v && b.contains (-v)) = true then zon v (a.filter fun x => !(x == v)) b else ([], false)
def zse (v : Int) : List Int -> List Int -> Option (List Int)
 | out, [] => some out
 | out, x :: xs => if (x == v || x == -v || out.contains x) = true then zse v out xs else if out.contains (-x) = true then none else zse v (out ++ [x]) xs
theorem zfw {v : Int} (hv : v ≠ 0) : ∀ (a : List Int) (out b : List Int), Ris (out ++ a) -> -v ∉ a -> zse v out (a ++ b) = zse v (out ++ a.filter fun x => !(x == v)) b
 | [], out, b, _, _ => by simp
 | x :: a, out, b, h, hn => by
  have hx : x ≠ -v := fun e => hn (by rw [e]; simp)
  have hx' : (x == -v) = false := by simpa using hx
  have hout : ∀ y ∈ out, ab y < ab x := fun y hy => (List.pairwise_append.1 h).2.2 y hy x (by simp)
  have h1 : out.contains x = false := by
   rw [<- Bool.not_eq_true, List.contains_iff_mem]
   intro hm; have := hout x hm; omega
  have h2 : out.contains (-x) = false := by
   rw [<- Bool.not_eq_true, List.contains_iff_mem]
   intro hm; have := hout _ hm; rw [zw1] at this; omega
  rw [List.cons_append, zse, hx', h1, h2, List.filter_cons]
  cases hxv : x == v
  ·rw [if_neg (by simp), if_neg (by simp), Bool.not_false, if_pos rfl, zfw hv a (out ++ [x]) b (by rwa [List.append_assoc]) fun hm => hn (List.mem_cons_of_mem _ hm), List.append_assoc]
   rfl
  ·rw [if_pos (by simp), Bool.not_true, if_neg (by simp), zfw hv a out b (h.sublist (List.Sublist.append_left (List.sublist_cons_self x a) out)) fun hm => hn (List.mem_cons_of_mem _ hm)]
theorem zm4 {xs : List Int} {x : Int} (h : xs.contains x = false) : x ∉ xs := fun hm => by
 rw [List.contains_iff_mem.2 hm] at h; cases h
theorem zee {v : Int} : ∀ (b out out' : List Int), v ∉ b -> out'.Perm out -> Ris out -> match zse v out' b with
  | none => zon v out b = ([], false)
  | some r => ∃ o, zon v out b = (o, true) /\ r.Perm o /\ Ris o
 | [], out, out', _, hp, hr => ⟨out, rfl, hp, hr⟩
 | x :: b, out, out', hn, hp, hr => by
  have hxv : (x == v) = false := by
   rw [beq_eq_false_iff_ne]; exact fun e => hn (by rw [e]; simp)
  have c1 : out'.contains x = out.contains x := by
   rw [Bool.eq_iff_iff, List.contains_iff_mem, List.contains_iff_mem, hp.mem_iff]
  have c2 : out'.contains (-x) = out.contains (-x) := by
   rw [Bool.eq_iff_iff, List.contains_iff_mem, List.contains_iff_mem, hp.mem_iff]
  have hb : v ∉ b := fun h => hn (List.mem_cons_of_mem _ h)
  rw [zse, zon, hxv, c1, c2, Bool.false_or]
  cases h1 : (x == -v || out.contains x)
  ·rw [if_neg Bool.false_ne_true, if_neg Bool.false_ne_true]
   cases h2 : out.contains (-x)
   ·rw [if_neg Bool.false_ne_true, if_neg Bool.false_ne_true]
    rw [Bool.or_eq_false_iff] at h1
    refine zee b _ _ hb ((hp.append_right [x]).trans (zog out x)) (zg2 hr fun y hy e => ?_)
    rcases ab_eq.1 e with rfl | rfl
    ·exact zm4 h1.2 hy
    ·exact zm4 h2 hy
   ·rw [if_pos rfl, if_pos rfl]
  ·rw [if_pos rfl, if_pos rfl]
   exact zee b _ _ hb hp hr
theorem zua {a b : List Int} {v : Int} (ha : pcl a = true) (hb : pcl b = true) (hv : 1 <= v) (h1 : v ∈ a) (h2 : -v ∈ b) : match zse v [] (a ++ b) with
  | none => zfl a b v = ([], false)
  | some r => ∃ o, zfl a b v = (o, true) /\ r.Perm o /\ Ris o := by
 have hra := ((zdo a).1 ha).2
 have hl : zfl a b v = zon v (a.filter fun x => !(x == v)) b := by
  unfold zfl
  rw [if_pos (by rw [Bool.and_eq_true, List.contains_iff_mem, List.contains_iff_mem]; exact ⟨h1, h2⟩)]
 rw [hl, zfw (by omega) a [] b (by simpa using hra) (zoz ha h1), List.nil_append]
 refine zee b _ _ (fun h => ?_) (List.Perm.refl _) (hra.filter _)
 exact zoz hb h h2
theorem zha {v : Int} : ∀ (b out : List Int), (∀ l ∈ b, 0 < ab l /\ ab l <= 12) -> pcl out = true -> pcl (zon v out b).1 = true
 | [], out, _, h => h
 | x :: b, out, hb, h => by
  have hb' : ∀ l ∈ b, 0 < ab l /\ ab l <= 12 := fun l hl => hb l (List.mem_cons_of_mem _ hl)
  rw [zon]
  cases h1 : (x == -v || out.contains x)
  ·rw [if_neg (by simp)]
   rw [Bool.or_eq_false_iff] at h1
   cases h2 : out.contains (-x)
   ·rw [if_neg (by simp)]
    refine zha b _ hb' (zu6 h (hb x (by simp)) fun y hy e => ?_)
    rcases ab_eq.1 e with rfl | rfl
    ·exact zm4 h1.2 hy
    ·exact zm4 h2 hy
   ·rw [if_pos rfl]; rfl
  ·rw [if_pos rfl]
   exact zha b _ hb' h
theorem znp {a : List Int} (h : pcl a = true) (q : Int -> Bool) : pcl (a.filter q) = true := by
 have h' := (zdo a).1 h
 exact (zdo _).2 ⟨fun l hl => h'.1 l (List.mem_filter.1 hl).1, h'.2.filter _⟩
theorem zl6 {a b : List Int} (ha : pcl a = true) (hb : pcl b = true) (v : Int) : pcl (zfl a b v).1 = true := by
 unfold zfl
 split
 ·exact zha b _ (fun l hl => zkb hb hl) (znp ha _)
 ·rfl
def clA (S : List (List Int)) (st : List Ps) (i : Int) : List Int := if i < S.length then S.getD i.toNat [] else (st.getD (i.toNat - S.length) ps0).c
def inR (i n : Int) : Bool := decide (0 <= i) && decide (i <= n)
def zbb (S : List (List Int)) (st : List Ps) (k : Nat) : Bool :=
 let s := st.getD k ps0
 inR s.l (S.length + k - 1) && inR s.r (S.length + k - 1) && (decide (1 <= s.p) && decide (s.p <= 12)) && ((zfl (clA S st s.l) (clA S st s.r) s.p).2 && (zfl (clA S st s.l) (clA S st s.r) s.p).1 == s.c)
def chk (S : List (List Int)) (st : List Ps) : Int := match (List.range st.length).find? (fun k => !zbb S st k) with
 | some k => k
 | none => if (st.getD (st.length - 1) ps0).c.length > 0 then st.length else -1
theorem zig {S : List (List Int)} {st : List Ps} {k : Nat} (hk : k < st.length) (h : ∀ j < k, zbb S st j = true) (hb : zbb S st k = false) : chk S st = k := by
 have : (List.range st.length).find? (fun k => !zbb S st k) = some k := by
  rw [List.find?_eq_some_iff_append]
  refine ⟨by rw [hb]; rfl, List.range k, (List.range (st.length - k - 1)).map (k + 1 + ·), ?_, fun a ha => ?_⟩
  ·apply List.ext_getElem
   ·simp; omega
   ·intro i h1 h2
    rw [List.getElem_range]
    rw [List.getElem_append]
    split
    ·simp
    next hn =>
     simp only [List.length_range] at hn
     rw [List.getElem_cons]
     split
     next h0 => simp only [List.length_range] at h0; omega
     next h0 => simp only [List.length_range] at h0; simp; omega
  ·rw [h a (List.mem_range.1 ha)]; rfl
 unfold chk
 rw [this]
theorem zg4 {S : List (List Int)} {st : List Ps} (h : ∀ j < st.length, zbb S st j = true) : chk S st = if (st.getD (st.length - 1) ps0).c.length > 0 then (st.length : Int) else -1 := by
 have : (List.range st.length).find? (fun k => !zbb S st k) = none := by
  rw [List.find?_eq_none]
  intro x hx
  rw [h x (List.mem_range.1 hx)]; simp
 unfold chk
 rw [this]
theorem zg6 {S : List (List Int)} {st : List Ps} (h : chk S st = -1) : (∀ j < st.length, zbb S st j = true) /\ (st.getD (st.length - 1) ps0).c = [] := by
 cases hf : (List.range st.length).find? (fun k => !zbb S st k) with
 | some k =>
  unfold chk at h
  rw [hf] at h
  have h : (k : Int) = -1 := h
  omega
 | none =>
  rw [List.find?_eq_none] at hf
  have hs : ∀ j < st.length, zbb S st j = true := fun j hj => by
   have := hf j (List.mem_range.2 hj)
   simpa using this
  refine ⟨hs, ?_⟩
  rw [zg4 hs] at h
  split at h
  ·omega
  next hn => exact List.length_eq_zero_iff.1 (by omega)
theorem zcj {S : List (List Int)} {st : List Ps} {k : Nat} : zbb S st k = true ↔ (0 <= (st.getD k ps0).l /\ (st.getD k ps0).l < S.length + k) /\ (0 <= (st.getD k ps0).r /\ (st.getD k ps0).r < S.length + k) /\ (1 <= (st.getD k ps0).p /\ (st.getD k ps0).p <= 12) /\ (zfl (clA S st (st.getD k ps0).l) (clA S st (st.getD k ps0).r) (st.getD k ps0).p).2 = true /\ (zfl (clA S st (st.getD k ps0).l) (clA S st (st.getD k ps0).r) (st.getD k ps0).p).1 = (st.getD k ps0).c := by
 unfold zbb inR
 simp only [Bool.and_eq_true, decide_eq_true_eq, beq_iff_eq]
 constructor
 ·rintro ⟨⟨⟨⟨h1, h2⟩, h3, h4⟩, h5⟩, h6, h7⟩; exact ⟨⟨h1, by omega⟩, ⟨h3, by omega⟩, h5, h6, h7⟩
 ·rintro ⟨⟨h1, h2⟩, ⟨h3, h4⟩, h5, h6, h7⟩; exact ⟨⟨⟨⟨h1, by omega⟩, h3, by omega⟩, h5⟩, h6, h7⟩
theorem zer {S : List (List Int)} {st : List Ps} (hS : ∀ c ∈ S, pcl c = true) : ∀ {k : Nat}, (∀ j < k, zbb S st j = true) -> ∀ {i : Int}, 0 <= i -> i < S.length + k -> pcl (clA S st i) = true
 | k, h, i, h0, hi => by
  by_cases hn : i < S.length
  ·unfold clA
   rw [if_pos hn, List.getD_eq_getElem?_getD, List.getElem?_eq_getElem (show i.toNat < S.length by omega)]
   exact hS _ (List.getElem_mem _)
  ·have hj : i.toNat - S.length < k := by omega
   have hs := zcj.1 (h _ hj)
   have e : clA S st i = (st.getD (i.toNat - S.length) ps0).c := by unfold clA; rw [if_neg hn]
   rw [e, <- hs.2.2.2.2]
   exact zl6 (zer hS (fun j hj' => h j (Nat.lt_trans hj' hj)) hs.1.1 (by have := hs.1.2; omega)) (zer hS (fun j hj' => h j (Nat.lt_trans hj' hj)) hs.2.1.1 (by have := hs.2.1.2; omega)) _
 termination_by k => k
theorem zng {S : List (List Int)} {st ext : List Ps} {i : Int} (hi : i < S.length + st.length) : clA S (st ++ ext) i = clA S st i := by
 unfold clA
 split
 ·rfl
 next hn =>
  rw [List.getD_eq_getElem?_getD, List.getD_eq_getElem?_getD]
  by_cases h0 : 0 <= i
  ·rw [List.getElem?_append_left (by omega)]
  ·exfalso; omega
end Go.Proofs.Yteeaofpphmhjdaa
namespace Go.Proofs.Yteeaofpphmhjdaa
set_option linter.unusedSimpArgs false
set_option linter.unusedVariables false
set_option linter.unusedSectionVars false
set_option maxRecDepth 4000
def zh6 (n : Nat) (s : Ps) (k : Nat) (out : List Bool) : List Bool := if out.getD (n + k) false = true then (out.set s.l.toNat true).set s.r.toNat true else out
def ndB (n : Nat) (st : List Ps) : Nat -> List Bool -> List Bool
 | 0, out => out
 | k + 1, out => ndB n st k (zh6 n (st.getD k ps0) k out)
def nd0 (n m : Nat) : List Bool := (List.replicate (n + m) false).set (n + m - 1) true
def nd (n : Nat) (st : List Ps) : List Bool := ndB n st st.length (nd0 n st.length)
theorem zhy (n : Nat) (s : Ps) (k : Nat) (out : List Bool) : (zh6 n s k out).length = out.length := by unfold zh6; split <;> simp
theorem zsf (n : Nat) (st : List Ps) : ∀ (k : Nat) (out : List Bool), (ndB n st k out).length = out.length
 | 0, _ => rfl
 | k + 1, out => by rw [ndB, zsf n st k, zhy]
theorem zwg (n : Nat) (st : List Ps) : (nd n st).length = n + st.length := by unfold nd nd0; rw [zsf]; simp
theorem zcs (out : List Bool) (i j : Nat) (h : out.getD j false = true) : (out.set i true).getD j false = true := by
 rw [List.getD_eq_getElem?_getD] at h ⊢
 rw [List.getElem?_set]
 split
 ·split
  ·rfl
  next h1 h2 =>
   rw [List.getElem?_eq_none (by omega)] at h; cases h
 ·exact h
theorem zd0 (out : List Bool) (i : Nat) (h : i < out.length) : (out.set i true).getD i false = true := by
 rw [List.getD_eq_getElem?_getD, List.getElem?_set, if_pos rfl, if_pos h]; rfl
theorem zsx (n : Nat) (s : Ps) (k : Nat) (out : List Bool) (j : Nat) (h : out.getD j false = true) : (zh6 n s k out).getD j false = true := by
 unfold zh6
 split
 ·exact zcs _ _ _ (zcs _ _ _ h)
 ·exact h
theorem zhi (n : Nat) (st : List Ps) : ∀ (k : Nat) (out : List Bool) (j : Nat), out.getD j false = true -> (ndB n st k out).getD j false = true
 | 0, _, _, h => h
 | k + 1, out, j, h => by rw [ndB]; exact zhi n st k _ j (zsx n _ k out j h)
theorem zf6 (out : List Bool) (i j : Nat) (h : i ≠ j) : (out.set i true).getD j false = out.getD j false := by
 rw [List.getD_eq_getElem?_getD, List.getElem?_set_ne h, List.getD_eq_getElem?_getD]
theorem zli (n : Nat) (st : List Ps) : ∀ (k : Nat) (out : List Bool) (j : Nat), (∀ i < k, 0 <= (st.getD i ps0).l /\ (st.getD i ps0).l < n + i /\ 0 <= (st.getD i ps0).r /\ (st.getD i ps0).r < n + i) -> n + k <= j + 1 -> (ndB n st k out).getD j false = out.getD j false
 | 0, _, _, _, _ => rfl
 | k + 1, out, j, h, hj => by
  have hk := h k (by omega)
  rw [ndB, zli n st k _ j (fun i hi => h i (by omega)) (by omega)]
  unfold zh6
  split
  ·rw [zf6 _ _ _ (by omega), zf6 _ _ _ (by omega)]
  ·rfl
theorem zoy (n : Nat) (st : List Ps) : ∀ (k : Nat) (out : List Bool), out.length = n + st.length -> k <= st.length -> (∀ i < k, 0 <= (st.getD i ps0).l /\ (st.getD i ps0).l < n + i /\ 0 <= (st.getD i ps0).r /\ (st.getD i ps0).r < n + i) -> ∀ i < k, (ndB n st k out).getD (n + i) false = true -> (ndB n st k out).getD (st.getD i ps0).l.toNat false = true /\ (ndB n st k out).getD (st.getD i ps0).r.toNat false = true
 | 0, _, _, _, _, i, hi, _ => by omega
 | k + 1, out, hl, hkl, h, i, hi, hm => by
  rw [ndB] at hm ⊢
  by_cases hik : i < k
  ·exact zoy n st k _ (by rw [zhy, hl]) (by omega) (fun i hi => h i (by omega)) i hik hm
  ·have e : i = k := by omega
   subst e
   have hk := h i (by omega)
   rw [zli n st i _ (n + i) (fun j hj => h j (by omega)) (by omega)] at hm
   have ho : out.getD (n + i) false = true := by
    unfold zh6 at hm
    split at hm
    next h1 => exact h1
    next h1 => exact hm
   have e : zh6 n (st.getD i ps0) i out = (out.set (st.getD i ps0).l.toNat true).set (st.getD i ps0).r.toNat true := by unfold zh6; rw [if_pos ho]
   rw [e]
   exact ⟨zhi n st i _ _ (zcs _ _ _ (zd0 _ _ (by omega))), zhi n st i _ _ (zd0 _ _ (by rw [List.length_set]; omega))⟩
theorem zmn {S : List (List Int)} {st : List Ps} (h : ∀ j < st.length, zbb S st j = true) : ∀ i < st.length, 0 <= (st.getD i ps0).l /\ (st.getD i ps0).l < S.length + i /\ 0 <= (st.getD i ps0).r /\ (st.getD i ps0).r < S.length + i := fun i hi => by
 have := zcj.1 (h i hi)
 exact ⟨this.1.1, this.1.2, this.2.1.1, this.2.1.2⟩
theorem zw6 {S : List (List Int)} {st : List Ps} (h : ∀ j < st.length, zbb S st j = true) : ∀ i < st.length, (nd S.length st).getD (S.length + i) false = true -> (nd S.length st).getD (st.getD i ps0).l.toNat false = true /\ (nd S.length st).getD (st.getD i ps0).r.toNat false = true :=
 zoy S.length st st.length _ (by unfold nd0; simp) (Nat.le_refl _) (zmn h)
def rk (n : Nat) (nd : List Bool) (k : Nat) : Nat := (List.range k).countP fun j => nd.getD (n + j) false
def zs8 (n : Nat) (nd : List Bool) (i : Int) : Int := if i < n then i else n + rk n nd (i.toNat - n)
def trS (n : Nat) (nd : List Bool) (s : Ps) : Ps := ⟨zs8 n nd s.l, zs8 n nd s.r, s.p, s.c⟩
def trF (n : Nat) (nd : List Bool) (st : List Ps) : Nat -> List Ps
 | 0 => []
 | k + 1 => trF n nd st k ++ if nd.getD (n + k) false = true then [trS n nd (st.getD k ps0)] else []
def trm (S : List (List Int)) (st : List Ps) : List Ps := trF S.length (nd S.length st) st st.length
theorem zys (n : Nat) (nd : List Bool) (k : Nat) : rk n nd (k + 1) = rk n nd k + if nd.getD (n + k) false = true then 1 else 0 := by
 unfold rk
 rw [List.range_succ, List.countP_append, List.countP_singleton]
theorem zhx (n : Nat) (nd : List Bool) (st : List Ps) : ∀ k, (trF n nd st k).length = rk n nd k
 | 0 => rfl
 | k + 1 => by
  rw [trF, List.length_append, zhx n nd st k, zys]
  split <;> rfl
theorem zx9 (n : Nat) (nd : List Bool) (k : Nat) : rk n nd k <= k := by
 unfold rk
 have := List.countP_le_length (p := fun j => nd.getD (n + j) false) (l := List.range k)
 rwa [List.length_range] at this
theorem zxu (S : List (List Int)) (st : List Ps) : (trm S st).length <= st.length := by unfold trm; rw [zhx]; exact zx9 _ _ _
end Go.Proofs.Yteeaofpphmhjdaa
namespace Go.Proofs.Yteeaofpphmhjdaa
set_option linter.unusedSimpArgs false
set_option linter.unusedVariables false
set_option linter.unusedSectionVars false
set_option maxRecDepth 4000
open Go.RowKit
def inB (n lo hi : Int) : Bool := decide (lo <= n) && decide (n <= hi)
theorem zdx (n lo hi : Int) : FC Try.prog 71 [iD n, iD lo, iD hi] [bD (inB n lo hi)] := by
 unfold inB
 refine zay Try.call71 Try.func71 rfl (by kernel_rfl) (zbj (by kernel_rfl)) ?_
 simp -implicitDefEqProofs only [go_sem, Try.results71]
 refine ⟨fun h => ?_, fun h => ?_⟩ <;> simp at h ⊢ <;> omega
theorem ziw (n lo hi : Int) : FC Try.prog 49 [iD n, iD lo, iD hi] [bD (inB n lo hi)] := by
 unfold inB
 refine zay Try.call49 Try.func49 rfl (by kernel_rfl) (zbj (by kernel_rfl)) ?_
 simp -implicitDefEqProofs only [go_sem, Try.results49]
 refine ⟨fun h => ?_, fun h => ?_⟩ <;> simp at h ⊢ <;> omega
end Go.Proofs.Yteeaofpphmhjdaa
namespace Go.Proofs.Yteeaofpphmhjdaa
set_option linter.unusedSimpArgs false
set_option linter.unusedVariables false
set_option linter.unusedSectionVars false
set_option maxRecDepth 4000
open Go.RowKit
theorem zow {α : Type} [BEq α] [LawfulBEq α] {xs : List α} {s : α} {k : Nat} (hk : k < xs.length) (hn : s ∉ xs.take k) (e : xs[k] = s) : xs.idxOf s = k := by
 have h : xs = xs.take k ++ xs.drop k := (List.take_append_drop k xs).symm
 rw [List.drop_eq_getElem_cons hk] at h
 rw [h, List.idxOf_append, if_neg hn, e]
 rw [show (s :: xs.drop (k + 1)).idxOf s = 0 from List.idxOf_cons_self ..]
 simp; omega
theorem zd6 {α : Type} {xs : List α} {s : α} {k : Nat} (hk : k < xs.length) (hn : s ∉ xs.take k) (e : xs[k] ≠ s) : s ∉ xs.take (k + 1) := by
 rw [List.take_succ_eq_append_getElem hk]
 simp only [List.mem_append, List.mem_singleton, not_or]
 exact ⟨hn, fun h => e h.symm⟩
def idxS {α : Type} [BEq α] (xs : List α) (s : α) : Int := if xs.contains s then xs.idxOf s else -1
end Go.Proofs.Yteeaofpphmhjdaa
namespace Go.Proofs.Yteeaofpphmhjdaa
set_option linter.unusedSimpArgs false
set_option linter.unusedVariables false
set_option linter.unusedSectionVars false
set_option maxRecDepth 4000
open Go.RowKit Go.Sort Go.Proofs
variable {P : Program}
structure CloneOf (P : Program) (f : FuncId) (sz bytes : Nat) : Prop where
 call : za0 P f
 old : ∀ (ad : Addr) (n c : Nat) (news : List Value) (w : World), news.length = n * sz -> n <= maxLen -> n * bytes <= 140737488355328 -> (∀ j u, news[j]? = some u -> w.cell? (ad.add j) = some u) -> (∀ u ∈ news, u.oneCell' = true) →
  Calls P f #[.slice (some ad) n c] w fun e w' => ∃ t v', e = .returned v' /\ w'.ownsRow w.heap.size t sz v' n news /\ v' ≠ .slice none 0 0 /\ Below w.heap.size w w'
 none : ∀ (n c : Nat) (w : World), Calls P f #[.slice none n c] w fun e w' => e = .returned (.slice none 0 0) /\ w' = w
theorem zah.valsA {w : World} {A : Nat -> Prop} {b sz : Nat} {rows : List (List T)} {o : Nat} (h : zah w A b o sz rows) : ∃ vs, vs.length = rows.length * sz /\ (∀ j u, vs[j]? = some u -> w.cell? ⟨b, o + j, none⟩ = some u) /\ zaa w A rows.flatten vs /\ lens sz rows := by
 obtain ⟨h1, vs, h2, h3, h4⟩ := h.vals
 exact ⟨vs, h2, h3, h4, h1⟩
theorem zqq {f : FuncId} {sz bytes : Nat} (h : CloneOf P f sz bytes) (rows : List (List T)) (hb : rows.length * bytes <= 140737488355328) {w : World} {A : Nat -> Prop} {v : Value} (h1 : zag w A (.sl sz rows) v) :
  Calls P f #[v] w fun e w' => ∃ v', e = .returned v' /\ Below w.heap.size w w' /\ ((v' = .slice none 0 0 /\ rows = []) \/ ∃ g cap cur ty vs, v' = .slice (some ⟨g, 0, none⟩) rows.length cap /\ w.heap.size <= g /\ w'.heap[g]? = some (.cells cur ty (0, 0)) /\ rows.length <= cap /\ cap <= zc5 /\ cur.size = cap * sz /\ cur.toList.take (rows.length * sz) = vs /\ zaa w A rows.flatten vs /\ lens sz rows) := by
 unfold zag at h1
 obtain ⟨ao, cap, rfl, q1, q2, q3⟩ := h1
 cases ao with
 | none =>
  have hr : rows = [] := q3.resolve_right fun ⟨b, o, e, _⟩ => by cases e
  refine (h.none rows.length cap w).mono ?_
  rintro e w' ⟨rfl, rfl⟩
  exact ⟨_, rfl, Below.refl _ _, Or.inl ⟨rfl, hr⟩⟩
 | some ad =>
  have hx : ∃ news : List Value, news.length = rows.length * sz /\ (∀ j u, news[j]? = some u -> w.cell? (ad.add j) = some u) /\ zaa w A rows.flatten news /\ lens sz rows := by
   rcases q3 with rfl | ⟨b', o', e, _, q4⟩
   ·exact ⟨[], by simp, fun j u hj => by simp at hj, by unfold zaa; rfl, fun r hr => by simp at hr⟩
   ·cases e
    obtain ⟨news, k1, k2, k3, k4⟩ := q4.valsA
    exact ⟨news, k1, fun j u hj => by rw [zcz]; exact k2 j u hj, k3, k4⟩
  obtain ⟨news, k1, k2, k3, k4⟩ := hx
  refine (h.old ad rows.length cap news w k1 (by unfold maxLen; have := q2; unfold zc5 at this; omega) hb k2 k3.one).mono ?_
  rintro e w' ⟨t, v', rfl, ⟨o1, o2⟩, hn, hbel⟩
  refine ⟨v', rfl, hbel, Or.inr ?_⟩
  rcases o2 with ⟨e, _⟩ | ⟨g, cap', cur, e, p1, p2, p3, p4, p5, p6⟩
  ·exact absurd e hn
  ·exact ⟨g, cap', cur, t, news, e, p1, p2, p3, by unfold maxLen at p4; omega, p5, p6, k3, k4⟩
theorem zy4 {cur : Array Value} {vs : List Value} {n : Nat} (h : cur.toList.take n = vs) : ∀ j u, vs[j]? = some u -> cur[0 + j]? = some u := fun j u hu => by
 rw [<- h, List.getElem?_take] at hu
 split at hu
 ·simpa using hu
 ·cases hu
theorem ztr {f : FuncId} {sz bytes : Nat} (h : CloneOf P f sz bytes) (rows : List (List T)) (hb : rows.length * bytes <= 140737488355328) (hf : ∀ c ∈ rows.flatten, c.flat = true) : FC P f [.one (.sl sz rows)] [.one (.sl sz rows)] := by
 refine ⟨h.call, fun w vs fp tp hv hn => ?_⟩
 obtain ⟨hr, rfl, rfl⟩ := zbq hv
 obtain ⟨v, _, rfl, h1, rfl⟩ := hr
 refine (zqq h rows hb h1).mono ?_
 rintro e w' ⟨v', rfl, hbel, hh⟩
 have hB : Bk (fun k => k < w.heap.size /\ k ∉ ([] : List Nat)) w w' := ⟨hbel.os, hbel.tape, hbel.output, hbel.size, fun k hk => hbel.block k hk.1⟩
 rcases hh with ⟨rfl, hr⟩ | ⟨g, cap, cur, ty, vs, rfl, p1, p2, p3, p4, p5, p6, p7, p8⟩
 ·subst hr
  refine ⟨[_], [], [], rfl, ⟨_, [], [], [], [], [], rfl, rfl, rfl, ⟨?_, rfl⟩, rfl, rfl, rfl⟩, List.nodup_nil, by simp, hB⟩
  unfold zap
  exact ⟨Option.none, 0, rfl, Nat.le_refl _, by simp, Or.inl ⟨rfl, rfl, rfl, rfl⟩⟩
 ·refine ⟨[_], [g], [g], rfl, ⟨_, [], [g], [], [g], [], rfl, rfl, rfl, ⟨?_, rfl⟩, rfl, rfl, rfl⟩, by simp, fun b hb => by rw [List.mem_singleton.1 hb]; exact Or.inr p1, hB⟩
  unfold zap
  refine ⟨_, cap, rfl, p3, p4, Or.inr ⟨g, cur, ty, [], rfl, rfl, p2, p5, ?_⟩⟩
  have hown := zaa.own p7 hf
  exact zad.of_vals p8 (zao.keep hown fun b hb => by simp at hb) fun j u hu => zy4 p6 j u hu
end Go.Proofs.Yteeaofpphmhjdaa
namespace Go.Proofs.Yteeaofpphmhjdaa
set_option linter.unusedSimpArgs false
set_option linter.unusedVariables false
set_option linter.unusedSectionVars false
set_option maxRecDepth 4000
open Go.RowKit
theorem zyf {P : Program} {t : TypeId} {n b : Nat} {z : List C} (h1 : za9 P t = some n) (h2 : zcf P t = some b) (h3 : zcc P t = some z) (h4 : z.length = n) : ∃ i0 zv, P.info? t = some i0 /\ i0.zero = some zv /\ zv.cells.size = n /\ i0.size = n /\ i0.bytes = b := by
 unfold za9 at h1
 unfold zcf at h2
 unfold zcc at h3
 cases hi : P.info? t with
 | none => rw [hi] at h1; cases h1
 | some i =>
  rw [hi] at h1 h2 h3
  simp only [Option.map_some, Option.some.injEq] at h1 h2
  simp only [Option.bind_some] at h3
  cases hz : i.zero with
  | none => rw [hz] at h3; cases h3
  | some zv =>
   rw [hz] at h3
   simp only [Option.map_some, Option.some.injEq] at h3
   refine ⟨i, zv, rfl, hz, ?_, h1, h2⟩
   rw [<- h4, <- h3]; simp
abbrev zba (xs : List Int) : T := .sl 1 (xs.map fun s => [.int .i64 s])
theorem zoi (xs : List Int) (s : Int) : FC Try.prog 118 [.one (zba xs), iD s] [iD (idxS xs s)] := by
 refine zd2 (fun hw => ?_) Try.call118
 have hl : xs.length <= 9223372036854775807 := by simpa [zl1, wfT] using hw.1.1
 refine zay Try.call118 Try.func118 rfl (by kernel_rfl) (zbj (by kernel_rfl)) ?_
 simp -implicitDefEqProofs only [go_sem, Try.results118]
 refine zaj (fun k : Nat => hd [(0, vT (zba xs)), (1, vT (.int .i64 s)), (7, vI xs.length), (8, vI k)] [] []) (fun k => k <= xs.length /\ s ∉ xs.take k) (fun k => xs.length - k) 0 (zac ?_) ?_ ?_
 ·simp -implicitDefEqProofs only [go_sem]
 ·simp
 ·intro k ⟨hk, hr⟩
  by_cases hlt : k < xs.length
  ·simp -implicitDefEqProofs only [go_sem, zaf, hlt]
   refine ⟨fun h => ?_, fun h => ?_⟩
   ·have e : xs[k] = s := (beq_iff_eq.1 h).symm
    have hm : s ∈ xs := e ▸ List.getElem_mem hlt
    rw [idxS, if_pos (by simpa using hm), zow hlt hr e]
   ·have e : xs[k] ≠ s := fun e => by simp [e] at h
    exact ⟨k + 1, ⟨hlt, zd6 hlt hr e⟩, by omega, zac (by simp -implicitDefEqProofs only [go_sem]; rw [zav (by omega)])⟩
  ·simp -implicitDefEqProofs only [go_sem, hlt]
   rw [List.take_of_length_le (by omega)] at hr
   rw [idxS, if_neg (by simpa using hr)]
theorem zb6 (xs : List Int) (s : Int) : FC Try.prog 103 [.one (zba xs), iD s] [bD (xs.contains s)] := by
 refine zay Try.call103 Try.func103 rfl (by kernel_rfl) (zbj (by kernel_rfl)) ?_
 simp -implicitDefEqProofs only [go_sem, Try.results103]
 refine callF (zoi xs s) (by simp -implicitDefEqProofs only [go_sem]) ?_
 simp -implicitDefEqProofs only [go_sem]
 unfold idxS
 cases h : xs.contains s <;> simp
end Go.Proofs.Yteeaofpphmhjdaa
namespace Go.Proofs.Yteeaofpphmhjdaa
set_option linter.unusedSimpArgs false
set_option linter.unusedVariables false
set_option linter.unusedSectionVars false
set_option maxRecDepth 4000
open Go.RowKit
theorem zvj (σ : St) (caps : List T) : VDs σ (caps.map fun t => .one (.t t)) (caps.map .one) = True := by
 induction caps with
 | nil => simp [VDs]
 | cons t ts ih => rw [List.map_cons, List.map_cons, zm6, ih]; simp [zwp, CT_t]
attribute [go_sem] zvj
def zxd {α : Type} (xs : List α) (p : α -> Bool) : Int := if xs.any p then xs.findIdx p else -1
theorem zoj {α : Type} {xs : List α} {p : α -> Bool} {k : Nat} (hk : k < xs.length) (hn : ∀ x ∈ xs.take k, p x = false) (h : p xs[k] = true) : zxd xs p = k := by
 have ha : xs.any p = true := List.any_eq_true.2 ⟨xs[k], List.getElem_mem hk, h⟩
 have hf : xs.findIdx p = k := (List.findIdx_eq hk).2 ⟨h, fun j hj => hn _ (by
  rw [List.mem_take_iff_getElem]; exact ⟨j, by omega, rfl⟩)⟩
 rw [zxd, if_pos ha, hf]
theorem zpf {α : Type} {xs : List α} {p : α -> Bool} (hn : ∀ x ∈ xs, p x = false) : zxd xs p = -1 := by
 have ha : xs.any p = false := by rw [List.any_eq_false]; exact fun x hx => by simp [hn x hx]
 rw [zxd, ha]; rfl
theorem ztu {α : Type} (xs : List α) (p : α -> Bool) : decide (0 <= zxd xs p) = xs.any p := by
 unfold zxd
 cases xs.any p <;> simp
theorem zg8 {α : Type} {xs : List α} {p : α -> Bool} {k : Nat} (hk : k < xs.length) (hn : ∀ x ∈ xs.take k, p x = false) (h : p xs[k] = false) : ∀ x ∈ xs.take (k + 1), p x = false := by
 rw [List.take_succ_eq_append_getElem hk]
 intro x hx
 rcases List.mem_append.1 hx with hx | hx
 ·exact hn x hx
 ·rw [List.mem_singleton.1 hx]; exact h
end Go.Proofs.Yteeaofpphmhjdaa
namespace Go.Proofs.Yteeaofpphmhjdaa
set_option linter.unusedSimpArgs false
set_option linter.unusedVariables false
set_option linter.unusedSectionVars false
set_option maxRecDepth 4000
open Go.RowKit
abbrev za6 (S : List (List Int)) : T := .sl 1 (S.map fun s => [zba s])
def psC (s : Ps) : List T := [.int .i64 s.l, .int .i64 s.r, .int .i64 s.p, .sl 1 (s.c.map fun s => [.int .i64 s])]
theorem zaz (s : Ps) : psC s = [.int .i64 s.l, .int .i64 s.r, .int .i64 s.p, .sl 1 (s.c.map fun s => [.int .i64 s])] := rfl
abbrev psD (s : Ps) : D := .agg (psC s)
abbrev psS (xs : List Ps) : T := .sl 4 (xs.map psC)
theorem zgs (n : Int) (h : -4611686018427387904 <= n /\ n <= 4611686018427387904) : FC Try.prog 96 [iD n] [iD (ab n)] := by
 refine zay Try.call96 Try.func96 rfl (by kernel_rfl) (zbj (by kernel_rfl)) ?_
 simp -implicitDefEqProofs only [go_sem, Try.results96]
 rw [zaq (by omega) (by omega)]
 exact zwl (by unfold ab; omega)
theorem zlr (n : Int) (h : -4611686018427387904 <= n /\ n <= 4611686018427387904) : FC Try.prog 98 [iD n] [iD (ab n)] := by
 refine zay Try.call98 Try.func98 rfl (by kernel_rfl) (zbj (by kernel_rfl)) ?_
 simp -implicitDefEqProofs only [go_sem, Try.results98]
 rw [zaq (by omega) (by omega)]
 refine ⟨fun h => ?_, fun h => ?_⟩ <;> simp at h <;> exact zwl (by unfold ab; omega)
theorem ze6 (n : Int) : FC Try.prog 113 [iD n] [bD (inB n 1 12)] := by
 refine zay Try.call113 Try.func113 rfl (by kernel_rfl) (zbj (by kernel_rfl)) ?_
 simp -implicitDefEqProofs only [go_sem, Try.results113]
 refine callF (zdx n 1 12) (by simp -implicitDefEqProofs only [go_sem]) ?_
 simp -implicitDefEqProofs only [go_sem]
def pv (c : List Int) (k : Nat) : Int := if k = 0 then 0 else ab (c.getD (k - 1) 0)
theorem zot (c : List Int) {k : Nat} (h : k < c.length) : pv c (k + 1) = ab c[k] := by
 unfold pv
 rw [if_neg (by omega), Nat.add_sub_cancel, List.getD_eq_getElem?_getD, List.getElem?_eq_getElem h]; rfl
theorem ab_in {l : Int} (h : -12 <= l /\ l <= 12) (h0 : l ≠ 0) : 0 < ab l /\ ab l <= 12 := by unfold ab; omega
theorem zci (c : List Int) : FC Try.prog 55 [.one (zba c)] [bD (pcl c)] := by
 refine zd2 (fun hw => ?_) Try.call55
 have hl : c.length <= 9223372036854775807 := by have := hw.1.1; simpa using this
 refine zay Try.call55 Try.func55 rfl (by kernel_rfl) (zbj (by kernel_rfl)) ?_
 simp -implicitDefEqProofs only [go_sem, Try.results55]
 refine zaj (fun k : Nat => hd [(0, vT (zba c)), (5, vT (zba c)), (6, vI c.length), (7, vI k)] [] []) (fun k => k <= c.length /\ pcl c = zsp (pv c k) (c.drop k) /\ (0 < k -> -12 <= c.getD (k - 1) 0 /\ c.getD (k - 1) 0 <= 12)) (fun k => c.length - k) 0 (zac ?_) ?_ ?_
 ·simp -implicitDefEqProofs only [go_sem]
 ·exact ⟨Nat.zero_le _, rfl, fun h => absurd h (by omega)⟩
 ·intro k ⟨hk, hr, hpr⟩
  by_cases hlt : k < c.length
  ·have hsu := zot c hlt
   have hgd : c.getD k 0 = c[k] := by rw [List.getD_eq_getElem?_getD, List.getElem?_eq_getElem hlt]; rfl
   rw [List.drop_eq_getElem_cons hlt] at hr
   unfold zsp at hr
   have HW := zdx c[k] (-12) 12
   cases h0 : (c[k] == (0 : Int))
   ·have h0' : c[k] ≠ 0 := by simpa using h0
    cases hwi : inB c[k] (-12) 12
    ·rw [hwi] at HW
     have hno : ¬ ab c[k] <= 12 := by
      unfold inB at hwi
      simp only [Bool.and_eq_false_iff, decide_eq_false_iff_not] at hwi
      unfold ab; omega
     simp -implicitDefEqProofs only [go_sem, zaf, hlt, h0]
     refine callF (HW) (by simp -implicitDefEqProofs only [go_sem]) ?_
     simp -implicitDefEqProofs only [go_sem]
     rw [hr, show decide (ab c[k] <= 12) = false by simpa using hno]; simp
    ·rw [hwi] at HW
     have hin : -12 <= c[k] /\ c[k] <= 12 := by
      unfold inB at hwi
      simpa using hwi
     have hab := ab_in hin h0'
     have HA := zgs c[k] (by omega)
     by_cases hk0 : k = 0
     ·have hkf : ((0 : Int) < (k : Int)) = False := by simp; omega
      simp -implicitDefEqProofs only [go_sem, zaf, hlt, h0]
      refine callF (HW) (by simp -implicitDefEqProofs only [go_sem, hkf]) ?_
      simp -implicitDefEqProofs only [go_sem, hkf]
      rw [zav (by omega)]
      refine ⟨k + 1, ⟨hlt, ?_, fun _ => ?_⟩, by omega, zac (by simp -implicitDefEqProofs only [go_sem])⟩
      ·have hpv : pv c k = 0 := by unfold pv; rw [if_pos hk0]
       rw [hr, hsu, hpv, show decide (0 < ab c[k]) = true by simpa using hab.1, show decide (ab c[k] <= 12) = true by simpa using hab.2]; rfl
      ·rw [Nat.add_sub_cancel, hgd]; exact hin
     ·have hkp : (0 : Int) < k := by omega
      have hk1 : k - 1 < c.length := by omega
      have hw1 : IntKind.i64.wrap ((k : Int) - 1) = ((k - 1 : Nat) : Int) := by rw [zaq (by omega) (by omega)]; omega
      have hg1 : c.getD (k - 1) 0 = c[k - 1] := by rw [List.getD_eq_getElem?_getD, List.getElem?_eq_getElem hk1]; rfl
      have hp1 := hpr (by omega)
      rw [hg1] at hp1
      have HB := zgs c[k - 1] (by omega)
      have hpv : pv c k = ab c[k - 1] := by unfold pv; rw [if_neg hk0, hg1]
      rw [hpv] at hr
      simp -implicitDefEqProofs only [go_sem, zaf, hlt, h0]
      refine callF (HW) (by simp -implicitDefEqProofs only [go_sem, hkp, hw1, hk1, zaf]) ?_
      simp -implicitDefEqProofs only [go_sem, hkp, hw1, hk1, zaf]
      refine callF (HB) (by simp -implicitDefEqProofs only [go_sem]) ?_
      simp -implicitDefEqProofs only [go_sem]
      refine callF (HA) (by simp -implicitDefEqProofs only [go_sem]) ?_
      simp -implicitDefEqProofs only [go_sem]
      rw [zav (by omega)]
      refine ⟨fun h => ?_, fun h => ⟨k + 1, ⟨hlt, ?_, fun _ => ?_⟩, by omega, zac (by simp -implicitDefEqProofs only [go_sem])⟩⟩
      ·have : ¬ ab c[k - 1] < ab c[k] := by simp at h; omega
       rw [hr, show decide (ab c[k - 1] < ab c[k]) = false by simpa using this]; simp
      ·have : ab c[k - 1] < ab c[k] := by simp at h; omega
       rw [hr, hsu, show decide (ab c[k - 1] < ab c[k]) = true by simpa using this, show decide (ab c[k] <= 12) = true by simpa using hab.2]; rfl
      ·rw [Nat.add_sub_cancel, hgd]; exact hin
   ·have h0' : c[k] = 0 := by simpa using h0
    have hpv : 0 <= pv c k := by unfold pv ab; split <;> omega
    simp -implicitDefEqProofs only [go_sem, zaf, hlt, h0]
    rw [hr, show decide (pv c k < ab c[k]) = false by rw [h0']; unfold ab; simpa using hpv]; simp
  ·simp -implicitDefEqProofs only [go_sem, hlt]
   rw [hr, List.drop_of_length_le (by omega)]; rfl
end Go.Proofs.Yteeaofpphmhjdaa
namespace Go.Proofs.Yteeaofpphmhjdaa
set_option linter.unusedSimpArgs false
set_option linter.unusedVariables false
set_option linter.unusedSectionVars false
set_option maxRecDepth 4000
open Go.RowKit
abbrev issD (l : List (List Int)) : D := .one (za6 l)
abbrev pssD (l : List Ps) : D := .one (psS l)
theorem zrv {d : PD} (h : za5 Try.prog 27 d) : ∃ l : List Int, d.cells = [zba l] := by
 obtain ⟨xs, rfl, hx⟩ := h.sl Try.underlying27
 obtain ⟨l, hl⟩ := zde (fun s : Int => [T.int .i64 s]) xs fun x hx' => by
  obtain ⟨n, rfl⟩ := (hx x hx').int Try.underlying3
  exact ⟨n, by rw [PD.cells]⟩
 exact ⟨l, by rw [PD.cells, hl, show Try.prog.cellsOf 3 = 1 from by kernel_rfl]⟩
theorem ztj {d : PD} (h : za5 Try.prog 24 d) : ∃ l : List (List Int), d.cells = [za6 l] := by
 obtain ⟨xs, rfl, hx⟩ := h.sl Try.underlying24
 obtain ⟨l, hl⟩ := zde (fun s => [zba s]) xs fun x hx' => zrv (hx x hx')
 exact ⟨l, by rw [PD.cells, hl, show Try.prog.cellsOf 27 = 1 from by kernel_rfl]⟩
theorem zlf {d : PD} (h : za5 Try.prog 103 d) : ∃ s : Ps, d.cells = psC s := by
 obtain ⟨fs, rfl, hf⟩ := h.st Try.underlying103
 have hf : zca Try.prog [3, 3, 3, 27] fs := hf
 obtain ⟨x1, r1, rfl, h1, hf⟩ := hf.cons
 obtain ⟨x2, r2, rfl, h2, hf⟩ := hf.cons
 obtain ⟨x3, r3, rfl, h3, hf⟩ := hf.cons
 obtain ⟨x4, r4, rfl, h4, hf⟩ := hf.cons
 obtain rfl := hf.nil
 obtain ⟨a, rfl⟩ := h1.int Try.underlying3
 obtain ⟨b, rfl⟩ := h2.int Try.underlying3
 obtain ⟨c, rfl⟩ := h3.int Try.underlying3
 obtain ⟨l, hl⟩ := zrv h4
 exact ⟨⟨a, b, c, l⟩, by
  rw [zaz, PD.cells, PD.flat, PD.flat, PD.flat, PD.flat, PD.flat, hl, PD.cells, PD.cells, PD.cells]; rfl⟩
theorem zi6 {d : PD} (h : za5 Try.prog 46 d) : ∃ l : List Ps, d.cells = [psS l] := by
 obtain ⟨xs, rfl, hx⟩ := h.sl Try.underlying46
 obtain ⟨l, hl⟩ := zde psC xs fun x hx' => zlf (hx x hx')
 exact ⟨l, by rw [PD.cells, hl, show Try.prog.cellsOf 103 = 4 from by kernel_rfl]⟩
end Go.Proofs.Yteeaofpphmhjdaa
namespace Go.Proofs.Yteeaofpphmhjdaa
set_option linter.unusedSimpArgs false
set_option linter.unusedVariables false
set_option linter.unusedSectionVars false
set_option maxRecDepth 4000
open Go.RowKit
attribute [local go_sem] Oper.semAt_some
set_option maxHeartbeats 1000000 in
theorem zry : zr0 Try.prog 115 131 := by
 refine ⟨Try.call115, fun a len cap w => ?_⟩
 refine callsIn_wide.1 (callsIn_of_wp (n := 0) Try.func115 rfl trivial ?_ rfl)
 simp only [Try.ntmps115, List.size_toArray, List.length_cons, List.length_nil, Nat.reduceAdd, Nat.reduceSub, Array.replicate_succ, Array.replicate_zero, List.push_toArray, List.append_toArray, List.nil_append, List.cons_append]
 gi_wp2
 go_ret
 exact ⟨_, rfl, rfl⟩
set_option maxRecDepth 100000 in
set_option maxHeartbeats 2000000 in
theorem zvz : zmx Try.prog 131 true 4 := by
 intro l Bs n W J hmax hlen0 hrd h0
 obtain ⟨ao, cap, hBs⟩ := hlen0 W h0
 have hmax : n <= 9223372036854775807 := hmax
 have hw1 : IntKind.i64.wrap ((n : Int) - 1) = (n : Int) - 1 := by rw [IntKind.wrap_i64]; omega
 have hro : (FR none).round = none := rfl
 refine callsIn_of_wp Try.func131 rfl trivial ?_ rfl
 simp only [Try.ntmps131, List.size_toArray, List.length_cons, List.length_nil, Nat.reduceAdd, Nat.reduceSub, Array.replicate_succ, Array.replicate_zero, List.push_toArray, List.append_toArray, List.nil_append, List.cons_append]
 gi_wp2
 gi_loopw [3] (fun i wr => ∃ k : Nat, k <= n /\ i = .int .i64 ((n : Int) - 1 - k) /\ J k wr) (fun i _ => (intOf i + 1).toNat)
 case atStart => exact ⟨0, Nat.zero_le _, by simp, h0⟩
 case round =>
  obtain ⟨k, hk, rfl, hJs⟩ := hrel
  by_cases hlt : k < n
  ·obtain ⟨m, hm⟩ : ∃ m, n - 1 - k = m := ⟨_, rfl⟩
   have hml : m < n := by omega
   obtain ⟨b, o, cap', r, hb, hr, hcell, fn, tmps, assign, body, hy, hR⟩ := hrd k wr hJs hlt
   match r, hr, hcell, hy with
   | [v0, v1, v2, v3], _, hcell, hy =>
    rw [hm] at hcell hy
    rw [show (n : Int) - 1 - k = (m : Int) by omega]
    have e1 : wr.cell? ⟨b, o + m * 4, none⟩ = _ := hcell 0 v0 rfl
    have e2 : wr.cell? ⟨b, o + m * 4 + 1, none⟩ = _ := hcell 1 v1 rfl
    have e3 : wr.cell? ⟨b, o + m * 4 + 2, none⟩ = _ := hcell 2 v2 rfl
    have e4 : wr.cell? ⟨b, o + m * 4 + 3, none⟩ = _ := hcell 3 v3 rfl
    simp only [agv, if_true] at hy
    have hw2 : IntKind.i64.wrap ((m : Int) - 1) = (m : Int) - 1 := by rw [IntKind.wrap_i64]; omega
    gi_wp2
    refine hR.mono ?_
    rintro e W3 ⟨rfl, hJ3⟩
    gi_wp2
    go_roundw
    case rel => exact ⟨k + 1, by omega, by go_num, hJ3⟩
    case measure => simp [intOf]
  ·obtain rfl : k = n := by omega
   gi_wp2
   go_end0
   exact ⟨⟨_, rfl⟩, hJs⟩
end Go.Proofs.Yteeaofpphmhjdaa
namespace Go.Proofs.Yteeaofpphmhjdaa
set_option linter.unusedSimpArgs false
set_option linter.unusedVariables false
set_option linter.unusedSectionVars false
set_option maxRecDepth 4000
open Go.RowKit
variable {P : Program}
def znv : Option (Nat × Ev × List (Nat × Ev)) -> List Ky
 | some (e, _, _) => [(2, e)]
 | none => []
def stoW : Option (Nat × Ev × List (Nat × Ev)) -> List (Nat × Ev)
 | some (e, y, cons) => (e, y) :: zne cons
 | none => []
theorem zu8 {σ σ1 : St} {t : TypeId} {x y : Operand} (h : ∀ k ∈ zak [x, y] ++ (rK [(σ.get P t y).cells] ++ znv (zj0 P σ t x y)), zat σ σ1 k) {r : Nat × Ev × List (Nat × Ev)} (hr : zj0 P σ t x y = some r) : zj0 P σ1 t x y = some r := by
 have e1 : σ1.get P 0 x = σ.get P 0 x := zbr (l := [x, y]) (fun k hk => h k (by simp [hk])) (by simp) 0
 have e2 : σ1.get P t y = σ.get P t y := zbr (l := [x, y]) (fun k hk => h k (by simp [hk])) (by simp) t
 have e3 : zmj σ1 (σ.get P t y).cells = zmj σ (σ.get P t y).cells := zib fun k hk => h k (by simp [rK, hk])
 rw [hr] at h
 rw [<- hr]
 unfold zj0 at hr ⊢
 rw [e1, e2]
 split at hr
 ·rename_i e g sz i o hx
  obtain ⟨z, hz, hr⟩ := Option.bind_eq_some_iff.1 hr
  obtain ⟨n, hn, hr⟩ := Option.bind_eq_some_iff.1 hr
  split at hr
  ·obtain ⟨q, _, hr⟩ := Option.map_eq_some_iff.1 hr
   subst hr
   have e4 : σ1.ev e = σ.ev e := Eq.symm (h (2, e) (by simp [znv]))
   simp only [e4, e3]
  ·cases hr
 ·cases hr
section
variable {ks : List Fr} {Q : Exit -> St -> Prop} {σ : St} {ops : Array Oper} {os : List Oper} {L : List (List Ky × List Ky)} {ty : TypeId} {ps : String} {af : Array Edge} {ds : Option Nat} {x y : Operand} {t : TypeId}
theorem zui (r : Option (Nat × Ev × List (Nat × Ev))) : okK (znv r) = true := by
 cases r with
 | none => rfl
 | some r => rfl
theorem zri (h : zal (zj0 P σ t x y) fun r => (r.2.2.map (·.1)).Nodup /\ ∀ p ∈ r.2.2, p.1 ≠ r.1)
  (k : exd P ops os (L ++ [(zak [x, y] ++ (rK [(σ.get P t y).cells] ++ znv (zj0 P σ t x y)), dK ds ++ eK (stoW (zj0 P σ t x y)))]) ks Q ((σ.apdO (zj0 P σ t x y)).put ds (.one .any))) : exdS P ops ⟨ds, .store t x y, ty, ps, af, none⟩ os L ks Q σ := by
 obtain ⟨⟨e, z, cons⟩, h1, h2, h3⟩ := zam h
 refine ⟨_, _, _, ?_, k⟩
 have hloc : ∀ σ1, (∀ k ∈ zak [x, y] ++ (rK [(σ.get P t y).cells] ++ znv (zj0 P σ t x y)), zat σ σ1 k) -> zj0 P σ1 t x y = some (e, z, cons) := fun σ1 hs => zu8 hs h1
 rw [h1]
 show zez P _ _ (dK ds ++ eK ((e, z) :: zne cons)) σ ((σ.apd e cons z).put ds _)
 rw [zc3]
 rw [h1] at hloc
 refine zez.of (o := ⟨ds, _, ty, ps, af, none⟩) (l := (e, z) :: zne cons) (za7 (zbd _) (za7 (zxw _) (zui _))) fun σ1 hs => ?_
 have hh := hloc σ1 hs
 have hs2 := zlo (σ := σ1) (ty := ty) (ps := ps) (af := af) (ds := ds) (x := x) (y := y) (t := t) (P := P) (by rw [hh]; exact ⟨h2, h3⟩)
 rw [hh] at hs2
 have hs2 : zab P ⟨ds, .store t x y, ty, ps, af, none⟩ σ1 ((σ1.apd e cons z).put ds (.one .any)) := hs2
 rw [zc3] at hs2
 exact hs2
end
attribute [go_sem] znv stoW List.flatten_cons List.flatten_nil
end Go.Proofs.Yteeaofpphmhjdaa
namespace Go.Proofs.Yteeaofpphmhjdaa
set_option linter.unusedSimpArgs false
set_option linter.unusedVariables false
set_option linter.unusedSectionVars false
set_option maxRecDepth 4000
open Go.RowKit
variable {P : Program}
section
variable {ks : List Fr} {Q : Exit -> St -> Prop} {σ : St} {ops : Array Oper} {os : List Oper} {L : List (List Ky × List Ky)} {ty : TypeId} {ps : String} {af : Array Edge} {d : Nat} {x : Operand} {asx : Array Operand} {ts : Array TypeId} {f : FuncId} {res : List (Bool × D)}
theorem zwj {ds0 res0 : List D} {gR : List Ky} (h : FC P f ds0 res0) (hp : zal (zas (σ.get P 0 x)) fun p => p.1 = f /\ VDs σ (σ.gets P asx ts ++ p.2) ds0 /\ ze8 d 0 (zau res0) σ.ev)
  (k : exd P ops os (L ++ [(gR ++ (zak (x :: asx.toList) ++ (vsK σ (σ.gets P asx ts ++ zy3 (zas (σ.get P 0 x))) ++ eK (owL d 0 (zau res0)))), dK (some d) ++ eK (owL d 0 (zau res0)))]) ks Q (σ.callF d res0)) :
  zl2 P ops ⟨some d, .call ⟨.value x, asx, ts⟩, ty, ps, af, none⟩ os L gR ks Q σ := by
 obtain ⟨⟨f', cvs⟩, h1, rfl, h2, h3⟩ := zam hp
 rw [h1] at k
 exact zxt _ _ _ _ _ _ rfl (zi3 rfl rfl h h1 h2 h3) k
end
end Go.Proofs.Yteeaofpphmhjdaa
