/-
  The walk over plain data, and contracts of functions of the program and of its laws.
  Conditions: those that each theorem names.
-/
import Derived.Test.YteeaofpphmhjdaaQRC3
import Derived.MapKept
import Derived.RangeFuncNested
import Derived.RangeFuncLeaves
import Derived.Test.YteeaofpphmhjdaaProg
import Derived.KernelRfl
import Derived.Test.YteeaofpphmhjdaaQRC1
namespace Go.Proofs.Yteeaofpphmhjdaa
set_option linter.unusedSimpArgs false
set_option linter.unusedVariables false
set_option linter.unusedSectionVars false
set_option maxRecDepth 4000
open Go.RowKit
variable {P : Program}
def zn5 : T -> T -> Option Bool
 | .int k a, .int k' b => if k = k' then some (decide (a = b)) else none
 | .str a, .str b => some (decide (a = b))
 | .bool a, .bool b => some (a == b)
 | _, _ => none
def zbz (k : T) : List (List T) -> Option (Option (List T))
 | [] => some none
 | [] :: _ => none
 | (x :: vs) :: rows => match zn5 k x with
  | some true => some (some vs)
  | some false => zbz k rows
  | none => none
def zpp : TypeDesc -> T -> Bool
 | .int k, .int k' _ => decide (k' = k)
 | .string, .str _ => true
 | .bool, .bool _ => true
 | _, _ => false
theorem zqq {w : World} {A : Nat -> Prop} {d : TypeDesc} {k : T} {v : Value} (h : zpp d k = true) (hv : zaf w A k v) : Go.MapKept.IsKey d v := by
 cases d <;> cases k <;> simp [zpp] at h <;> unfold zaf at hv
 ·subst hv; trivial
 ·rw [hv.1]; exact h
 ·rw [hv.1]; trivial
theorem zmt {w : World} {A : Nat -> Prop} {d : TypeDesc} {k x : T} {kv xv : Value} {b : Bool} (hd : zpp d k = true) (h : zn5 k x = some b) (hk : zaf w A k kv) (hx : zaf w A x xv) : Instr.sameNow d kv xv = some b := by
 cases d <;> cases k <;> simp [zpp] at hd <;> cases x <;> simp [zn5] at h <;> unfold zaf at hk hx
 ·subst hk hx h; rfl
 ·rw [hk.1, hx.1]
  obtain ⟨h1, h2⟩ := h
  subst h1 h2
  simp [Instr.sameNow]
  exact Bool.eq_iff_iff.2 (by simp)
 ·rw [hk.1, hx.1]
  subst h
  simp only [Instr.sameNow, Option.some.injEq]
  rw [Bool.eq_iff_iff, Go.MapKept.bytes_beq]
  simp
theorem ze0 {w : World} {A : Nat -> Prop} {d : TypeDesc} {k : T} {kv : Value} (hd : zpp d k = true) (hk : zaf w A k kv) (ag : Bool) : ∀ (rows : List (List T)) (es : List MapEntry) (i : Nat) (r : Option (List T)), zax w A ag rows es -> zbz k rows = some r →
  match r with
  | none => Instr.findNow d kv es i = some none
  | some vs => ∃ j u us, Instr.findNow d kv es i = some (some (j, u)) /\ (if ag = true then u = .agg ⟨us⟩ else us = [u]) /\ zab w A vs us
 | [], es, i, r, h, hf => by
  unfold zax at h
  subst h
  cases hf
  rfl
 | [] :: _, _, _, _, _, hf => by cases hf
 | (x :: vs) :: rows, es, i, r, h, hf => by
  unfold zax at h
  obtain ⟨e, es', us, rfl, h1, h2, h3⟩ := h
  unfold zab at h2
  obtain ⟨xv, us', e1, h2, h4⟩ := h2
  cases e1
  unfold zbz at hf
  split at hf
  ·rename_i hq
   cases hf
   exact ⟨i, e.val, us, by simp [Instr.findNow, zmt hd hq hk h2], h1, h4⟩
  ·rename_i hq
   have := ze0 hd hk ag rows es' (i + 1) r h3 hf
   simp only [Instr.findNow, zmt hd hq hk h2]
   exact this
  ·cases hf
def rowV (ag : Bool) (vs : List T) : Option V := if ag = true then some (.agg (vs.map .t)) else match vs with | [t] => some (.one (.t t)) | _ => none
def qar (P : Program) (t : TypeId) : Option (TypeDesc × TypeId) := match P.underlying t with
 | some (.map kt et) => (P.underlying kt).map fun d => (d, et)
 | _ => none
theorem zwa {t : TypeId} {d : TypeDesc} {et : TypeId} (h : qar P t = some (d, et)) : ∃ kt, P.underlying t = some (.map kt et) /\ P.underlying kt = some d := by
 unfold qar at h
 split at h
 ·rename_i kt et' hu
  obtain ⟨d', h1, h2⟩ := Option.map_eq_some_iff.1 h
  cases h2
  exact ⟨kt, hu, h1⟩
 ·cases h
theorem qek {σ : St} {g : Gh} {w : World} : ∀ {ts : List T} {vs : List Value}, zab w (Fix σ g w) ts vs -> CRs σ g w (ts.map .t) vs
 | [], vs, h => by unfold zab at h; exact h
 | t :: ts, vs, h => by
  unfold zab at h
  obtain ⟨v, vs', rfl, h1, h2⟩ := h
  exact ⟨v, vs', rfl, h1, qek h2⟩
theorem zsc {o : Oper} {σ : St} {mt : TypeId} {x ix : Operand} {d : TypeDesc} {et : TypeId} {ag : Bool} {rows : List (List T)} {k : T} {vs : List T} {v : V} (ho : o.op = .lookup mt x ix false)
  (ht : qar P mt = some (d, et)) (hk : zpp d k = true) (hx : σ.get P 0 x = .one (.t (.mp ag rows))) (hi : σ.get P 0 ix = .one (.t k)) (hf : zbz k rows = some (some vs)) (hv : rowV ag vs = some v) :
  zad P o σ (σ.put o.dst v) :=
 zad.value fun n0 N g a w hR => by
  obtain ⟨kt, t1, t2⟩ := zwa ht
  have h1 := hR.get P 0 x
  have h2 := hR.get P 0 ix
  rw [hx] at h1
  rw [hi] at h2
  have h1 : zaf w (Fix σ g w) (.mp ag rows) (a.eval x) := h1
  have h2 : zaf w (Fix σ g w) k (a.eval ix) := h2
  unfold zaf at h1
  obtain ⟨b, es, clk, e1, hA, hb, he⟩ := h1
  obtain ⟨j, u, us, f1, f2, f3⟩ := ze0 hk h2 ag rows es.toList 0 (some vs) he hf
  refine ⟨u, ?_, ?_⟩
  ·unfold execOp
   simp only [ho]
   simp [Instr.lookup, run_underlying t1, e1, Go.MapKept.run_getObj_map hb, Go.MapKept.run_checkKey t2 (zqq hk h2), Go.MapKept.run_findKey t2 f1, Result.andThen]
  ·unfold rowV at hv
   by_cases hag : ag = true
   ·rw [if_pos hag] at hv f2
    cases hv
    exact ⟨us, f2, qek f3⟩
   ·rw [if_neg hag] at hv f2
    subst f2
    rcases vs with _ | ⟨t, _ | ⟨t', vs⟩⟩
    ·cases hv
    ·cases hv
     unfold zab at f3
     obtain ⟨v', vs', e, h3, _⟩ := f3
     cases e
     exact h3
    ·cases hv
theorem zsj {o : Oper} {σ : St} {mt : TypeId} {x ix : Operand} {d : TypeDesc} {et : TypeId} {ag : Bool} {rows : List (List T)} {k : T} {vs : List T} {v : V} (ho : o.op = .lookup mt x ix false)
  (ht : qar P mt = some (d, et)) (hk : zpp d k = true) (hx : σ.get P 0 x = .one (.t (.mp ag rows))) (hi : σ.get P 0 ix = .one (.t k)) (hf : zbz k rows = some (some vs)) (hv : rowV ag vs = some v) :
  zgu P o (zap [x, ix]) (dK o.dst ++ eK []) σ (σ.put o.dst v) := by
 rw [show σ.put o.dst v = (σ.upE []).put o.dst v from rfl]
 refine zgu.of (zbp _) fun σ1 h1 => ?_
 have e1 : σ1.get P 0 x = σ.get P 0 x := zb3 (l := [x, ix]) h1 (by simp) 0
 have e2 : σ1.get P 0 ix = σ.get P 0 ix := zb3 (l := [x, ix]) h1 (by simp) 0
 exact zsc ho ht hk (by rw [e1]; exact hx) (by rw [e2]; exact hi) hf hv
def lkV (P : Program) (σ : St) (mt : TypeId) (x ix : Operand) : Option V := match σ.get P 0 x, σ.get P 0 ix, qar P mt with
 | .one (.t (.mp ag rows)), .one (.t k), some (d, _) => if zpp d k = true then (zbz k rows).bind fun r => r.bind (rowV ag) else none
 | _, _, _ => none
theorem lkV_eq {σ : St} {mt : TypeId} {x ix : Operand} {v : V} (h : lkV P σ mt x ix = some v) : ∃ d et ag rows k vs, qar P mt = some (d, et) /\ zpp d k = true /\ σ.get P 0 x = .one (.t (.mp ag rows)) /\ σ.get P 0 ix = .one (.t k) /\ zbz k rows = some (some vs) /\ rowV ag vs = some v := by
 unfold lkV at h
 split at h
 ·rename_i ag rows k d et h1 h2 h3
  split at h
  ·rename_i hk
   obtain ⟨r, h4, h5⟩ := Option.bind_eq_some_iff.1 h
   obtain ⟨vs, rfl, h6⟩ := Option.bind_eq_some_iff.1 h5
   exact ⟨d, et, ag, rows, k, vs, h3, hk, h1, h2, h4, h6⟩
  ·cases h
 ·cases h
section
variable {ks : List Fr} {Q : Exit -> St -> Prop} {σ : St} {ops : Array Oper} {os : List Oper} {L : List (List Ky × List Ky)} {ty : TypeId} {ps : String} {af : Array Edge} {dst : Option Nat} {mt : TypeId} {x ix : Operand} {v : V}
theorem qdo (h : lkV P σ mt x ix = some v) (k : exd P ops os (L ++ [(zap [x, ix], dK dst ++ [])]) ks Q (σ.put dst v)) : exd P ops (⟨dst, .lookup mt x ix false, ty, ps, af, none⟩ :: os) L ks Q σ := by
 obtain ⟨d, et, ag, rows, kk, vs, h1, h2, h3, h4, h5, h6⟩ := lkV_eq h
 exact zgk rfl rfl (zsj rfl h1 h2 h3 h4 h5 h6) k
end
attribute [go_sem] lkV zbz zn5 zpp rowV qar
end Go.Proofs.Yteeaofpphmhjdaa
namespace Go.Proofs.Yteeaofpphmhjdaa
set_option linter.unusedSimpArgs false
set_option linter.unusedVariables false
set_option linter.unusedSectionVars false
set_option maxRecDepth 4000
open Go.RowKit
variable {P : Program}
def pinC (v : Value) : T -> T
 | .sl sz rows => .pin v (.sl sz rows)
 | t => t
def zzl (us : Nat -> Value) : Nat -> List T -> List T
 | _, [] => []
 | j, c :: cs => pinC (us j) c :: zzl us (j + 1) cs
def ze2 (vs : Nat -> Nat -> Value) : Nat -> List (List T) -> List (List T)
 | _, [] => []
 | i, r :: rs => zzl (vs i) 0 r :: ze2 vs (i + 1) rs
theorem zp7 (us : Nat -> Value) : ∀ (cs : List T) (j : Nat), (zzl us j cs).length = cs.length
 | [], _ => rfl
 | c :: cs, j => by simp [zzl, zp7 us cs]
theorem zfm (vs : Nat -> Nat -> Value) : ∀ (rs : List (List T)) (i : Nat), (ze2 vs i rs).length = rs.length
 | [], _ => rfl
 | c :: cs, j => by simp [ze2, zfm vs cs]
theorem zar.pin {w : World} {t : T} {v : Value} {fp : List Nat} (h : zar w t v fp) : zar w (pinC v t) v fp := by
 unfold pinC
 split
 ·unfold zar; exact ⟨rfl, h⟩
 ·exact h
theorem za3.pin {w : World} {cells : Array Value} {us : Nat -> Value} : ∀ {cs : List T} {o j : Nat} {fps : List Nat}, za3 w cells o cs fps -> (∀ i, us (j + i) = cells.getD (o + i) undef) -> za3 w cells o (zzl us j cs) fps
 | [], _, _, _, h, _ => h
 | c :: cs, o, j, fps, h, hu => by
  unfold za3 at h
  obtain ⟨v, f1, f2, h1, rfl, h2, h3⟩ := h
  unfold zzl za3
  have e : us j = v := by have := hu 0; rw [Nat.add_zero, Nat.add_zero] at this; rw [this, Array.getD_eq_getD_getElem?, h1]; rfl
  refine ⟨v, f1, f2, h1, rfl, by rw [e]; exact h2.pin, za3.pin h3 fun i => ?_⟩
  have := hu (i + 1)
  rwa [show j + (i + 1) = j + 1 + i by omega, show o + (i + 1) = o + 1 + i by omega] at this
theorem zae.pin {w : World} {cells : Array Value} {sz : Nat} : ∀ {rows : List (List T)} {i : Nat} {fps : List Nat}, zae w cells (i * sz) sz rows fps -> zae w cells (i * sz) sz (ze2 (fun i j => cells.getD (i * sz + j) undef) i rows) fps
 | [], _, _, h => h
 | r :: rs, i, fps, h => by
  unfold zae at h
  obtain ⟨h1, f1, f2, rfl, h2, h3⟩ := h
  unfold ze2 zae
  refine ⟨by rw [zp7]; exact h1, f1, f2, rfl, h2.pin fun j => by simp, ?_⟩
  rw [show i * sz + sz = (i + 1) * sz by rw [Nat.add_mul]; omega] at h3 ⊢
  exact zae.pin h3
theorem zar.pins {w : World} {sz : Nat} {rows : List (List T)} {v : Value} {fp : List Nat} (h : zar w (.sl sz rows) v fp) : ∃ vs, zar w (.sl sz (ze2 vs 0 rows)) v fp := by
 unfold zar at h
 obtain ⟨ao, cap, h1, h2, h3, h4⟩ := h
 rcases h4 with ⟨k1, k2, rfl, k4⟩ | ⟨b, cells, ty, fps, k1, k2, k3, k4, k5⟩
 ·refine ⟨fun _ _ => undef, ?_⟩
  unfold zar
  exact ⟨ao, cap, h1, h2, h3, Or.inl ⟨k1, k2, rfl, k4⟩⟩
 ·refine ⟨fun i j => cells.getD (i * sz + j) undef, ?_⟩
  unfold zar
  have := zae.pin (i := 0) (by rw [Nat.zero_mul]; exact k5)
  rw [Nat.zero_mul] at this
  exact ⟨ao, cap, by rw [zfm]; exact h1, by rw [zfm]; exact h2, h3, Or.inr ⟨b, cells, ty, fps, k1, k2, k3, k4, this⟩⟩
def zlk : T -> T
 | .pin _ t => t
 | t => t
def zdj (rs : List (List T)) : List (List T) := rs.map fun r => r.map zlk
theorem zar.unpin {w : World} : ∀ {t : T} {v : Value} {fp : List Nat}, zar w t v fp -> zar w (zlk t) v fp
 | .pin _ _, _, _, h => by unfold zar at h; exact h.2
 | .int _ _, _, _, h => h
 | .bool _, _, _, h => h
 | .str _, _, _, h => h
 | .sl _ _, _, _, h => h
 | .ptr _, _, _, h => h
 | .fn _ _, _, _, h => h
 | .mp _ _, _, _, h => h
 | .vs _ _ _, _, _, h => h
theorem za3.unpin {w : World} {cells : Array Value} : ∀ {cs : List T} {o : Nat} {fps : List Nat}, za3 w cells o cs fps -> za3 w cells o (cs.map zlk) fps
 | [], _, _, h => h
 | c :: cs, o, fps, h => by
  unfold za3 at h
  obtain ⟨v, f1, f2, h1, rfl, h2, h3⟩ := h
  rw [List.map_cons]
  unfold za3
  exact ⟨v, f1, f2, h1, rfl, h2.unpin, h3.unpin⟩
theorem zae.unpin {w : World} {cells : Array Value} {sz : Nat} : ∀ {rows : List (List T)} {o : Nat} {fps : List Nat}, zae w cells o sz rows fps -> zae w cells o sz (zdj rows) fps
 | [], _, _, h => h
 | r :: rs, o, fps, h => by
  unfold zae at h
  obtain ⟨h1, f1, f2, rfl, h2, h3⟩ := h
  show zae w cells o sz (r.map zlk :: zdj rs) (f1 ++ f2)
  unfold zae
  exact ⟨by simpa using h1, f1, f2, rfl, h2.unpin, h3.unpin⟩
theorem zar.unpins {w : World} {sz : Nat} {rows : List (List T)} {v : Value} {fp : List Nat} (h : zar w (.sl sz rows) v fp) : zar w (.sl sz (zdj rows)) v fp := by
 unfold zar at h ⊢
 have hl : (zdj rows).length = rows.length := by simp [zdj]
 obtain ⟨ao, cap, h1, h2, h3, h4⟩ := h
 refine ⟨ao, cap, by rw [hl]; exact h1, by rw [hl]; exact h2, h3, ?_⟩
 rcases h4 with ⟨k1, k2, rfl, k4⟩ | ⟨b, cells, ty, fps, k1, k2, k3, k4, k5⟩
 ·exact Or.inl ⟨k1, k2, rfl, k4⟩
 ·exact Or.inr ⟨b, cells, ty, fps, k1, k2, k3, k4, k5.unpin⟩
theorem Rel.reown {n0 : Nat -> Prop} {N : Nat} {σ : St} {g : Gh} {a : Act} {w : World} (hR : Rel n0 N σ g a w) (hn : LtK n0 w) {e sz gn : Nat} {rows rows' : List (List T)} (he : σ.ev e = some ⟨true, sz, rows, gn, true⟩) (h : zar w (.sl sz rows') (g.ψ e gn) (g.φ e)) :
  Rel n0 N (σ.inp [(e, rows')]) g a w := by
 have hOn : σ.On e := ⟨_, he, rfl⟩
 have hev : ∀ e', (∀ p ∈ [(e, rows')], p.1 ≠ e') -> (σ.inp [(e, rows')]).ev e' = σ.ev e' := fun e' h' => zfv (by simpa using Ne.symm (h' (e, rows') (List.mem_singleton.2 rfl)))
 have m : Mv σ (σ.inp [(e, rows')]) g g w w := by
  refine ⟨fun b hf => rfl, fun b hf => ⟨hf.1, fun e' x hx hon => ?_, hf.2.2⟩, fun b hb => ⟨rfl, hb⟩, fun e n he => ⟨zgd he, rfl⟩, fun b hb => (zmi hR (U := [(e, rows')]) (fp := g.φ e) (φ' := g.φ) (fun b hb => ⟨(e, rows'), List.mem_singleton.2 rfl, hb⟩) (fun p hp => by rw [List.mem_singleton.1 hp]; exact hOn) (Bk.refl _ _) (fun p hp b hb => Or.inl (by rw [List.mem_singleton.1 hp] at hb; exact hb)) (fun _ _ => rfl) b hb).2.2⟩
  by_cases h' : e' = e
  ·subst h'; exact hf.2.1 e' _ he rfl
  ·exact hf.2.1 e' x ((hev e' (by simpa using Ne.symm h')).symm.trans hx) hon
 exact hR.inp hn (fp := g.φ e) (fp' := g.φ e) (φ' := g.φ) (by simp) (by simp) (fun b hb => ⟨(e, rows'), List.mem_singleton.2 rfl, hb⟩) (Bk.refl _ _) (fun b hb => Or.inl hb) (fun _ _ => rfl)
  (fun p hp => by simp at hp; subst hp; exact ⟨sz, rows, gn, he, h, hR.nodup e hOn, fun b hb => hb⟩) (fun p hp q hq hne => by simp at hp hq; subst hp; subst hq; exact absurd rfl hne)
  (fun i v h => m.vr h) (fun b cs vs _ h => m.crs h) (fun e x _ _ _ v fpx hE hs => m.evr hE hs) (fun e x _ _ v h => m.rep h)
def qb1 (vs : Nat -> Nat -> Value) (sz : Nat) (rows : List (List T)) (post : List D) : St := (zr4 [] (.one (.sl sz rows)) post).inp [(0, ze2 vs 0 rows)]
theorem zwc {f : FuncId} {fn : Func} {c : Code} {sz : Nat} {rows rows' : List (List T)} {post : List D} {res : List D} (hc : zaz P f) (hf : P.funcs[f]? = some fn) (hb : fn.body = some c) (hd : za6 fn.ntmps c = true) (hN : (zet [] (.one (.sl sz rows)) post).length <= fn.ntmps) (hN2 : fn.ntmps <= 1000000)
  (h : ∀ vs, ex P c [] (PI P fn.results.toList (.one (.sl sz rows')) res) (qb1 vs sz rows post)) : IC P f [] (.one (.sl sz rows)) post (.one (.sl sz rows')) res := by
 have hs : ∀ ds : List D, za8 (zet [] (.one (.sl sz rows)) ds) := fun ds => ⟨rfl, zci ds⟩
 refine IC_ofW hc hf hb hd hN hN2 (hs _) trivial fun n0 N g a w hR hn => ?_
 have he : (zr4 [] (.one (.sl sz rows)) post).ev 0 = some ⟨true, sz, rows, 0, true⟩ := rfl
 have hO := zdf hR he
 obtain ⟨vs, hv⟩ := hO.pins
 exact ⟨_, h vs, hR.reown hn he hv⟩
theorem za3.cell {w : World} {cells : Array Value} : ∀ {cs : List T} {o j : Nat} {c : T} {fps : List Nat}, za3 w cells o cs fps -> cs[j]? = some c →
  ∃ f1 f f2 v, fps = f1 ++ (f ++ f2) /\ cells[o + j]? = some v /\ zar w c v f /\ ∀ (w' : World) (c' : T) (f' : List Nat), (∀ b, b ∈ f1 \/ b ∈ f2 -> w'.heap[b]? = w.heap[b]?) -> zar w' c' v f' -> za3 w' cells o (cs.set j c') (f1 ++ (f' ++ f2))
 | [], _, _, _, _, _, h => by simp at h
 | d :: cs, o, 0, c, fps, h, hc => by
  unfold za3 at h
  obtain ⟨v, f1, f2, h1, rfl, h2, h3⟩ := h
  simp only [List.getElem?_cons_zero, Option.some.injEq] at hc
  subst hc
  refine ⟨[], f1, f2, v, rfl, h1, h2, fun w' c' f' hk ho => ?_⟩
  show za3 w' cells o (c' :: cs) (f' ++ f2)
  unfold za3
  exact ⟨v, f', f2, h1, rfl, ho, za3.keep cells _ cs f2 h3 fun b hb => hk b (Or.inr hb)⟩
 | d :: cs, o, j + 1, c, fps, h, hc => by
  unfold za3 at h
  obtain ⟨v, f1, f2, h1, rfl, h2, h3⟩ := h
  obtain ⟨g1, g, g2, u, rfl, k1, k2, k3⟩ := za3.cell h3 (by simpa using hc)
  refine ⟨f1 ++ g1, g, g2, u, by simp, by rw [<- k1]; congr 1; omega, k2, fun w' c' f' hk ho => ?_⟩
  show za3 w' cells o (d :: cs.set j c') _
  unfold za3
  exact ⟨v, f1, g1 ++ (f' ++ g2), h1, by simp, zar.keep d v f1 h2 fun b hb => hk b (Or.inl (by simp [hb])), k3 w' c' f' (fun b hb => hk b (by rcases hb with hb | hb <;> simp [hb])) ho⟩
theorem zae.cell {w : World} {cells : Array Value} {sz : Nat} : ∀ {rows : List (List T)} {o i j : Nat} {r : List T} {c : T} {fps : List Nat}, zae w cells o sz rows fps -> rows[i]? = some r -> r[j]? = some c →
  ∃ f1 f f2 v, fps = f1 ++ (f ++ f2) /\ cells[o + i * sz + j]? = some v /\ zar w c v f /\ ∀ (w' : World) (c' : T) (f' : List Nat), (∀ b, b ∈ f1 \/ b ∈ f2 -> w'.heap[b]? = w.heap[b]?) -> zar w' c' v f' -> zae w' cells o sz (rows.set i (r.set j c')) (f1 ++ (f' ++ f2))
 | [], _, _, _, _, _, _, _, h, _ => by simp at h
 | d :: rows, o, 0, j, r, c, fps, h, hr, hc => by
  unfold zae at h
  obtain ⟨h1, f1, f2, rfl, h2, h3⟩ := h
  simp only [List.getElem?_cons_zero, Option.some.injEq] at hr
  subst hr
  obtain ⟨g1, g, g2, u, rfl, k1, k2, k3⟩ := za3.cell h2 hc
  refine ⟨g1, g, g2 ++ f2, u, by simp, by simpa using k1, k2, fun w' c' f' hk ho => ?_⟩
  show zae w' cells o sz (d.set j c' :: rows) _
  unfold zae
  exact ⟨by simp [h1], g1 ++ (f' ++ g2), f2, by simp, k3 w' c' f' (fun b hb => hk b (by rcases hb with hb | hb <;> simp [hb])) ho, zae.keep cells _ sz rows f2 h3 fun b hb => hk b (by simp [hb])⟩
 | d :: rows, o, i + 1, j, r, c, fps, h, hr, hc => by
  unfold zae at h
  obtain ⟨h1, f1, f2, rfl, h2, h3⟩ := h
  obtain ⟨g1, g, g2, u, rfl, k1, k2, k3⟩ := zae.cell h3 (by simpa using hr) hc
  refine ⟨f1 ++ g1, g, g2, u, by simp, by rw [<- k1]; congr 1; rw [Nat.add_mul]; omega, k2, fun w' c' f' hk ho => ?_⟩
  show zae w' cells o sz (d :: rows.set i (r.set j c')) _
  unfold zae
  exact ⟨h1, f1, g1 ++ (f' ++ g2), by simp, za3.keep cells o d f1 h2 fun b hb => hk b (Or.inl (by simp [hb])), k3 w' c' f' (fun b hb => hk b (by rcases hb with hb | hb <;> simp [hb])) ho⟩
theorem ztc {o : Oper} {σ : St} {x : Operand} {asx : Array Operand} {ts : Array TypeId} {f : FuncId} {cvs : List V} {post : List D} {sz1 : Nat} {rows1 rows1' : List (List T)} {res : List D} {v : Value} {p2 : List V} {e i j sz gn : Nat} {rows : List (List T)} {r : List T} (ho : o.op = .call ⟨.value x, asx, ts⟩)
  (h : IC P f [] (.one (.sl sz1 rows1)) post (.one (.sl sz1 rows1')) res) (hc : zau (σ.get P 0 x) = some (f, cvs)) (hx : σ.gets P asx ts ++ cvs = .one (.cv v) :: p2) (h2 : zo1 p2 post) (he : σ.ev e = some ⟨true, sz, rows, gn, true⟩) (hr : rows[i]? = some r) (hcl : r[j]? = some (.pin v (.sl sz1 rows1)))
  (hres : res.all D.fl = true) (hD : Deep σ) : zad P o σ ((σ.inp [(e, rows.set i (r.set j (.sl sz1 rows1')))]).put o.dst (znd (res.map D.toV))) := by
 intro n0 N g a w hR hn hdN
 obtain ⟨vs, hrun, hvl⟩ := zc7 hR ho hc h.1
 rw [hx] at hvl
 obtain ⟨v1, us2, rfl, rfl, v4⟩ := hvl
 have hOn : σ.On e := ⟨_, he, rfl⟩
 have hO := zdf hR he
 have hnd := hR.nodup e hOn
 have hO2 := hO
 unfold zar at hO
 obtain ⟨ao, cap, e1, e2, e3, e4⟩ := hO
 rcases e4 with ⟨_, _, rfl, _⟩ | ⟨b0, cells, ty, fps, k1, k2, k3, k4, k5⟩
 ·simp at hr
 obtain ⟨f1, ff, f2, u, rfl, c1, c2, c3⟩ := zae.cell k5 hr hcl
 unfold zar at c2
 obtain ⟨rfl, c2⟩ := c2
 have hsubf : ∀ b', b' ∈ ff -> b' ∈ g.φ e := fun b' hb => by rw [k2]; simp [hb]
 rw [k2] at hnd
 obtain ⟨nb, nd⟩ := List.nodup_cons.1 hnd
 obtain ⟨nd1, nd2, nd3⟩ := List.nodup_append.1 nd
 obtain ⟨nd4, nd5, nd6⟩ := List.nodup_append.1 nd2
 have hbf : ∀ b', (b' = b0 \/ b' ∈ f1 \/ b' ∈ f2) -> b' ∉ ff := fun b' h hm => by
  rcases h with rfl | h | h
  ·exact nb (by simp [hm])
  ·exact nd3 b' h b' (by simp [hm]) rfl
  ·exact nd6 b' hm b' h rfl
 have hlt : ∀ b' ∈ g.φ e, b' < w.heap.size := (hR.evs e _ he rfl).lt
 unfold Oper.wp
 rw [hrun]
 refine (h.2 w [] u us2 ff (zhw (.sl sz1 rows1) ff) rfl ⟨c2, rfl⟩ (zg8 _ h2 v4) nd4).mono ?_
 rintro ee w' ⟨us, fp', tp', rfl, q1, q2, q3, q4⟩
 obtain ⟨v0, us0, g1, g2, t1, t2, e0, rfl, rfl, q5, q6⟩ := q1
 cases e0
 obtain ⟨n1, n2, n3⟩ := List.nodup_append.1 q2
 have hnew : ∀ b', b' < w.heap.size -> b' ∈ g1 -> b' ∈ ff := fun b' h1 h2 => (q3 b' (List.mem_append_left _ h2)).resolve_right (by omega)
 have hsub : ∀ b' ∈ g1, b' ∈ ff \/ w.heap.size <= b' := fun b' hb => q3 b' (List.mem_append_left _ hb)
 have hblk : ∀ b', b' < w.heap.size -> b' ∉ ff -> w'.heap[b']? = w.heap[b']? := fun b' h1 h2 => q4.block b' ⟨h1, h2⟩
 have hrows := c3 w' (.sl sz1 rows1') g1 (fun b' hb => hblk b' (hlt b' (by rw [k2]; rcases hb with hb | hb <;> simp [hb])) (hbf b' (Or.inr hb))) q5.1
 have hown : zar w' (.sl sz (rows.set i (r.set j (.sl sz1 rows1')))) (g.ψ e gn) (b0 :: (f1 ++ (g1 ++ f2))) := by
  unfold zar
  exact ⟨ao, cap, by simpa using e1, by simpa using e2, e3, Or.inr ⟨b0, cells, ty, _, k1, rfl, by rw [hblk b0 (hlt b0 (by rw [k2]; simp)) (hbf b0 (Or.inl rfl))]; exact k3, k4, hrows⟩⟩
 have hnd' : (b0 :: (f1 ++ (g1 ++ f2))).Nodup := by
  refine List.nodup_cons.2 ⟨fun hm => ?_, List.nodup_append.2 ⟨nd1, List.nodup_append.2 ⟨n1, nd5, fun x hx y hy hxy => ?_⟩, fun x hx y hy hxy => ?_⟩⟩
  ·have hl := hlt b0 (by rw [k2]; simp)
   simp only [List.mem_append] at hm
   rcases hm with hm | hm | hm
   ·exact nb (by simp [hm])
   ·exact nb (by simp [hnew b0 hl hm])
   ·exact nb (by simp [hm])
  ·subst hxy
   exact nd6 x (hnew x (hlt x (by rw [k2]; simp [hy])) hx) x hy rfl
  ·subst hxy
   have hl := hlt x (by rw [k2]; simp [hx])
   rcases List.mem_append.1 hy with hy | hy
   ·exact nd3 x hx x (by simp [hnew x hl hy]) rfl
   ·exact nd3 x hx x (by simp [hy]) rfl
 have hBkf : Bk (fun k => k < w.heap.size /\ k ∉ g.φ e) w w' := ⟨q4.os, q4.tape, q4.output, q4.size, fun k hk => q4.block k ⟨hk.1, fun hm => hk.2 (hsubf k hm)⟩⟩
 have hBk : Bk n0 w w' := ⟨q4.os, q4.tape, q4.output, q4.size, fun k hk => q4.block k ⟨hn k hk, fun hm => hR.etop e hOn k (hsubf k hm) hk⟩⟩
 have hfp' : ∀ b' ∈ b0 :: (f1 ++ (g1 ++ f2)), b' ∈ g.φ e \/ w.heap.size <= b' := fun b' hb => by
  simp only [List.mem_cons, List.mem_append] at hb
  rw [k2]
  rcases hb with hb | hb | hb | hb
  ·left; simp [hb]
  ·left; simp [hb]
  ·rcases hsub b' hb with hb | hb
   ·left; simp [hb]
   ·exact Or.inr hb
  ·left; simp [hb]
 generalize hrw : rows.set i (r.set j (.sl sz1 rows1')) = rows' at hown ⊢
 have j1 : ∀ e', (∀ p ∈ [(e, rows')], p.1 ≠ e') -> upd g.φ e (b0 :: (f1 ++ (g1 ++ f2))) e' = g.φ e' := fun e' h' => zaj _ _ (Ne.symm (h' (e, rows') (List.mem_singleton.2 rfl)))
 have hfpU : ∀ b' ∈ g.φ e, ∃ p ∈ [(e, rows')], b' ∈ g.φ p.1 := fun b' hb => ⟨(e, rows'), List.mem_singleton.2 rfl, hb⟩
 have hOU : ∀ p ∈ [(e, rows')], σ.On p.1 := fun p hp => by rw [List.mem_singleton.1 hp]; exact hOn
 have hb' : ∀ p ∈ [(e, rows')], ∀ b' ∈ upd g.φ e (b0 :: (f1 ++ (g1 ++ f2))) p.1, b' ∈ g.φ e \/ w.heap.size <= b' := fun p hp b' hb => by
  rw [List.mem_singleton.1 hp, zac] at hb
  exact hfp' b' hb
 obtain ⟨d1, d2, d3⟩ := hD
 have hrn := zmi hR hfpU hOU hBkf hb' j1
 have hR' : Rel n0 N (σ.inp [(e, rows')]) { g with φ := upd g.φ e (b0 :: (f1 ++ (g1 ++ f2))) } a w' := by
  refine hR.inp hn (by simp) (fun p hp => by rw [List.mem_singleton.1 hp]; exact fun _ h => h) hfpU hBkf hfp' j1
   (fun p hp => by rw [List.mem_singleton.1 hp, zac]; exact ⟨sz, rows, gn, he, hown, hnd', fun _ h => h⟩) (fun p hp q hq hne => by rw [List.mem_singleton.1 hp, List.mem_singleton.1 hq] at hne; exact absurd rfl hne)
   (fun i v h => qd1 (g := g) (g' := { g with φ := upd g.φ e (b0 :: (f1 ++ (g1 ++ f2))) }) rfl rfl (fun e n => zgd) hrn (d1 i) h) (fun b cs vs hb h => zh2 (g := g) (g' := { g with φ := upd g.φ e (b0 :: (f1 ++ (g1 ++ f2))) }) rfl rfl (fun e n => zgd) hrn (d2 b cs hb) h) (fun e x he hx hon v fpx hE hs => ?_) (fun e x hx hon => ?_)
  ·obtain ⟨ao, cap, r1, r2, r3, r4⟩ := hE
   refine ⟨ao, cap, r1, r2, r3, ?_⟩
   rcases r4 with r4 | ⟨b, cells, ty, fps, r4, r5, r6, r7, r8⟩
   ·exact Or.inl r4
   ·subst r5
    rw [if_pos (d3 e x hx).2] at r8
    exact Or.inr ⟨b, cells, ty, fps, r4, rfl, by rw [hs b (by simp)]; exact r6, r7, by rw [if_pos (d3 e x hx).2]; exact zae.keep cells 0 x.sz x.rows fps r8 fun b' hb' => hs b' (by simp [hb'])⟩
  ·rw [(d3 e x hx).1] at hon; cases hon
 refine ⟨{ g with φ := upd g.φ e (b0 :: (f1 ++ (g1 ++ f2))) }, ?_, hBk, rfl, rfl⟩
 exact hR'.put o.dst (zey (zbc.vrl (zk3 hres q6)) (fun y hy => by
  obtain ⟨d, _, rfl⟩ := List.mem_map.1 hy
  cases d <;> rfl)) hdN
def zj7 (rows : List (List T)) (i j : Nat) (t : T) : List (List T) := rows.set i ((rows.getD i []).set j t)
def evC (i j : Nat) (t : T) (x : Ev) : Ev := ⟨x.deep, x.sz, zj7 x.rows i j t, x.gen, x.on⟩
def St.cN (σ : St) (e i j : Nat) (t : T) (dst : Option Nat) (res : List D) : St := St.put ⟨σ.sl, σ.bx, upd σ.ev e ((σ.ev e).map (evC i j t))⟩ dst (znd (res.map D.toV))
def onN (x : Option Ev) (i j : Nat) (v : Value) (t : T) : Prop := zal x fun y => y.on = true /\ y.deep = true /\ y.rows[i]?.isSome = true /\ (y.rows.getD i [])[j]? = some (.pin v t)
def qes (xs : List V) (K : Value -> List V -> Prop) : Prop := match xs with
 | .one (.cv v) :: p2 => K v p2
 | _ => False
section
variable {ks : List Fr} {Q : Exit -> St -> Prop} {σ : St} {ops : Array Oper} {os : List Oper} {ty : TypeId} {ps : String} {af : Array Edge} {dst : Option Nat} {x : Operand} {asx : Array Operand} {ts : Array TypeId} {f : FuncId} {post : List D} {res : List D}
theorem callN {l : List (Nat × V)} {bl : List (Nat × List C)} {el : List (Nat × Ev)} (e i j : Nat) {sz1 : Nat} {rows1 rows1' : List (List T)} (h : IC P f [] (.one (.sl sz1 rows1)) post (.one (.sl sz1 rows1')) res) (hw : wkL σ (hd l bl el) l /\ wkB σ (hd l bl el) bl /\ wkE σ el)
  (hd1 : (l.all fun p => p.2.mOk) = true) (hd2 : (bl.all fun p => p.2.all C.mOk) = true) (hd3 : (el.all fun p => p.2.on && p.2.deep) = true)
  (hp : zal (zau ((hd l bl el).get P 0 x)) fun p => p.1 = f /\ qes ((hd l bl el).gets P asx ts ++ p.2) fun v p2 => zo1 p2 post /\ onN (tbl el e) i j v (.sl sz1 rows1)) (hr : res.all D.fl = true)
  (k : exo P ops os ks Q ((hd l bl el).cN e i j (.sl sz1 rows1') dst res)) : exo P ops (⟨dst, .call ⟨.value x, asx, ts⟩, ty, ps, af, none⟩ :: os) ks Q σ := by
 obtain ⟨⟨f', cvs⟩, h1, rfl, h2⟩ := zai hp
 unfold qes at h2
 split at h2
 ·rename_i v p2 hx
  obtain ⟨h3, h4⟩ := h2
  obtain ⟨⟨dp, sz, rows, gn, on⟩, he, rfl, rfl, h5, h6⟩ := zai h4
  obtain ⟨r, hr'⟩ := Option.isSome_iff_exists.1 h5
  have hg : rows.getD i [] = r := by rw [List.getD_eq_getElem?_getD, hr']; rfl
  rw [hg] at h6
  have hs := ztc (P := P) (o := ⟨dst, .call ⟨.value x, asx, ts⟩, ty, ps, af, none⟩) (σ := hd l bl el) rfl h h1 hx h3 (e := e) he hr' h6 hr (zwr hd1 hd2 hd3)
  refine zco rfl rfl (σ' := (hd l bl el).cN e i j (.sl sz1 rows1') dst res) ?_ k
  have e0 : (hd l bl el).cN e i j (.sl sz1 rows1') dst res = ((hd l bl el).inp [(e, rows.set i (r.set j (.sl sz1 rows1')))]).put dst (znd (res.map D.toV)) := by
   unfold St.cN St.inp zs6 zs6
   rw [show (hd l bl el).ev e = _ from he]
   simp only [Option.map_some, zj7, evC, hg]
  rw [e0]
  exact zad.pre (zaa hw) hs
 ·exact h2.elim
end
attribute [go_sem] qes onN St.cN evC
end Go.Proofs.Yteeaofpphmhjdaa
namespace Go.Proofs.Yteeaofpphmhjdaa
set_option linter.unusedSimpArgs false
set_option linter.unusedVariables false
set_option linter.unusedSectionVars false
set_option maxRecDepth 4000
open Go.RowKit
variable {P : Program}
abbrev Sr := Nat × Option (Nat × Nat)
def okQ : Option (Nat × Nat) -> Option (Nat × Nat) -> Bool
 | some a, some b => !(a.1 == b.1 && a.2 == b.2)
 | _, _ => false
def okS : List Sr -> Sr -> Bool
 | [], _ => true
 | (e, p) :: u, (e', p') => (if e = e' then okQ p p' else true) && okS u (e', p')
def owU (x : Option Ev) (sz : Nat) (rows : List (List T)) (g : Nat) : Prop := zal x fun y => y.deep = true /\ y.sz = sz /\ (y.rows = rows \/ zdj y.rows = rows) /\ y.gen = g /\ y.on = true
def gvT (σ : St) (K : List Sr -> List (Nat × Nat × Nat) -> Prop) (u : List Sr) (ps : List (Nat × Nat × Nat)) (x t : T) : Prop := match x, ps with
 | .pin v y, (e, i, j) :: ps => y = t /\ okS u (e, some (i, j)) = true /\ onN (σ.ev e) i j v t /\ K ((e, some (i, j)) :: u) ps
 | x, ps => x = t /\ t.flat = true /\ K u ps
theorem qa6 {σ : St} {K K' : List Sr -> List (Nat × Nat × Nat) -> Prop} (hK : ∀ u ps, K u ps -> K' u ps) {u : List Sr} {ps : List (Nat × Nat × Nat)} {x t : T} (h : gvT σ K u ps x t) : gvT σ K' u ps x t := by
 unfold gvT at h ⊢
 split at h
 ·exact ⟨h.1, h.2.1, h.2.2.1, hK _ _ h.2.2.2⟩
 ·exact ⟨h.1, h.2.1, hK _ _ h.2.2⟩
def gvK (σ : St) (K : List Sr -> List (Nat × Nat × Nat) -> Prop) : List Sr -> List (Nat × Nat × Nat) -> List C -> List T -> Prop
 | u, ps, [], [] => K u ps
 | u, ps, .t x :: cs, t :: ts => gvT σ (fun u ps => gvK σ K u ps cs ts) u ps x t
 | u, ps, .nl _ :: cs, .sl _ rows :: ts => rows = [] /\ gvK σ K u ps cs ts
 | u, ps, .ow e g :: cs, .sl sz rows :: ts => okS u (e, none) = true /\ owU (σ.ev e) sz rows g /\ gvK σ K ((e, none) :: u) ps cs ts
 | u, (e, i, j) :: ps, .cv v :: cs, t :: ts => okS u (e, some (i, j)) = true /\ onN (σ.ev e) i j v t /\ gvK σ K ((e, some (i, j)) :: u) ps cs ts
 | _, _, _, _ => False
def rdC : C -> T -> Prop
 | .t x, y => x = y /\ T.nm y = true
 | .fn f [], .fn g [] => f = g
 | .rn x, y => x = y
 | .er cs o, .ptr cs' => o = 0 /\ cs = cs'
 | .nl _, .sl _ rows => rows = []
 | _, _ => False
def rdCs : List C -> List T -> Prop
 | [], [] => True
 | c :: cs, t :: ts => rdC c t /\ rdCs cs ts
 | _, _ => False
def rdV : V -> D -> Prop
 | .one c, .one t => rdC c t
 | .agg cs, .agg ts => rdCs cs ts
 | _, _ => False
def gvA (σ : St) (K : List Sr -> Prop) : List Sr -> List (Nat × Nat × Nat) -> List V -> List (Bool × D) -> Prop
 | u, _, [], [] => K u
 | u, ps, v :: vs, (false, d) :: ds => rdV v d /\ gvA σ K u ps vs ds
 | u, ps, .one c :: vs, (true, .one t) :: ds => gvK σ (fun u ps => gvA σ K u ps vs ds) u ps [c] [t]
 | u, ps, .agg cs :: vs, (true, .agg ts) :: ds => gvK σ (fun u ps => gvA σ K u ps vs ds) u ps cs ts
 | _, _, _, _ => False
theorem zel {σ : St} {K K' : List Sr -> List (Nat × Nat × Nat) -> Prop} (hK : ∀ u ps, K u ps -> K' u ps) : ∀ {cs : List C} {ts : List T} {u : List Sr} {ps : List (Nat × Nat × Nat)}, gvK σ K u ps cs ts -> gvK σ K' u ps cs ts
 | [], [], _, _, h => hK _ _ h
 | [], _ :: _, _, _, h => by cases h
 | c :: cs, [], u, ps, h => by cases c <;> first | exact (show False from h).elim | (cases ps <;> exact (show False from h).elim)
 | c :: cs, t :: ts, u, ps, h => by
  unfold gvK at h ⊢
  split at h
  ·rename_i e1 e2; cases e1
  ·rename_i e1 e2; cases e1; cases e2; exact qa6 (fun u ps h => zel hK h) h
  ·rename_i e1 e2; cases e1; cases e2; exact ⟨h.1, zel hK h.2⟩
  ·rename_i e1 e2; cases e1; cases e2; exact ⟨h.1, h.2.1, zel hK h.2.2⟩
  ·rename_i e1 e2; cases e1; cases e2; exact ⟨h.1, h.2.1, zel hK h.2.2⟩
  ·exact h.elim
theorem zfq {σ : St} {K K' : List Sr -> Prop} (hK : ∀ u, K u -> K' u) : ∀ {xs : List V} {ds : List (Bool × D)} {u : List Sr} {ps : List (Nat × Nat × Nat)}, gvA σ K u ps xs ds -> gvA σ K' u ps xs ds
 | [], [], _, _, h => hK _ h
 | [], _ :: _, _, _, h => h.elim
 | x :: xs, [], _, _, h => by cases x <;> exact h.elim
 | x :: xs, (false, d) :: ds, _, _, h => by unfold gvA at h ⊢; exact ⟨h.1, zfq hK h.2⟩
 | .one c :: xs, (true, .one t) :: ds, _, _, h => by unfold gvA at h ⊢; exact zel (fun u ps hu => zfq hK hu) h
 | .agg cs :: xs, (true, .agg ts) :: ds, _, _, h => by unfold gvA at h ⊢; exact zel (fun u ps hu => zfq hK hu) h
 | .one _ :: _, (true, .agg _) :: _, _, _, h => h.elim
 | .agg _ :: _, (true, .one _) :: _, _, _, h => h.elim
 | .tup _ :: _, (true, d) :: _, _, _, h => by cases d <;> exact h.elim
theorem zaq.fam {w : World} : ∀ {cs : List T} {vs : List Value} {fps : List Nat}, zaq w cs vs fps -> ∃ F : Nat -> List Nat, (∀ k c, cs[k]? = some c -> ∃ v, vs[k]? = some v /\ zar w c v (F k)) /\ (∀ k b, b ∈ F k -> b ∈ fps) /\ (fps.Nodup -> (∀ k, (F k).Nodup) /\ ∀ k k', k ≠ k' -> ∀ b ∈ F k, b ∉ F k')
 | [], vs, fps, h => ⟨fun _ => [], fun k c hc => by simp at hc, by simp, fun _ => ⟨by simp, by simp⟩⟩
 | c :: cs, _, _, h => by
  obtain ⟨v, vs', f1, f2, rfl, rfl, h1, h2⟩ := h
  obtain ⟨F, k1, k2, k3⟩ := zaq.fam h2
  refine ⟨fun k => match k with | 0 => f1 | k + 1 => F k, fun k c' hc => ?_, fun k b hb => ?_, fun hn => ?_⟩
  ·cases k with
   | zero => simp only [List.getElem?_cons_zero, Option.some.injEq] at hc; subst hc; exact ⟨v, rfl, h1⟩
   | succ k => exact k1 k c' (by simpa using hc)
  ·cases k with
   | zero => exact List.mem_append_left _ hb
   | succ k => exact List.mem_append_right _ (k2 k b hb)
  ·obtain ⟨n1, n2, n3⟩ := List.nodup_append.1 hn
   obtain ⟨m1, m2⟩ := k3 n2
   refine ⟨fun k => ?_, fun k k' hne b hb hb' => ?_⟩
   ·cases k with
    | zero => exact n1
    | succ k => exact m1 k
   ·cases k with
    | zero =>
     cases k' with
     | zero => exact hne rfl
     | succ k' => exact n3 b hb b (k2 k' b hb') rfl
    | succ k =>
     cases k' with
     | zero => exact n3 b hb' b (k2 k b hb) rfl
     | succ k' => exact m2 k k' (by omega) b hb hb'
theorem zyf {sz : Nat} : ∀ {rows : List (List T)} {i j : Nat} {r : List T} {c : T}, lens sz rows -> rows[i]? = some r -> r[j]? = some c -> rows.flatten[i * sz + j]? = some c
 | [], _, _, _, _, _, h, _ => by simp at h
 | d :: rows, 0, j, r, c, hl, hr, hc => by
  simp only [List.getElem?_cons_zero, Option.some.injEq] at hr
  subst hr
  have hj : j < d.length := by
   rcases Nat.lt_or_ge j d.length with h | h
   ·exact h
   ·rw [List.getElem?_eq_none h] at hc; cases hc
  rw [List.flatten_cons, List.getElem?_append_left (by omega)]
  simpa using hc
 | d :: rows, i + 1, j, r, c, hl, hr, hc => by
  have hd : d.length = sz := hl d (by simp)
  have := zyf (sz := sz) (rows := rows) (fun r hr => hl r (by simp [hr])) (by simpa using hr) hc
  rw [List.flatten_cons, List.getElem?_append_right (by rw [hd, Nat.add_mul]; omega)]
  rwa [show (i + 1) * sz + j - d.length = i * sz + j by rw [hd, Nat.add_mul]; omega]
structure Fam (w : World) (σ : St) (g : Gh) (B : Sr -> List Nat) : Prop where
 whole : ∀ e, B (e, none) = g.φ e
 cell : ∀ e i j v t, onN (σ.ev e) i j v t -> zar w t v (B (e, some (i, j)))
 sub : ∀ e p b, σ.On e -> b ∈ B (e, p) -> b ∈ g.φ e
 nodup : ∀ e p, σ.On e -> (B (e, p)).Nodup
 apart : ∀ e p p', σ.On e -> p ≠ p' -> ∀ b ∈ B (e, some p), b ∉ B (e, some p')
theorem Rel.fam {n0 : Nat -> Prop} {N : Nat} {σ : St} {g : Gh} {a : Act} {w : World} (hR : Rel n0 N σ g a w) : ∃ B, Fam w σ g B := by
 have h1 : ∀ e, ∃ F : Nat × Nat -> List Nat, ∀ dp sz rows gn, σ.ev e = some ⟨dp, sz, rows, gn, true⟩ -> ((dp = true -> ∀ i j v t, rows[i]?.isSome = true -> (rows.getD i [])[j]? = some (.pin v t) -> zar w t v (F (i, j))) /\ (∀ p b, b ∈ F p -> b ∈ g.φ e) /\ (∀ p, (F p).Nodup) /\ ∀ p p', p ≠ p' -> ∀ b ∈ F p, b ∉ F p') := by
  intro e
  by_cases hon : ∃ sz rows gn, σ.ev e = some ⟨true, sz, rows, gn, true⟩
  ·obtain ⟨sz, rows, gn, he⟩ := hon
   have hnd := hR.nodup e ⟨_, he, rfl⟩
   obtain ⟨ao, cap, vs, k1, k2, k3, k4, k5, k6, k7⟩ := hR.vals he rfl
   rcases k7 with ⟨_, _, k7, k8⟩ | ⟨b, cells, ty, fps, k7, k8, k9, k10, k11, k12, k13⟩
   ·refine ⟨fun _ => [], fun dp sz' rows' gn' he' => ?_⟩
    rw [he, Option.some.injEq] at he'
    cases he'
    have k7 : rows = [] := k7
    subst k7
    exact ⟨fun _ i j v t h => by simp at h, by simp, by simp, by simp⟩
   ·obtain ⟨F, f1, f2, f3⟩ := (k12 rfl).fam
    rw [k8] at hnd
    obtain ⟨m1, m2⟩ := f3 (List.nodup_cons.1 hnd).2
    refine ⟨fun p => if p.2 < sz /\ p.1 < rows.length then F (p.1 * sz + p.2) else [], fun dp sz' rows' gn' he' => ?_⟩
    rw [he, Option.some.injEq] at he'
    cases he'
    refine ⟨fun _ i j v t h1 h2 => ?_, fun p b hb => ?_, fun p => ?_, fun p p' hne b hb hb' => ?_⟩
    ·obtain ⟨r, hr⟩ := Option.isSome_iff_exists.1 h1
     have hg : rows.getD i [] = r := by rw [List.getD_eq_getElem?_getD, hr]; rfl
     rw [hg] at h2
     have hj : j < sz := by
      have : r.length = sz := k4 r (List.mem_of_getElem? hr)
      rcases Nat.lt_or_ge j r.length with h | h
      ·omega
      ·rw [List.getElem?_eq_none h] at h2; cases h2
     have hi : i < rows.length := (List.getElem?_eq_some_iff.1 hr).1
     obtain ⟨u, _, hu⟩ := f1 _ _ (zyf k4 hr h2)
     show zar w t v (if j < sz /\ i < rows.length then F (i * sz + j) else [])
     rw [if_pos ⟨hj, hi⟩]
     unfold zar at hu
     obtain ⟨rfl, hu⟩ := hu
     exact hu
    ·by_cases hp : p.2 < sz /\ p.1 < rows.length
     ·simp only [if_pos hp] at hb; rw [k8]; exact List.mem_cons_of_mem _ (f2 _ _ hb)
     ·simp only [if_neg hp] at hb; simp at hb
    ·by_cases hp : p.2 < sz /\ p.1 < rows.length
     ·simp only [if_pos hp]; exact m1 _
     ·simp only [if_neg hp]; simp
    ·by_cases hp : p.2 < sz /\ p.1 < rows.length
     ·by_cases hp' : p'.2 < sz /\ p'.1 < rows.length
      ·simp only [if_pos hp, if_pos hp'] at hb hb'
       refine m2 _ _ (fun heq => hne ?_) b hb hb'
       obtain ⟨i, j⟩ := p
       obtain ⟨i', j'⟩ := p'
       simp only at hp hp' heq
       have hii : i = i' := by
        rcases Nat.lt_trichotomy i i' with h | h | h
        ·have := Nat.mul_le_mul_right sz (show i + 1 <= i' by omega); rw [Nat.add_mul] at this; omega
        ·exact h
        ·have := Nat.mul_le_mul_right sz (show i' + 1 <= i by omega); rw [Nat.add_mul] at this; omega
       subst hii
       have : j = j' := by omega
       subst this; rfl
      ·simp only [if_neg hp'] at hb'; simp at hb'
     ·simp only [if_neg hp] at hb; simp at hb
  ·refine ⟨fun _ => [], fun dp sz rows gn he => ⟨fun hd => ?_, by simp, by simp, by simp⟩⟩
   subst hd
   exact absurd ⟨sz, rows, gn, he⟩ hon
 refine ⟨fun s => match s.2 with | none => g.φ s.1 | some p => Classical.choose (h1 s.1) p, ⟨fun e => rfl, fun e i j v t ho => ?_, fun e p b ho hb => ?_, fun e p ho => ?_, fun e p p' ho hne b hb => ?_⟩⟩
 ·obtain ⟨⟨dp, sz, rows, gn, on⟩, he, h2, h3, h4, h5⟩ := zai ho
  simp only at h2 h3
  subst h2 h3
  exact (Classical.choose_spec (h1 e) true sz rows gn he).1 rfl i j v t h4 h5
 ·cases p with
  | none => exact hb
  | some p =>
   obtain ⟨⟨dp, sz, rows, gn, on⟩, he, ho⟩ := ho
   simp only at ho
   subst ho
   exact (Classical.choose_spec (h1 e) dp sz rows gn he).2.1 p b hb
 ·cases p with
  | none => exact hR.nodup e ho
  | some p =>
   obtain ⟨⟨dp, sz, rows, gn, on⟩, he, ho⟩ := ho
   simp only at ho
   subst ho
   exact (Classical.choose_spec (h1 e) dp sz rows gn he).2.2.1 p
 ·obtain ⟨⟨dp, sz, rows, gn, on⟩, he, ho⟩ := ho
  simp only at ho
  subst ho
  exact (Classical.choose_spec (h1 e) dp sz rows gn he).2.2.2 p p' hne b hb
def bks (B : Sr -> List Nat) (u : List Sr) : List Nat := u.flatMap B
def okP (s s' : Sr) : Prop := s.1 ≠ s'.1 \/ (s.2 ≠ none /\ s'.2 ≠ none /\ s.2 ≠ s'.2)
theorem okP.symm {s s' : Sr} (h : okP s s') : okP s' s := h.imp (fun h => Ne.symm h) fun h => ⟨h.2.1, h.1, Ne.symm h.2.2⟩
theorem zqg : ∀ {u : List Sr} {s : Sr}, okS u s = true -> ∀ x ∈ u, okP s x
 | [], _, _, x, hx => by simp at hx
 | (e, p) :: u, (e', p'), h, x, hx => by
  unfold okS at h
  rw [Bool.and_eq_true] at h
  rcases List.mem_cons.1 hx with rfl | hx
  ·have h1 := h.1
   by_cases he : e = e'
   ·rw [if_pos he] at h1
    right
    unfold okQ at h1
    split at h1
    ·rename_i a b
     refine ⟨by simp, by simp, fun e => ?_⟩
     simp only [Option.some.injEq] at e
     subst e
     simp at h1
    ·cases h1
   ·left; exact Ne.symm he
  ·exact zqg h.2 x hx
theorem zcw {n0 : Nat -> Prop} {N : Nat} {σ : St} {g : Gh} {a : Act} {w : World} (hR : Rel n0 N σ g a w) {B : Sr -> List Nat} (hB : Fam w σ g B) : ∀ {s : List Sr}, (∀ x ∈ s, σ.On x.1) -> s.Pairwise okP -> (bks B s).Nodup
 | [], _, _ => List.nodup_nil
 | x :: s, ho, hp => by
  obtain ⟨p1, p2⟩ := List.pairwise_cons.1 hp
  unfold bks
  rw [List.flatMap_cons]
  refine List.nodup_append.2 ⟨hB.nodup x.1 x.2 (ho x (by simp)), zcw hR hB (fun y hy => ho y (by simp [hy])) p2, fun b hb b' hb' hbb => ?_⟩
  subst hbb
  obtain ⟨y, hy, hb'⟩ := List.mem_flatMap.1 hb'
  obtain ⟨e, p⟩ := x
  obtain ⟨e', p'⟩ := y
  have o1 := ho (e, p) (by simp)
  have o2 := ho (e', p') (by simp [hy])
  rcases p1 (e', p') hy with h | ⟨h1, h2, h3⟩
  ·exact hR.apart e e' o1 o2 h b (hB.sub e p b o1 hb) (hB.sub e' p' b o2 hb')
  ·by_cases hee : e = e'
   ·subst hee
    cases p with
    | none => exact h1 rfl
    | some p =>
     cases p' with
     | none => exact h2 rfl
     | some p' => exact hB.apart e p p' o1 (fun h => h3 (by rw [h])) b hb hb'
   ·exact hR.apart e e' o1 o2 hee b (hB.sub e p b o1 hb) (hB.sub e' p' b o2 hb')
theorem qdl {σ : St} {e i j : Nat} {v : Value} {t : T} (h : onN (σ.ev e) i j v t) : σ.On e := by
 obtain ⟨x, hx, h2, _⟩ := zai h
 exact ⟨x, hx, h2⟩
section
variable {n0 : Nat -> Prop} {N : Nat} {σ : St} {g : Gh} {a : Act} {w : World} (hR : Rel n0 N σ g a w) {B : Sr -> List Nat} (hB : Fam w σ g B)
include hR hB
theorem zb8 {K : List Sr -> List (Nat × Nat × Nat) -> Prop} : ∀ {cs : List C} {ts : List T} {u : List Sr} {ps : List (Nat × Nat × Nat)} {vs : List Value}, gvK σ K u ps cs ts -> CRs σ g w cs vs →
  ∃ s ps' tp, K (s.reverse ++ u) ps' /\ zs7 w ts vs (bks B s) tp /\ (∀ x ∈ s, σ.On x.1) /\ (u.Pairwise okP -> (s.reverse ++ u).Pairwise okP)
 | [], [], u, ps, vs, h, hv => ⟨[], ps, [], h, ⟨hv, rfl, rfl⟩, by simp, fun h => h⟩
 | [], _ :: _, _, _, _, h, _ => by cases h
 | c :: cs, [], u, ps, vs, h, hv => by cases c <;> first | exact (show False from h).elim | (cases ps <;> exact (show False from h).elim)
 | c :: cs, t :: ts, u, ps, vs, h, hv => by
  obtain ⟨v, vs', rfl, h1, h2⟩ := hv
  unfold gvK at h
  split at h
  ·rename_i e1 e2; cases e1
  ·rename_i x cs' t' ts' e1 e2
   cases e1; cases e2
   unfold gvT at h
   split at h
   ·rename_i v0 y e i j ps0
    obtain ⟨rfl, hok, he, h⟩ := h
    obtain ⟨s, ps', tp, k1, k2, k3, k4⟩ := zb8 h h2
    unfold CR zaf at h1
    obtain ⟨rfl, _⟩ := h1
    have ho := hB.cell e i j v y he
    refine ⟨(e, some (i, j)) :: s, ps', zhw y (B (e, some (i, j))) ++ tp, by simpa using k1, ⟨v, vs', _, bks B s, tp, rfl, by unfold bks; rw [List.flatMap_cons], rfl, ho, k2⟩, fun x hx => ?_, fun hu => ?_⟩
    ·rcases List.mem_cons.1 hx with rfl | hx
     ·exact qdl he
     ·exact k3 x hx
    ·have := k4 (List.pairwise_cons.2 ⟨zqg hok, hu⟩)
     simpa using this
   obtain ⟨rfl, hf, h⟩ := h
   obtain ⟨s, ps', tp, k1, k2, k3, k4⟩ := zb8 h h2
   have ho : zar w x v [] := by
    cases x <;> simp only [T.flat, Bool.false_eq_true] at hf <;> simp only [CR, zaf] at h1 <;> unfold zar
    ·exact ⟨h1.1, h1.2.1, h1.2.2, rfl⟩
    ·exact ⟨h1, rfl⟩
    ·exact ⟨h1.1, h1.2, rfl⟩
    ·exact ⟨h1, rfl⟩
   exact ⟨s, ps', zhw x [] ++ tp, k1, ⟨v, vs', [], _, tp, rfl, rfl, rfl, ho, k2⟩, k3, k4⟩
  ·rename_i z cs' sz rows ts' e1 e2
   cases e1; cases e2
   obtain ⟨rfl, h⟩ := h
   obtain ⟨s, ps', tp, k1, k2, k3, k4⟩ := zb8 h h2
   have ho : zar w (.sl sz []) v [] := by
    unfold zar
    exact ⟨none, 0, h1, by simp, by simp, Or.inl ⟨rfl, rfl, rfl, rfl⟩⟩
   exact ⟨s, ps', zhw (.sl sz []) [] ++ tp, k1, ⟨v, vs', [], _, tp, rfl, rfl, rfl, ho, k2⟩, k3, k4⟩
  ·rename_i e gn cs' sz rows ts' e1 e2
   cases e1; cases e2
   obtain ⟨hok, he, h⟩ := h
   obtain ⟨s, ps', tp, k1, k2, k3, k4⟩ := zb8 h h2
   have hou := he
   obtain ⟨⟨dp, sz0, rows0, gn0, on0⟩, hev, rfl, rfl, hrows, rfl, rfl⟩ := zai hou
   have ho : zar w (.sl sz0 rows) (g.ψ e gn0) (g.φ e) := by
    rcases hrows with rfl | rfl
    ·exact zdf hR hev
    ·exact (zdf hR hev).unpins
   have h1 : v = g.ψ e gn0 /\ _ := h1
   rw [<- h1.1] at ho
   refine ⟨(e, none) :: s, ps', zhw (.sl _ _) (g.φ e) ++ tp, by simpa using k1, ⟨v, vs', g.φ e, bks B s, tp, rfl, by unfold bks; rw [List.flatMap_cons, hB.whole], rfl, ho, k2⟩, fun x hx => ?_, fun hu => ?_⟩
   ·rcases List.mem_cons.1 hx with rfl | hx
    ·exact ⟨_, hev, rfl⟩
    ·exact k3 x hx
   ·have := k4 (List.pairwise_cons.2 ⟨zqg hok, hu⟩)
    simpa using this
  ·rename_i e i j ps0 v0 cs' t' ts' e1 e2
   cases e1; cases e2
   obtain ⟨hok, he, h⟩ := h
   obtain ⟨s, ps', tp, k1, k2, k3, k4⟩ := zb8 h h2
   have h1 : v = v0 := h1
   subst h1
   have ho := hB.cell e i j v t he
   refine ⟨(e, some (i, j)) :: s, ps', zhw t (B (e, some (i, j))) ++ tp, by simpa using k1, ⟨v, vs', _, bks B s, tp, rfl, by unfold bks; rw [List.flatMap_cons], rfl, ho, k2⟩, fun x hx => ?_, fun hu => ?_⟩
   ·rcases List.mem_cons.1 hx with rfl | hx
    ·exact qdl he
    ·exact k3 x hx
   ·have := k4 (List.pairwise_cons.2 ⟨zqg hok, hu⟩)
    simpa using this
  ·exact h.elim
omit hB in
theorem zu3 {FP : List Nat} (hFP : ∀ b ∈ FP, ∃ e, σ.On e /\ b ∈ g.φ e) {c : C} {t : T} {v : Value} (h : rdC c t) (hv : CR σ g w c v) : zaf w (fun b => b < w.heap.size /\ b ∉ FP) t v := by
 unfold rdC at h
 split at h
 ·rename_i x
  obtain ⟨rfl, hn⟩ := h
  exact zhx (σ := σ) (g := g) (x := .one (.t x)) (d := .one x) ⟨rfl, hn⟩ hv _
 ·rename_i f f'
  subst h
  exact zhx (σ := σ) (g := g) (x := .one (.fn f [])) (d := .one (.fn f [])) rfl hv _
 ·subst h
  refine zaf.keep (fun _ _ => rfl) (fun b hb => ⟨hb.1.2.2.1, fun hm => ?_⟩) _ v hv
  obtain ⟨e, ho, hm⟩ := hFP b hm
  exact hb.2 e ho hm
 ·obtain ⟨rfl, rfl⟩ := h
  obtain ⟨b, q, h1, h2, h3⟩ := hv
  have hk : ∀ b, zby σ g w b -> b < w.heap.size /\ b ∉ FP := fun b hb => ⟨hb.1.2.2.1, fun hm => by obtain ⟨e, ho, hm⟩ := hFP b hm; exact hb.2 e ho hm⟩
  unfold zaf
  exact ⟨b, q, h1, hk b h2, zat.keep (fun _ _ => rfl) hk b rfl q _ h3⟩
 ·subst h
  rw [show v = .slice none 0 0 from hv]
  unfold zaf
  exact ⟨none, 0, rfl, by simp, by simp, Or.inl rfl⟩
 ·exact h.elim
omit hB in
theorem zpv {FP : List Nat} (hFP : ∀ b ∈ FP, ∃ e, σ.On e /\ b ∈ g.φ e) : ∀ {cs : List C} {ts : List T} {vs : List Value}, rdCs cs ts -> CRs σ g w cs vs -> zab w (fun b => b < w.heap.size /\ b ∉ FP) ts vs
 | [], [], vs, _, hv => by unfold zab; exact hv
 | [], _ :: _, _, h, _ => h.elim
 | _ :: _, [], _, h, _ => h.elim
 | c :: cs, t :: ts, vs, h, hv => by
  obtain ⟨v, vs', rfl, h1, h2⟩ := hv
  unfold zab
  exact ⟨v, vs', rfl, zu3 hR hFP h.1 h1, zpv hFP h.2 h2⟩
theorem zfs {K : List Sr -> Prop} : ∀ {xs : List V} {ds : List (Bool × D)} {u : List Sr} {ps : List (Nat × Nat × Nat)} {vs : List Value}, gvA σ K u ps xs ds -> VRl σ g w xs vs →
  ∃ s, K (s.reverse ++ u) /\ (∀ FP : List Nat, (∀ b ∈ FP, ∃ e, σ.On e /\ b ∈ g.φ e) -> ∃ tp, zao w (fun b => b < w.heap.size /\ b ∉ FP) ds vs (bks B s) tp) /\ (∀ x ∈ s, σ.On x.1) /\ (u.Pairwise okP -> (s.reverse ++ u).Pairwise okP)
 | [], [], u, ps, vs, h, hv => ⟨[], h, fun _ _ => ⟨[], hv, rfl, rfl⟩, by simp, fun h => h⟩
 | [], _ :: _, _, _, _, h, _ => h.elim
 | x :: xs, [], _, _, _, h, _ => by cases x <;> exact h.elim
 | x :: xs, (false, d) :: ds, u, ps, vs, h, hv => by
  obtain ⟨v, vs', rfl, h1, h2⟩ := hv
  unfold gvA at h
  obtain ⟨hr, h⟩ := h
  obtain ⟨s, k1, k2, k3, k4⟩ := zfs h h2
  refine ⟨s, k1, fun FP hFP => ?_, k3, k4⟩
  obtain ⟨tp, k2⟩ := k2 FP hFP
  refine ⟨tp, v, vs', rfl, ?_, k2⟩
  unfold rdV at hr
  split at hr
  ·exact zu3 hR hFP hr h1
  ·obtain ⟨b, e, h1⟩ := h1; exact ⟨b, e, zpv hR hFP hr h1⟩
  ·exact hr.elim
 | .one c :: xs, (true, .one t) :: ds, u, ps, vs, h, hv => by
  obtain ⟨v, vs', rfl, h1, h2⟩ := hv
  unfold gvA at h
  obtain ⟨s, ps', tp, k1, k2, k3, k4⟩ := zb8 hR hB h (vs := [v]) ⟨v, [], rfl, h1, rfl⟩
  obtain ⟨s', j1, j2, j3, j4⟩ := zfs k1 h2
  obtain ⟨v0, vs0, f1, f2, t2, e0, e1, rfl, q1, q2⟩ := k2
  cases e0
  obtain ⟨_, rfl, rfl⟩ := q2
  rw [List.append_nil] at e1
  refine ⟨s ++ s', by simpa using j1, fun FP hFP => ?_, fun x hx => ?_, fun hu => by simpa using j4 (k4 hu)⟩
  ·obtain ⟨tp', j2⟩ := j2 FP hFP
   exact ⟨zhw t f1 ++ tp', v, vs', bks B s, bks B s', _, tp', rfl, by unfold bks; rw [List.flatMap_append], rfl, ⟨by rw [e1]; exact q1, by rw [e1]⟩, j2⟩
  ·rcases List.mem_append.1 hx with hx | hx
   ·exact k3 x hx
   ·exact j3 x hx
 | .agg cs :: xs, (true, .agg ts) :: ds, u, ps, vs, h, hv => by
  obtain ⟨v, vs', rfl, ⟨y, rfl, h1⟩, h2⟩ := hv
  unfold gvA at h
  obtain ⟨s, ps', tp, k1, k2, k3, k4⟩ := zb8 hR hB h h1
  obtain ⟨s', j1, j2, j3, j4⟩ := zfs k1 h2
  refine ⟨s ++ s', by simpa using j1, fun FP hFP => ?_, fun x hx => ?_, fun hu => by simpa using j4 (k4 hu)⟩
  ·obtain ⟨tp', j2⟩ := j2 FP hFP
   exact ⟨tp ++ tp', _, vs', bks B s, bks B s', tp, tp', rfl, by unfold bks; rw [List.flatMap_append], rfl, ⟨y, rfl, k2⟩, j2⟩
  ·rcases List.mem_append.1 hx with hx | hx
   ·exact k3 x hx
   ·exact j3 x hx
 | .one _ :: _, (true, .agg _) :: _, _, _, _, h, _ => h.elim
 | .agg _ :: _, (true, .one _) :: _, _, _, _, h, _ => h.elim
 | .tup _ :: _, (true, d) :: _, _, _, _, h, _ => by cases d <;> exact h.elim
end
end Go.Proofs.Yteeaofpphmhjdaa
namespace Go.Proofs.Yteeaofpphmhjdaa
set_option linter.unusedSimpArgs false
set_option linter.unusedVariables false
set_option linter.unusedSectionVars false
set_option maxRecDepth 4000
open Go.RowKit
variable {P : Program}
def C.okU (τ : St) : C -> Prop
 | .t x => x.flat = true
 | .nl _ => True
 | .ow e g => zal (τ.ev e) fun x => g <= x.gen
 | .bx b _ => τ.bx b ≠ none
 | .el _ _ => False
 | .er _ _ => True
 | .eo e s _ _ _ => zal (τ.ev e) fun x => s <= x.gen
 | .fn _ caps => zro τ caps
 | .cv _ => True
 | .any => True
 | .rn _ => True
def qeg (τ : St) : List C -> Prop
 | [] => True
 | c :: cs => c.okU τ /\ qeg τ cs
def okUt (τ : St) : List (Bool × List C) -> Prop
 | [] => True
 | x :: xs => qeg τ x.2 /\ okUt τ xs
def V.okU (τ : St) : V -> Prop
 | .one c => c.okU τ
 | .agg cs => qeg τ cs
 | .tup xs => okUt τ xs
section
variable {σ τ : St} {g g' : Gh} {w w' : World} {ev' : Nat -> Option Ev} (hβ : g'.β = g.β) (hψ : ∀ e, τ.ev e ≠ none -> ev' e = τ.ev e /\ g'.ψ e = g.ψ e) (hrn : ∀ b, zby σ g w b -> w'.heap[b]? = w.heap[b]? /\ zby ⟨τ.sl, τ.bx, ev'⟩ g' w' b)
include hβ hψ hrn
theorem zyt {c : C} {v : Value} (hc : c.okU τ) (h : CR σ g w c v) : CR ⟨τ.sl, τ.bx, ev'⟩ g' w' c v := by
 have hh : ∀ {e n : Nat}, zal (τ.ev e) (fun x => n <= x.gen) -> g'.ψ e = g.ψ e /\ St.has ⟨τ.sl, τ.bx, ev'⟩ e n := fun {e n} ho => by
  obtain ⟨x, hx, hn⟩ := zai ho
  obtain ⟨k1, k2⟩ := hψ e (by rw [hx]; simp)
  exact ⟨k2, x, k1.trans hx, hn⟩
 cases c with
 | t x => exact zcg hc h
 | nl s => exact h
 | ow e n => obtain ⟨k1, k2⟩ := hh hc; exact ⟨by rw [k1]; exact h.1, k2⟩
 | bx b o => exact ⟨by rw [hβ]; exact h.1, hc⟩
 | el cs o => exact hc.elim
 | eo e s sz i o => obtain ⟨k1, k2⟩ := hh hc; obtain ⟨b, n, c, q1, q2, q3, q4⟩ := h; exact ⟨b, n, c, by rw [k1]; exact q1, q2, q3, k2⟩
 | fn f caps => exact ⟨by rw [hβ]; exact h.1, fun b hb => zhg (show zro τ caps from hc) b hb⟩
 | cv u => exact h
 | any => trivial
 | rn x => exact zaf.keep (fun b hb => (hrn b hb).1) (fun b hb => (hrn b hb).2) x v h
 | er cs o => obtain ⟨b, q, h1, h2, h3⟩ := h; exact ⟨b, q, h1, (hrn b h2).2, zat.keep (fun b hb => (hrn b hb).1) (fun b hb => (hrn b hb).2) b (hrn b h2).1 q cs h3⟩
theorem zj9 : ∀ {cs : List C} {vs : List Value}, qeg τ cs -> CRs σ g w cs vs -> CRs ⟨τ.sl, τ.bx, ev'⟩ g' w' cs vs
 | [], _, _, h => h
 | c :: cs, vs, hc, h => by
  obtain ⟨v, vs', rfl, h1, h2⟩ := h
  exact ⟨v, vs', rfl, zyt hβ hψ hrn hc.1 h1, zj9 hc.2 h2⟩
theorem zwu : ∀ {xs : List (Bool × List C)} {vs : List Value}, okUt τ xs -> CRt σ g w xs vs -> CRt ⟨τ.sl, τ.bx, ev'⟩ g' w' xs vs
 | [], _, _, h => h
 | x :: xs, vs, hc, h => by
  obtain ⟨v, vs', rfl, h1, h2⟩ := h
  refine ⟨v, vs', rfl, ?_, zwu hc.2 h2⟩
  unfold CRx at h1 ⊢
  split at h1
  ·rw [if_pos ‹_›]; obtain ⟨a, k1, k2⟩ := h1; exact ⟨a, k1, zj9 hβ hψ hrn hc.1 k2⟩
  ·rw [if_neg ‹_›]
   obtain ⟨c, k1, k2⟩ := h1
   refine ⟨c, k1, zyt hβ hψ hrn ?_ k2⟩
   have := hc.1
   rw [k1] at this
   exact this.1
theorem okU_vr {x : V} {v : Value} (hc : x.okU τ) (h : VR σ g w x v) : VR ⟨τ.sl, τ.bx, ev'⟩ g' w' x v := by
 cases x with
 | one c => exact zyt hβ hψ hrn hc h
 | agg cs => obtain ⟨a, k1, k2⟩ := h; exact ⟨a, k1, zj9 hβ hψ hrn hc k2⟩
 | tup xs => obtain ⟨a, k1, k2⟩ := h; exact ⟨a, k1, zwu hβ hψ hrn hc k2⟩
end
def qa2 {α : Type} : List (Nat × α) -> Nat -> Prop
 | [], _ => True
 | p :: l, i => (i = p.1) = False /\ qa2 l i
def okL (τ : St) : List (Nat × V) -> Prop
 | [] => True
 | p :: l => p.2.okU τ /\ okL τ l
def okB (τ : St) : List (Nat × List C) -> Prop
 | [] => True
 | p :: l => qeg τ p.2 /\ okB τ l
def okE : List (Nat × Ev) -> Prop
 | [] => True
 | p :: l => p.2.on = true /\ p.2.deep = true /\ okE l
def zue (el : List (Nat × Ev)) : List Sr -> Prop
 | [] => True
 | s :: u => qa2 el s.1 /\ zue el u
theorem zma {α : Type} : ∀ {l : List (Nat × α)} {i : Nat}, qa2 l i -> tbl l i = none
 | [], _, _ => rfl
 | (j, v) :: l, i, h => by unfold tbl; rw [if_neg (fun e => of_eq_false h.1 e), zma h.2]
theorem zhs {el : List (Nat × Ev)} : ∀ {u : List Sr}, zue el u -> ∀ s ∈ u, tbl el s.1 = none
 | [], _, s, hs => by simp at hs
 | x :: u, h, s, hs => by
  rcases List.mem_cons.1 hs with rfl | hs
  ·exact zma h.1
  ·exact zhs h.2 s hs
theorem zo7 {τ : St} : ∀ {l : List (Nat × V)}, okL τ l -> ∀ i, (zdr l i).okU τ
 | [], _, _ => trivial
 | (j, v) :: l, h, i => by
  unfold zdr
  split
  ·exact h.1
  ·exact zo7 h.2 i
theorem zod {τ : St} : ∀ {l : List (Nat × List C)}, okB τ l -> ∀ b cs, tbl l b = some cs -> qeg τ cs
 | [], _, _, _, h => by cases h
 | (j, v) :: l, h, b, cs, hb => by
  unfold tbl at hb
  split at hb
  ·cases hb; exact h.1
  ·exact zod h.2 b cs hb
theorem zno : ∀ {l : List (Nat × Ev)}, okE l -> ∀ e x, tbl l e = some x -> x.on = true /\ x.deep = true
 | [], _, _, _, h => by cases h
 | (j, v) :: l, h, e, x, hb => by
  unfold tbl at hb
  split at hb
  ·cases hb; exact ⟨h.1, h.2.1⟩
  ·exact zno h.2.2 e x hb
attribute [go_sem] gvT owU zdj zlk qa2 okL okB okE zue C.okU qeg okUt V.okU gvA gvK okS okQ rdV rdC rdCs
end Go.Proofs.Yteeaofpphmhjdaa
namespace Go.Proofs.Yteeaofpphmhjdaa
set_option linter.unusedSimpArgs false
set_option linter.unusedVariables false
set_option linter.unusedSectionVars false
set_option maxRecDepth 4000
open Go.RowKit
variable {P : Program}
def litRs : Option (Nat × List (List C)) -> List (List C)
 | some p => p.2
 | none => []
def blK (d : Nat) : Option (Ev × List (Nat × Ev)) -> List (Nat × Ev)
 | some (x, cons) => (d * 32, x) :: zsl cons
 | none => []
def apKs : Option (Prop × Nat × Ev × List (Nat × Ev)) -> List Ky
 | some (_, e, _, cons) => (2, e) :: cons.map (fun p => (2, p.1))
 | none => []
section
variable {ks : List Fr} {Q : Exit -> St -> Prop} {σ : St} {ops : Array Oper} {os : List Oper} {L : List (List Ky × List Ky)} {d : Nat} {t : TypeId} {ty : TypeId} {ps : String} {af : Array Edge} {len : Nat} {parts : Array (Nat × Operand)} {s y : Operand}
theorem zfn (h : zal (blD P σ t len parts) fun r => σ.ev (d * 32) = none /\ (r.2.map (·.1)).Nodup)
  (k : exd P ops os (L ++ [(zap (parts.toList.map (·.2)) ++ (rK (litRs (zon P (σ.get P) t len parts)) ++ [(2, d * 32)]), dK (some d) ++ eK (blK d (blD P σ t len parts)))]) ks Q ((σ.bl d (blD P σ t len parts)).put (some d) (.one (.ow (d * 32) 0)))) :
  exd P ops (⟨some d, .buildSlice t len parts, ty, ps, af, none⟩ :: os) L ks Q σ := by
 obtain ⟨⟨x, cons⟩, h1, h2, h3⟩ := zai h
 rw [h1] at k
 unfold blD at h1
 obtain ⟨p, e1, h1⟩ := Option.bind_eq_some_iff.1 h1
 obtain ⟨q, e2, h1⟩ := Option.map_eq_some_iff.1 h1
 simp only [Prod.mk.injEq] at h1
 obtain ⟨rfl, rfl⟩ := h1
 rw [e1] at k
 exact qft ⟨e1, e2, h2, h3⟩ k
theorem qfe (dp2 : Bool) (h : zal (apV P σ d t s y dp2) fun r => r.1) (k : exd P ops os (L ++ [(zap [s, y] ++ apKs (apV P σ d t s y dp2), dK (some d) ++ apKs (apV P σ d t s y dp2))]) ks Q (σ.apV d (apV P σ d t s y dp2))) :
  exd P ops (⟨some d, .call ⟨.builtin .append, #[s, y], #[t, t]⟩, ty, ps, af, none⟩ :: os) L ks Q σ := by
 obtain ⟨⟨p, e, x, cons⟩, h1, h2⟩ := zai h
 rw [h1] at k
 unfold Go.Proofs.Yteeaofpphmhjdaa.apV at h1
 split at h1
 ·rename_i e0 gn e2 gn2 hs hy
  obtain ⟨x0, k1, h3⟩ := Option.bind_eq_some_iff.1 h1
  obtain ⟨z, k2, h4⟩ := Option.bind_eq_some_iff.1 h3
  clear h1 h3
  by_cases hc : x0.gen = gn /\ x0.on = true /\ z.gen = gn2 /\ z.on = true /\ z.sz = x0.sz /\ e2 ≠ e0
  ·rw [if_pos hc] at h4
   obtain ⟨rfl, c2, rfl, c4, c5, c6⟩ := hc
   simp only [Option.some.injEq, Prod.mk.injEq] at h4
   obtain ⟨rfl, rfl, rfl, rfl⟩ := h4
   obtain ⟨dp, sz, rows, gn, on⟩ := x0
   obtain ⟨dp2, sz2, rows2, gn2, on2⟩ := z
   simp only at c2 c4 c5
   subst c2 c4 c5
   exact dApOO ⟨hs, zz9 hy, k1, k2, c6, rfl⟩ h2.1 h2.2 k
  ·rw [if_neg hc] at h4; cases h4
 ·rename_i e0 gn sz rows2 hs hy
  obtain ⟨x0, k1, h4⟩ := Option.bind_eq_some_iff.1 h1
  clear h1
  by_cases hc : x0.gen = gn /\ x0.on = true /\ sz = x0.sz
  ·rw [if_pos hc] at h4
   obtain ⟨rfl, c2, rfl⟩ := hc
   simp only [Option.some.injEq, Prod.mk.injEq] at h4
   obtain ⟨rfl, rfl, rfl, rfl⟩ := h4
   obtain ⟨dp, sz, rows, gn, on⟩ := x0
   simp only at c2
   subst c2
   exact dApOT dp2 ⟨hs, hy, k1⟩ (fun hd => zf4 (h2.2.2 hd)) h2.1 h2.2.1 k
  ·rw [if_neg hc] at h4; cases h4
 ·rename_i z0 e2 gn2 hs hy
  obtain ⟨z, k2, h4⟩ := Option.bind_eq_some_iff.1 h1
  clear h1
  by_cases hc : z.gen = gn2 /\ z.on = true /\ e2 ≠ d * 32
  ·rw [if_pos hc] at h4
   obtain ⟨rfl, c2, c3⟩ := hc
   simp only [Option.some.injEq, Prod.mk.injEq] at h4
   obtain ⟨rfl, rfl, rfl, rfl⟩ := h4
   obtain ⟨dp2, sz2, rows2, gn2, on2⟩ := z
   simp only at c2
   subst c2
   exact dApNO ⟨hs, zz9 hy, h2.2.2, k2, c3⟩ h2.1 h2.2.1 k
  ·rw [if_neg hc] at h4; cases h4
 ·rename_i z0 sz rows2 hs hy
  simp only [Option.some.injEq, Prod.mk.injEq] at h1
  obtain ⟨rfl, rfl, rfl, rfl⟩ := h1
  exact dApNT dp2 ⟨hs, hy, h2.2.2.2⟩ (fun hd => zf4 (h2.2.2.1 hd)) h2.1 h2.2.1 k
 ·cases h1
end
attribute [go_sem] litRs blK apKs
end Go.Proofs.Yteeaofpphmhjdaa
namespace Go.Proofs.Yteeaofpphmhjdaa
set_option linter.unusedSimpArgs false
set_option linter.unusedVariables false
set_option linter.unusedSectionVars false
set_option maxRecDepth 4000
open Go.RowKit
variable {P : Program}
def PX (P : Program) (rs : List ResultVar) (res : List D) (σ : St) : Prop := ∃ pl, zal (zbf P σ rs) fun vs => gvA σ (fun _ => True) [] pl vs (res.map fun d => (true, d))
def PS (P : Program) (rs : List ResultVar) (res : List D) (e : Exit) (σ : St) : Prop := match e with
 | .normal => PF P rs res .normal σ \/ PX P rs res σ
 | .ret => PF P rs res .ret σ \/ PX P rs res σ
 | _ => False
theorem zgj {w : World} {A : Nat -> Prop} : ∀ {res : List D} {vs : List Value} {fp tp : List Nat}, zao w A (res.map fun d => (true, d)) vs fp tp -> GDs w res vs fp tp
 | [], _, _, _, h => h
 | d :: ds, _, _, _, h => by
  obtain ⟨v, vs', f1, f2, t1, t2, rfl, rfl, rfl, h1, h2⟩ := h
  exact ⟨v, vs', f1, f2, t1, t2, rfl, rfl, rfl, h1, zgj h2⟩
theorem zy5 {n0 : Nat -> Prop} {N : Nat} {σ : St} {g : Gh} {a : Act} {w : World} (hR : Rel n0 N σ g a w) {vs : List V} {res : List D} {pl : List (Nat × Nat × Nat)} (h : gvA σ (fun _ => True) [] pl vs (res.map fun d => (true, d))) {us : List Value} (hv : VRl σ g w vs us) :
  ∃ fp tp, GDs w res us fp tp /\ fp.Nodup /\ ∀ b ∈ fp, ∃ e, σ.On e /\ b ∈ g.φ e := by
 obtain ⟨B, hB⟩ := hR.fam
 obtain ⟨s, k1, k2, k3, k4⟩ := zfs hR hB h hv
 rw [List.append_nil] at k4
 have hsp : s.Pairwise okP := (List.pairwise_reverse.1 (k4 List.Pairwise.nil)).imp fun h => h.symm
 obtain ⟨tp, k2⟩ := k2 [] (by simp)
 refine ⟨_, tp, zgj k2, zcw hR hB k3 hsp, fun b hb => ?_⟩
 obtain ⟨x, hx, hm⟩ := List.mem_flatMap.1 hb
 exact ⟨x.1, k3 x hx, hB.sub x.1 x.2 b (k3 x hx) hm⟩
theorem GC_ofW {f : FuncId} {fn : Func} {c : Code} {args : List (Bool × D)} {res : List D} (hc : zaz P f) (hf : P.funcs[f]? = some fn) (hb : fn.body = some c) (hd : za6 fn.ntmps c = true) (hN : args.length <= fn.ntmps) (hs : za8 args)
  (h : ∀ (w : World) (vs : List Value) (fp tp : List Nat), zao w (fun b => b < w.heap.size /\ b ∉ fp) args vs fp tp -> ∀ (g : Gh) (a : Act), Rel (fun b => b < w.heap.size /\ b ∉ fp) fn.ntmps (zd3 args) g a w -> (a.tmps = (⟨vs⟩ : Array Value) ++ Array.replicate (fn.ntmps - vs.length) undef /\ (g.A0, g.R0) = ((fun _ => True), RP.of fun b => b ∈ fp \/ w.heap.size <= b)) →
   ∃ σ0, ex P c [] (PS P fn.results.toList res) σ0 /\ Rel (fun b => b < w.heap.size /\ b ∉ fp) fn.ntmps σ0 g a w) : GC P f args res := by
 refine ⟨hc, fun w vs fp tp hv hn => ?_⟩
 refine calls_of_wp hf hb ?_
 have hv' : zao w (fun b => b < w.heap.size /\ True /\ b ∉ fp) args vs fp tp := zao.keepA (fun b hb => ⟨hb.1, trivial, hb.2⟩) hv
 obtain ⟨g, hg, hR⟩ := Rel.start (A0 := fun _ => True) (R0 := RP.of fun b => b ∈ fp \/ w.heap.size <= b) (N := fn.ntmps) hv' hn hs hN (fun _ _ => trivial) (fun b hb => ⟨trivial, Or.inl hb⟩) (fun b hb => ⟨trivial, by
  by_cases hlt : b < w.heap.size
  ·exact Or.inl (Classical.byContradiction fun h => hb ⟨hlt, h⟩)
  ·exact Or.inr (by omega)⟩)
 obtain ⟨σ0, hex, hR0⟩ := h w vs fp tp hv g _ hR ⟨rfl, hg⟩
 refine wp_mono (za7 (w0 := w) c σ0 _ hd hex g _ w hR0 (fun k hk => hk.1) (Bk.refl _ _) hg) fun e a' w' hq => ?_
 obtain ⟨σ', g', h1, h2, h3, h4, h5⟩ := hq
 have fin : ∀ {us : List Value} {v : Value}, (results fn a'.tmps).run P w' = .ok v w' -> v = zbd us -> (∃ fp' tp', GDs w' res us fp' tp' /\ fp'.Nodup /\ ∀ b ∈ fp', ∃ e, σ'.On e /\ b ∈ g'.φ e) -> ∃ v, (results fn a'.tmps).run P w' = .ok v w' /\ ∃ us fp' tp', Ending.returned v = .returned (zbd us) /\ GDs w' res us fp' tp' /\ fp'.Nodup /\ (∀ b ∈ fp', b ∈ fp \/ w.heap.size <= b) /\ Bk (fun k => k < w.heap.size /\ k ∉ fp) w w' := fun {us v} r1 rv ⟨fp', tp', o1, o2, o3⟩ => by
  refine ⟨_, r1, us, fp', tp', by rw [rv], o1, o2, fun b hb => ?_, h4⟩
  obtain ⟨e, l, m⟩ := o3 b hb
  have := (h2.ebase e l b m).2
  rw [(Prod.mk.inj h5).2] at this
  exact this
 have key : (zal (zbf P σ' fn.results.toList) (fun vs => zqv σ' [] vs res) \/ PX P fn.results.toList res σ') -> ∃ v, (results fn a'.tmps).run P w' = .ok v w' /\ ∃ us fp' tp', Ending.returned v = .returned (zbd us) /\ GDs w' res us fp' tp' /\ fp'.Nodup /\ (∀ b ∈ fp', b ∈ fp \/ w.heap.size <= b) /\ Bk (fun k => k < w.heap.size /\ k ∉ fp) w w' := fun hk => by
  rcases hk with hk | ⟨pl, hk⟩
  ·obtain ⟨vs, hvs, hk⟩ := zai hk
   obtain ⟨us, r1, r2⟩ := zba h2 fn hvs
   obtain ⟨used, fp', tp', o1, o2⟩ := zcb h2 hk r2
   exact fin r1 rfl ⟨fp', tp', o1, o2.1, fun b hb => by obtain ⟨e, _, _, l, m⟩ := o2.2.1 b hb; exact ⟨e, l, m⟩⟩
  ·obtain ⟨vs, hvs, hk⟩ := zai hk
   obtain ⟨us, r1, r2⟩ := zba h2 fn hvs
   exact fin r1 rfl (zy5 h2 hk r2)
 cases e with
 | normal => exact ⟨h2.defers, key h1⟩
 | ret => exact ⟨h2.defers, key h1⟩
 | exit _ => exact h1.elim
 | goto _ => exact h1.elim
 | panic _ => exact h1.elim
 | outgrown => exact h1.elim
theorem qdb (p : Prop) : (p \/ True) = True := by simp
theorem qb7 (p : Prop) : (True \/ p) = True := by simp
theorem zt9 {α : Type} (x : α) (xs : List α) (d : α) : (x :: xs).getD 0 d = x := rfl
theorem qac {α : Type} (x y : α) (xs : List α) (d : α) : (x :: y :: xs).getD 1 d = y := rfl
attribute [go_sem] zt9 qac
attribute [go_sem] Bool.false_and Bool.and_false Bool.and_self
attribute [go_sem] PS qdb qb7
section
variable (A B : List (List T)) (r : List T)
theorem qdd {k : Nat} (h : A.length = k) : (A ++ r :: B).getD k [] = r := by subst h; simp
theorem qg6 {k : Nat} (h : A.length = k) : (A ++ r :: B)[k]? = some r := by subst h; simp
theorem zwp {k : Nat} (h : A.length = k) (o : Nat) (ts : List T) : zcq (A ++ r :: B) k o ts = A ++ setR r o ts :: B := by subst h; simp [zcq]
theorem znt {k : Nat} (h : A.length = k) (j : Nat) (t : T) : zj7 (A ++ r :: B) k j t = A ++ r.set j t :: B := by subst h; simp [zj7]
end
theorem zsh (vs : Nat -> Nat -> Value) (i : Nat) (r : List T) (rs : List (List T)) : ze2 vs i (r :: rs) = zzl (vs i) 0 r :: ze2 vs (i + 1) rs := rfl
theorem ztn (us : Nat -> Value) (j : Nat) (c : T) (cs : List T) : zzl us j (c :: cs) = pinC (us j) c :: zzl us (j + 1) cs := rfl
theorem qcs (us : Nat -> Value) (j : Nat) : zzl us j [] = [] := rfl
theorem qfo (v : Value) (sz : Nat) (rows : List (List T)) : pinC v (.sl sz rows) = .pin v (.sl sz rows) := rfl
theorem qce (v : Value) (k : IntKind) (n : Int) : pinC v (.int k n) = .int k n := rfl
theorem zwv (vs : Nat -> Nat -> Value) (i : Nat) : ze2 vs i [] = [] := rfl
theorem znr (n m : Nat) : (n < n + (m + 1)) = True := by simp
attribute [go_sem] PI znr zwv zsh ztn qcs qfo qce zfm List.length_append qg6 qdd zwp znt
theorem qfc (n : Nat) : ((n : Int) < 0) = False := by simp
attribute [go_sem] qfc List.set_cons_succ List.set_cons_zero
end Go.Proofs.Yteeaofpphmhjdaa
namespace Go.Proofs.Yteeaofpphmhjdaa
set_option linter.unusedSimpArgs false
set_option linter.unusedVariables false
set_option linter.unusedSectionVars false
set_option maxRecDepth 4000
open Go.RowKit
variable {P : Program}
def D.toN : D -> V
 | .one t => .one t.toN
 | .agg ts => .agg (ts.map T.toN)
def zgg : Nat -> List D -> Nat -> V
 | _, [] => fun _ => .one .any
 | k, d :: ds => upd (zgg (k + 1) ds) k d.toN
def zft (args : List D) : St := ⟨zgg 0 args, fun _ => none, fun _ => none⟩
theorem zl9 : ∀ (ds : List D) (k i : Nat), zgg k ds (k + i) = match ds[i]? with | some d => d.toN | none => .one .any
 | [], k, i => by simp [zgg]
 | d :: ds, k, 0 => by simp [zgg, upd]
 | d :: ds, k, i + 1 => by
  unfold zgg
  rw [zaj _ _ (by omega), show k + (i + 1) = k + 1 + i by omega, zl9 ds (k + 1) i]
  simp
theorem zuf {σ : St} {g : Gh} {w : World} {A : Nat -> Prop} (hA : ∀ b, A b -> zby σ g w b) {x : T} {v : Value} (h : zaf w A x v) : CR σ g w x.toN v := by
 cases x <;> first | exact zaf.keep (fun _ _ => rfl) (fun b hb => (hA b hb).1) _ v h | exact zaf.keep (fun _ _ => rfl) hA _ v h
theorem zoc {σ : St} {g : Gh} {w : World} {A : Nat -> Prop} (hA : ∀ b, A b -> zby σ g w b) : ∀ {ts : List T} {vs : List Value}, zab w A ts vs -> CRs σ g w (ts.map T.toN) vs
 | [], vs, h => by unfold zab at h; exact h
 | t :: ts, vs, h => by
  unfold zab at h
  obtain ⟨v, vs', rfl, h1, h2⟩ := h
  exact ⟨v, vs', rfl, zuf hA h1, zoc hA h2⟩
theorem qd4 {σ : St} {g : Gh} {w : World} {A : Nat -> Prop} (hA : ∀ b, A b -> zby σ g w b) {d : D} {v : Value} (h : zta w A d v) : VR σ g w d.toN v := by
 cases d with
 | one t => exact zuf hA h
 | agg ts => obtain ⟨a, h0, h1⟩ := h; exact ⟨a, h0, zoc hA h1⟩
theorem zbc.at {w : World} {A : Nat -> Prop} : ∀ {ds : List D} {vs : List Value}, zbc w A ds vs -> ∀ (i : Nat) d, ds[i]? = some d -> ∃ v, vs[i]? = some v /\ zta w A d v
 | [], _, _, i, d, h => by simp at h
 | d0 :: ds, vs, h, 0, d, hi => by
  obtain ⟨v, vs', rfl, h1, h2⟩ := h
  simp only [List.getElem?_cons_zero, Option.some.injEq] at hi
  subst hi; exact ⟨v, rfl, h1⟩
 | d0 :: ds, vs, h, i + 1, d, hi => by
  obtain ⟨v, vs', rfl, h1, h2⟩ := h
  simpa using zbc.at h2 i d (by simpa using hi)
theorem zbq {w : World} {A : Nat -> Prop} : ∀ {ds : List D} {vs : List Value} {fp tp : List Nat}, zao w A (rd ds) vs fp tp -> zbc w A ds vs /\ fp = [] /\ tp = []
 | [], _, _, _, h => ⟨h.1, h.2.1, h.2.2⟩
 | d :: ds, _, _, _, h => by
  obtain ⟨v, vs', rfl, h1, h2⟩ := h
  obtain ⟨k1, k2, k3⟩ := zbq h2
  exact ⟨⟨v, vs', rfl, h1, k1⟩, k2, k3⟩
theorem zhm {args : List D} {w : World} {vs : List Value} {N : Nat} {g : Gh} {a : Act} (hr : zbc w (fun b => b < w.heap.size /\ b ∉ ([] : List Nat)) args vs) (hR : Rel (fun b => b < w.heap.size /\ b ∉ ([] : List Nat)) N (zd3 (rd args)) g a w)
  (hg : a.tmps = (⟨vs⟩ : Array Value) ++ Array.replicate (N - vs.length) undef /\ (g.A0, g.R0) = ((fun _ => True), RP.of fun b => b ∈ ([] : List Nat) \/ w.heap.size <= b)) : Rel (fun b => b < w.heap.size /\ b ∉ ([] : List Nat)) N (zft args) g a w := by
 have hbx : ∀ (ds : List D) (k : Nat), zfk k (rd ds) = fun _ => none := fun ds => by
  induction ds with
  | nil => intro k; rfl
  | cons d ds ih => intro k; exact ih (k + 1)
 have hG : ∀ b, (b < w.heap.size /\ b ∉ ([] : List Nat)) -> zby (zft args) g w b := fun b hb => by
  refine ⟨⟨fun k hk => absurd rfl hk, fun e x he _ => (by cases he), hb.1, by rw [(Prod.mk.inj hg.2).1]; trivial⟩, ?_⟩
  rintro e ⟨x, hx, _⟩
  cases hx
 refine hR.slots_of (σ' := zft args) rfl ?_ hR.defers hR.size fun i => ?_
 ·show (fun _ => none) = zfk 0 (rd args)
  rw [hbx]
 ·have hm : Mv (zft args) (zft args) g g w w := Mv.of_eq g w rfl rfl
  show VR (zd3 (rd args)) g w (zgg 0 args i) _
  have hi := zl9 args 0 i
  rw [Nat.zero_add] at hi
  rw [hi]
  cases hd : args[i]? with
  | none => trivial
  | some d =>
   obtain ⟨v, hv1, hv2⟩ := zbc.at hr i d hd
   have hlt : i < vs.length := (List.getElem?_eq_some_iff.1 hv1).1
   have e : a.tmps.getD i (g.R0.ξ i) = v := by
    rw [hg.1]
    rw [Array.getD_eq_getD_getElem?, Array.getElem?_append_left (by simpa using hlt)]
    simp [hv1]
   rw [e]
   have hx := qd4 hG hv2
   exact (Mv.of_eq (σ := zft args) (σ' := zd3 (rd args)) g w rfl (by show zfk 0 (rd args) = fun _ => none; rw [hbx])).vr hx
theorem zde {f : FuncId} {fn : Func} {c : Code} {args res : List D} (hc : zaz P f) (hf : P.funcs[f]? = some fn) (hb : fn.body = some c) (hd : za6 fn.ntmps c = true) (hN : (rd args).length <= fn.ntmps)
  (h : ex P c [] (PS P fn.results.toList res) (zft args)) : FC P f args res := by
 refine GC_ofW hc hf hb hd hN (zci args) fun w vs fp tp hv g a hR hg => ?_
 obtain ⟨hr, rfl, rfl⟩ := zbq hv
 exact ⟨zft args, h, zhm hr hR hg⟩
attribute [go_sem] zft zgg D.toN T.toN
end Go.Proofs.Yteeaofpphmhjdaa
namespace Go.Proofs.Yteeaofpphmhjdaa
set_option linter.unusedSimpArgs false
set_option linter.unusedVariables false
set_option linter.unusedSectionVars false
set_option maxRecDepth 4000
open Go.RowKit
variable {P : Program}
abbrev FR (r : Option Nat) : Fence := { Fence.wide with round := r }
theorem zes {r : Option Nat} {n : Nat} {f : FuncId} {args : Array Value} {w : World} {R : Ending -> World -> Prop} : CallsIn (FR r) n P f args w R ↔ Calls P f args w R :=
 (callsIn_wide (n := n) : CallsIn Fence.wide n P f args w R ↔ _)
def Oper.nodef (o : Oper) : Bool := match o.op with | .defer _ => false | _ => true
theorem qb0 {o : Oper} (h : Oper.nodef o = true) : ∀ c, o.op ≠ .defer c := fun c hc => by simp [Oper.nodef, hc] at h
theorem zcf (a : Act) (d : Option Nat) (v : Value) (ds : List Deferred) : ({ a with defers := ds } : Act).put d v = { a.put d v with defers := ds } := by cases d <;> rfl
theorem zop (a : Act) (d : Option Nat) (v : Value) : (a.put d v).defers = a.defers := by cases d <;> rfl
theorem qd3 {r : Option Nat} {n : Nat} {o : Oper} {a : Act} {w : World} {K : Act -> World -> Prop} {ds : List Deferred} {K' : Act -> World -> Prop} {Q : Exit -> Act -> World -> Prop} (hnd : Oper.nodef o = true) (hK : ∀ a w, K a w -> a.defers = []) (h : o.wp P a w K (fun _ _ _ => False))
  (hK' : ∀ v w', K (a.put o.dst v) w' -> K' { a.put o.dst v with defers := ds } w') : o.wpIn (FR r) n P { a with defers := ds } w K' Q := by
 unfold Oper.wp at h
 refine ⟨fun _ _ => trivial, ?_⟩
 rw [Oper.semAt_eq _ _ _ (qb0 hnd)]
 show o.uponIn (FR r) n P { a with defers := ds } K' Q ((execOp a.eval o).run P w)
 generalize (execOp a.eval o).run P w = x at h
 cases x with
 | ok nx w' =>
  cases nx with
  | value v => show K' _ _; rw [zcf]; exact hK' v w' h
  | skip => show K' _ _; rw [zcf]; exact hK' _ w' h
  | defer d => exact absurd (hK _ _ h) (by rw [zop]; simp)
  | enter f args =>
   refine ⟨(by intro h; cases h), zes.2 (Calls.mono h fun e w'' he => ?_)⟩
   cases e with
   | returned v => show K' _ _; rw [zcf]; exact hK' v w'' he
   | panicked c => exact he.elim
   | outgrown => obtain ⟨_, _, hx⟩ := he; exact hx.elim
  | row row args =>
   refine ⟨(by intro h; cases h), fun c cs _ => ?_⟩
   obtain ⟨v, w'', h1, h2⟩ := h c cs
   refine ⟨v, w'', ?_, stepsIn_wide.2 h2⟩
   show K' _ _; rw [zcf]; exact hK' v w'' h1
  | _ => exact (show False from h).elim
 | halt x w' => cases x <;> exact (show False from h).elim
def Ag (D : Nat -> Prop) (a a' : Act) : Prop := ∀ i, ¬ D i -> a'.tmps.getD i undef = a.tmps.getD i undef
theorem Ag.refl (D : Nat -> Prop) (a : Act) : Ag D a a := fun _ _ => rfl
theorem Ag.put {D : Nat -> Prop} {a0 a : Act} (h : Ag D a0 a) {d : Option Nat} (hd : ∀ i, d = some i -> D i) (v : Value) : Ag D a0 (a.put d v) := fun i hi => by
 cases d with
 | none => exact h i hi
 | some j =>
  have hij : i ≠ j := fun e => hi (e ▸ hd j rfl)
  rw [show (a.put (some j) v).tmps = a.tmps.setIfInBounds j v from rfl, zgh a hij]
  exact h i hi
def zrl (n0 : Nat -> Prop) (N : Nat) (w0 : World) (A0 : (Nat -> Prop) × RP) (ds : List Deferred) (D : Nat -> Prop) (a0 : Act) (Q : Exit -> St -> Prop) (e : Exit) (a : Act) (w : World) : Prop := ∃ a1, a = { a1 with defers := ds } /\ Ag D a0 a1 /\ qaa n0 N w0 A0 Q e a1 w
theorem zi2 {ops : Array Oper} {K : St -> Prop} {n0 : Nat -> Prop} {N : Nat} {w0 : World} {A0 : (Nat -> Prop) × RP} {r : Option Nat} {n : Nat} {ds : List Deferred} {D : Nat -> Prop} {a0 : Act} {R : Exit -> Act -> World -> Prop}
  (hR : ∀ a w σ g, K σ -> Rel n0 N σ g a w -> LtK n0 w -> Bk n0 w0 w -> (g.A0, g.R0) = A0 -> Ag D a0 a -> R .normal { a with defers := ds } w) :
  ∀ (k i : Nat), i + k = ops.size -> (∀ o ∈ ops.toList, Oper.nodef o = true /\ ∀ d, o.dst = some d -> d < N /\ D d) -> ∀ (σ : St) (g : Gh) (a : Act) (w : World), za9 P ops (ops.toList.drop i) σ K -> Rel n0 N σ g a w -> LtK n0 w -> Bk n0 w0 w -> (g.A0, g.R0) = A0 -> Ag D a0 a -> wpOpsIn (FR r) n P ops R (List.range' i k) { a with defers := ds } w
 | 0, i, hi, hd, σ, g, a, w, h, hr, hn, hb, hA, hg => by
  have : ops.toList.drop i = [] := List.drop_of_length_le (by simp; omega)
  rw [this] at h
  exact hR a w σ g h hr hn hb hA hg
 | k + 1, i, hi, hd, σ, g, a, w, h, hr, hn, hb, hA, hg => by
  have hlt : i < ops.size := by omega
  have hcons : ops.toList.drop i = ops[i] :: ops.toList.drop (i + 1) := by
   rw [List.drop_eq_getElem_cons (by simpa using hlt)]; rfl
  rw [hcons] at h
  rw [show List.range' i (k + 1) = i :: List.range' (i + 1) k from rfl]
  have ho : ops[i]? = some ops[i] := by simp [hlt]
  obtain ⟨hnd, hdi⟩ := hd ops[i] (by simp)
  have next : ∀ σ' a' w', (∃ g', Rel n0 N σ' g' a' w' /\ Bk n0 w w' /\ g'.A0 = g.A0 /\ g'.R0 = g.R0) -> Ag D a0 a' -> za9 P ops (ops.toList.drop (i + 1)) σ' K -> wpOpsIn (FR r) n P ops R (List.range' (i + 1) k) { a' with defers := ds } w' := by
   rintro σ' a' w' ⟨g', k1, k2, k3, k4⟩ hg' hK
   exact zi2 hR k (i + 1) (by omega) hd σ' g' a' w' hK k1 (hn.mono k2.size) (hb.trans k2) (by rw [k3, k4]; exact hA) hg'
  have run : ∀ σ0, σ0 = σ -> zbs P ops[i] σ0 (fun σ' => za9 P ops (ops.toList.drop (i + 1)) σ' K) -> ops[i].wpIn (FR r) n P { a with defers := ds } w (wpOpsIn (FR r) n P ops R (List.range' (i + 1) k)) R := fun σ0 e0 h1 => by
   subst e0
   exact qd3 hnd (fun a' w' ⟨σ', g', h0, hh⟩ => hh.1.defers) (zdn h1 n0 N g a w hr hn fun d hd => (hdi d hd).1) fun v w' ⟨σ', g', h0, hh⟩ => next σ' _ w' ⟨g', hh⟩ (hg.put (fun d hd => (hdi d hd).2) v) h0
  simp only [wpOpsIn, ho]
  unfold za9 exG at h
  split at h
  ·rename_i hg0
   have : Region.wanted ops[i] (yielded ops a.tmps) = true := by simp [Region.wanted, hg0]
   rw [if_pos this]
   exact run σ rfl h
  ·rename_i j want hg0
   split at h
   ·rename_i d hdj
    split at h
    ·rename_i c hc
     have hv := hr.slots d
     rw [hc] at hv
     simp only [VR, CR, zaf] at hv
     have hy : yielded ops a.tmps j = some c := by
      unfold yielded
      rw [hdj]
      simp only [Option.bind_some]
      cases ht : a.tmps[d]? with
      | none => rw [Array.getD_eq_getD_getElem?, ht] at hv; exact absurd hv (g.R0.nb _ _)
      | some u => rw [Array.getD_eq_getD_getElem?, ht] at hv; simp only [Option.getD_some] at hv; subst hv; rfl
     have hw : Region.wanted ops[i] (yielded ops a.tmps) = (c == want) := by
      unfold Region.wanted
      rw [hg0]
      simp only [hy]
      cases c <;> cases want <;> rfl
     rw [hw]
     by_cases hcw : c = want
     ·subst hcw
      simp only [beq_self_eq_true, if_true]
      exact run _ (zek hc) (h.1 rfl)
     ·have hne : (c == want) = false := by simpa using hcw
      rw [hne]
      simp only [Bool.false_eq_true, if_false]
      have hnot : c = !want := by cases c <;> cases want <;> simp_all
      have hh := h.2 hnot
      rw [<- hnot, zek hc] at hh
      refine ⟨fun _ _ => trivial, ?_⟩
      rw [zcf]
      exact next _ _ _ ⟨g, hr.put _ (x := .tup []) ⟨[], rfl, rfl⟩ fun d hd => (hdi d hd).1, Bk.refl _ _, rfl, rfl⟩ (hg.put (fun d hd => (hdi d hd).2) _) hh
    ·rename_i xs hc
     have hv := hr.slots d
     rw [hc] at hv
     obtain ⟨vs, hv, _⟩ := hv
     have hy : yielded ops a.tmps j = none := by
      unfold yielded
      rw [hdj]
      simp only [Option.bind_some]
      cases ht : a.tmps[d]? with
      | none => rfl
      | some u => rw [Array.getD_eq_getD_getElem?, ht] at hv; simp only [Option.getD_some] at hv; subst hv; rfl
     have hw : Region.wanted ops[i] (yielded ops a.tmps) = false := by
      unfold Region.wanted
      rw [hg0]
      simp only [hy]
      rfl
     rw [hw]
     simp only [Bool.false_eq_true, if_false]
     refine ⟨fun _ _ => trivial, ?_⟩
     rw [zcf]
     exact next _ _ _ ⟨g, hr.put _ (x := .tup []) ⟨[], rfl, rfl⟩ fun d hd => (hdi d hd).1, Bk.refl _ _, rfl, rfl⟩ (hg.put (fun d hd => (hdi d hd).2) _) h
    ·exact h.elim
   ·exact h.elim
def zb4 : Code -> Bool
 | .region _ ops false => ops.all Oper.nodef
 | .seq a b => zb4 a && zb4 b
 | .cond _ a b => zb4 a && zb4 b
 | .block _ b => zb4 b
 | .skip => true
 | .ret => true
 | .exit _ => true
 | _ => false
def zbk : Code -> List Nat
 | .region _ ops _ => ops.toList.filterMap (·.dst)
 | .seq a b => zbk a ++ zbk b
 | .cond _ a b => zbk a ++ zbk b
 | .block _ b => zbk b
 | .loop b => zbk b
 | _ => []
theorem zbu {n0 : Nat -> Prop} {N : Nat} {w0 : World} {A0 : (Nat -> Prop) × RP} {r : Option Nat} {n : Nat} {ds : List Deferred} {D : Nat -> Prop} {a0 : Act} : ∀ (c : Code) (σ : St) (Q : Exit -> St -> Prop), zb4 c = true -> za6 N c = true -> (∀ d ∈ zbk c, D d) -> ze7 P c σ Q →
  ∀ (g : Gh) (a : Act) (w : World), Rel n0 N σ g a w -> LtK n0 w -> Bk n0 w0 w -> (g.A0, g.R0) = A0 -> Ag D a0 a -> c.wpIn (FR r) n P (zrl n0 N w0 A0 ds D a0 Q) { a with defers := ds } w
 | .skip, σ, Q, _, _, _, h, g, a, w, hr, hn, hb, hA, hg => wpIn_skip ⟨a, rfl, hg, σ, g, h, hr, hn, hb, hA⟩
 | .ret, σ, Q, _, _, _, h, g, a, w, hr, hn, hb, hA, hg => wpIn_ret ⟨a, rfl, hg, σ, g, h, hr, hn, hb, hA⟩
 | .exit id, σ, Q, _, _, _, h, g, a, w, hr, hn, hb, hA, hg => wpIn_exit ⟨a, rfl, hg, σ, g, h, hr, hn, hb, hA⟩
 | .seq x y, σ, Q, hp, hd, hD, h, g, a, w, hr, hn, hb, hA, hg => by
  simp only [za6, zb4, Bool.and_eq_true] at hd hp
  simp only [zbk, List.mem_append] at hD
  refine wpIn_seq (wpIn_mono (zbu x σ _ hp.1 hd.1 (fun d h => hD d (Or.inl h)) h g a w hr hn hb hA hg) fun e a' w' hq => ?_)
  obtain ⟨a1, rfl, hg1, σ', g', h1, h2, h3, h4, h5⟩ := hq
  cases e with
  | normal => exact zbu y σ' Q hp.2 hd.2 (fun d h => hD d (Or.inr h)) h1 g' a1 w' h2 h3 h4 h5 hg1
  | exit i => exact ⟨a1, rfl, hg1, σ', g', h1, h2, h3, h4, h5⟩
  | goto l => exact ⟨a1, rfl, hg1, σ', g', h1, h2, h3, h4, h5⟩
  | ret => exact ⟨a1, rfl, hg1, σ', g', h1, h2, h3, h4, h5⟩
  | panic ch => exact ⟨a1, rfl, hg1, σ', g', h1, h2, h3, h4, h5⟩
  | outgrown => exact ⟨a1, rfl, hg1, σ', g', h1, h2, h3, h4, h5⟩
 | .cond c x y, σ, Q, hp, hd, hD, h, g, a, w, hr, hn, hb, hA, hg => by
  simp only [za6, zb4, Bool.and_eq_true] at hd hp
  simp only [zbk, List.mem_append] at hD
  unfold ze7 at h
  have hv := hr.get P 0 c
  split at h
  ·rename_i t hc
   rw [hc] at hv
   simp only [VR, CR, zaf] at hv
   exact wpIn_cond_split hv (fun ht => zbu x σ Q hp.1 hd.1 (fun d h => hD d (Or.inl h)) (h.1 ht) g a w hr hn hb hA hg) (fun ht => zbu y σ Q hp.2 hd.2 (fun d h => hD d (Or.inr h)) (h.2 ht) g a w hr hn hb hA hg)
  ·exact h.elim
 | .block id b, σ, Q, hp, hd, hD, h, g, a, w, hr, hn, hb, hA, hg => by
  refine wpIn_block (wpIn_mono (zbu b σ _ hp hd hD h g a w hr hn hb hA hg) fun e a' w' hq => ?_)
  obtain ⟨a1, rfl, hg1, σ', g', h1, h2, h3, h4, h5⟩ := hq
  cases e with
  | exit i =>
   simp only [Exit.inBlock]
   simp only at h1
   split at h1
   ·rw [if_pos ‹_›]; exact ⟨a1, rfl, hg1, σ', g', h1, h2, h3, h4, h5⟩
   ·rw [if_neg ‹_›]; exact ⟨a1, rfl, hg1, σ', g', h1, h2, h3, h4, h5⟩
  | normal => exact ⟨a1, rfl, hg1, σ', g', h1, h2, h3, h4, h5⟩
  | goto l => exact ⟨a1, rfl, hg1, σ', g', h1, h2, h3, h4, h5⟩
  | ret => exact ⟨a1, rfl, hg1, σ', g', h1, h2, h3, h4, h5⟩
  | panic ch => exact ⟨a1, rfl, hg1, σ', g', h1, h2, h3, h4, h5⟩
  | outgrown => exact ⟨a1, rfl, hg1, σ', g', h1, h2, h3, h4, h5⟩
 | .region id ops false, σ, Q, hp, hd, hD, h, g, a, w, hr, hn, hb, hA, hg => by
  refine wpIn_region ?_
  have hd' : ∀ o ∈ ops.toList, Oper.nodef o = true /\ ∀ d, o.dst = some d -> d < N /\ D d := fun o ho => by
   simp only [za6, zb4, Array.all_eq_true_iff_forall_mem] at hd hp
   refine ⟨hp o (by simpa using ho), fun d hdd => ⟨?_, hD d (by simp only [zbk, List.mem_filterMap]; exact ⟨o, ho, hdd⟩)⟩⟩
   have := hd o (by simpa using ho)
   rw [hdd] at this
   simpa using this
  rw [List.range_eq_range']
  exact zi2 (fun a w σ g h1 h2 h3 h4 h5 h6 => ⟨a, rfl, h6, σ, g, h1, h2, h3, h4, h5⟩) ops.size 0 (by omega) hd' σ g a w (by simpa [ze7] using h) hr hn hb hA hg
 | .loop _, _, _, hp, _, _, _, _, _, _, _, _, _, _, _ => by cases hp
 | .region _ _ true, _, _, hp, _, _, _, _, _, _, _, _, _, _, _ => by cases hp
 | .rangeFunc .., _, _, hp, _, _, _, _, _, _, _, _, _, _, _ => by cases hp
 | .scope _, _, _, hp, _, _, _, _, _, _, _, _, _, _, _ => by cases hp
 | .label _, _, _, hp, _, _, _, _, _, _, _, _, _, _, _ => by cases hp
 | .goto _, _, _, hp, _, _, _, _, _, _, _, _, _, _, _ => by cases hp
 | .refuse _, _, _, hp, _, _, _, _, _, _, _, _, _, _, _ => by cases hp
end Go.Proofs.Yteeaofpphmhjdaa
namespace Go.Proofs.Yteeaofpphmhjdaa
set_option linter.unusedSimpArgs false
set_option linter.unusedVariables false
set_option linter.unusedSectionVars false
set_option maxRecDepth 4000
open Go.RowKit
variable {P : Program}
theorem Rel.turn {n0 n1 A1 : Nat -> Prop} {N : Nat} {σ : St} {g : Gh} {a : Act} {w w' : World} (h : Rel n0 N σ g a w) (hF : ∀ b, Fix σ g w b -> A1 b /\ w'.heap[b]? = w.heap[b]?) (hz : w.heap.size <= w'.heap.size)
  (hn : ∀ b, ¬ n1 b -> A1 b /\ g.R0 b) (hb : ∀ k, σ.bx k ≠ none -> ¬ n1 (g.β k) /\ w'.heap[g.β k]? = w.heap[g.β k]?) (he : ∀ e, σ.On e -> ∀ b ∈ g.φ e, ¬ n1 b /\ A1 b /\ w'.heap[b]? = w.heap[b]?) : Rel n1 N σ { g with A0 := A1 } a w' := by
 have m : Mv σ σ g { g with A0 := A1 } w w' := ⟨fun b hf => (hF b hf).2, fun b hf => ⟨hf.1, hf.2.1, Nat.lt_of_lt_of_le hf.2.2.1 hz, (hF b hf).1⟩, fun b hbb => ⟨rfl, hbb⟩, fun e n hh => ⟨hh, rfl⟩, fun b hb => hb.2⟩
 refine ⟨h.defers, h.size, hn, fun i => m.vr (h.slots i), fun b cs hbb => ?_, fun b hbb => (hb b hbb).1, h.inj, fun e x hx ho => m.evr (h.evs e x hx ho) fun b hm => (he e ⟨x, hx, ho⟩ b hm).2.2, fun e x hx ho => ⟨m.rep (h.offs e x hx ho).1, (h.offs e x hx ho).2⟩, h.slc, fun e ho b hm => ⟨(he e ho b hm).2.1, (h.ebase e ho b hm).2⟩, fun e ho b hm => (he e ho b hm).1, h.nodup, h.apart, h.ebx⟩
 obtain ⟨vs, ty, k1, k2⟩ := h.boxes b cs hbb
 exact ⟨vs, ty, by rw [(hb b (by rw [hbb]; simp)).2]; exact k1, m.crs k2⟩
theorem Rel.elt {n0 : Nat -> Prop} {N : Nat} {σ : St} {g : Gh} {a : Act} {w : World} (h : Rel n0 N σ g a w) {e : Nat} (ho : σ.On e) {b : Nat} (hm : b ∈ g.φ e) : b < w.heap.size := by
 obtain ⟨x, hx, hon⟩ := ho
 exact (h.evs e x hx hon).lt b hm
theorem Rel.enter {n0 : Nat -> Prop} {N : Nat} {σ : St} {g : Gh} {a : Act} {w : World} (h : Rel n0 N σ g a w) (o1 o2 : Obj) :
  Rel (fun b => n0 b \/ b = w.heap.size \/ b = w.heap.size + 1) N σ { g with A0 := fun b => g.A0 b /\ b ≠ w.heap.size /\ b ≠ w.heap.size + 1 } a ((w.alloc o1).alloc o2) := by
 have hs : ∀ b, b < w.heap.size -> ((w.alloc o1).alloc o2).heap[b]? = w.heap[b]? := fun b hb => by rw [Below.heap_alloc _ _ _ (by simp; omega), Below.heap_alloc _ _ _ hb]
 refine h.turn (fun b hf => ⟨⟨hf.2.2.2, ?_, ?_⟩, hs b hf.2.2.1⟩) (by simp; omega) (fun b hb => ?_) (fun k hk => ⟨?_, hs _ (h.lt hk)⟩) (fun e ho b hm => ?_)
 ·have := hf.2.2.1; omega
 ·have := hf.2.2.1; omega
 ·have h1 : ¬ n0 b := fun k => hb (Or.inl k)
  exact ⟨⟨(h.anew b h1).1, fun e => hb (Or.inr (Or.inl e)), fun e => hb (Or.inr (Or.inr e))⟩, (h.anew b h1).2⟩
 ·have := h.lt hk
  rintro (k1 | k1 | k1)
  ·exact h.base k hk k1
  ·omega
  ·omega
 ·have := h.elt ho hm
  refine ⟨?_, ⟨(h.ebase e ho b hm).1, by omega, by omega⟩, hs b this⟩
  rintro (k1 | k1 | k1)
  ·exact h.etop e ho b hm k1
  ·omega
  ·omega
theorem Rel.putObj {n1 : Nat -> Prop} {N : Nat} {σ : St} {g : Gh} {a : Act} {w : World} (h : Rel n1 N σ g a w) {l : Nat} (hl : n1 l) (hA : ¬ g.A0 l) (o : Obj) : Rel n1 N σ g a (w.putObj l o) := by
 have := h.turn (n1 := n1) (A1 := g.A0) (w' := w.putObj l o) (fun b hf => ⟨hf.2.2.2, World.putObj_heap_other (fun e => hA (e ▸ hf.2.2.2))⟩) (by simp) h.anew
  (fun k hk => ⟨h.base k hk, World.putObj_heap_other (fun e => h.base k hk (e ▸ hl))⟩) (fun e ho b hm => ⟨h.etop e ho b hm, (h.ebase e ho b hm).1, World.putObj_heap_other (fun e' => h.etop e ho b hm (e' ▸ hl))⟩)
 exact this
theorem Rel.leave {n0 n1 A1 : Nat -> Prop} {N : Nat} {σ : St} {g : Gh} {a : Act} {w : World} (h : Rel n1 N σ g a w) (hn : ∀ b, n0 b -> n1 b) (hA : ∀ b, g.A0 b -> A1 b) (hnew : ∀ b, ¬ n0 b -> A1 b /\ g.R0 b) : Rel n0 N σ { g with A0 := A1 } a w :=
 h.turn (fun b hf => ⟨hA b hf.2.2.2, rfl⟩) (Nat.le_refl _) hnew (fun k hk => ⟨fun k1 => h.base k hk (hn _ k1), rfl⟩) (fun e ho b hm => ⟨fun k1 => h.etop e ho b hm (hn _ k1), hA b (h.ebase e ho b hm).1, rfl⟩)
theorem Rel.frame {n0 : Nat -> Prop} {N : Nat} {σ : St} {g : Gh} {a a0 : Act} {w : World} (h : Rel n0 N σ g a w) {D : Nat -> Prop} (hg : Ag D a0 a) (hd : a0.defers = []) (hz : a0.tmps.size = N) (hany : ∀ i, D i -> σ.sl i = .one .any) : Rel n0 N σ g a0 w := by
 refine h.slots_of rfl rfl hd hz fun i => ?_
 by_cases hi : D i
 ·rw [hany i hi]; trivial
 ·have h1 := hg i hi
  have h2 := h.slots i
  have e : a0.tmps.getD i (g.R0.ξ i) = a.tmps.getD i (g.R0.ξ i) := by
   rw [Array.getD_eq_getD_getElem?, Array.getD_eq_getD_getElem?] at h1 ⊢
   by_cases hlt : i < N
   ·have s1 : i < a.tmps.size := by rw [h.size]; exact hlt
    have s2 : i < a0.tmps.size := by rw [hz]; exact hlt
    simp only [Array.getElem?_eq_getElem s1, Array.getElem?_eq_getElem s2, Option.getD_some] at h1 ⊢
    exact h1.symm
   ·have s1 : ¬ i < a.tmps.size := by rw [h.size]; exact hlt
    have s2 : ¬ i < a0.tmps.size := by rw [hz]; exact hlt
    simp [s1, s2]
  rw [e]; exact h2
def agv (ag : Bool) (r : List Value) : Value := if ag = true then .agg ⟨r⟩ else r.headD undef
def zpe (P : Program) (f : FuncId) (ag : Bool) (sz : Nat) : Prop := ∀ (l Bs n : Nat) (W : World) (J : Nat -> World -> Prop), n <= zd0 →
 (∀ W, J 0 W -> ∃ ao cap, W.cell? ⟨Bs, 0, none⟩ = some (.slice ao n cap)) →
 (∀ k W, J k W -> k < n -> ∃ b o cap r, W.cell? ⟨Bs, 0, none⟩ = some (.slice (some ⟨b, o, none⟩) n cap) /\ r.length = sz /\ (∀ j v, r[j]? = some v -> W.cell? ⟨b, o + (n - 1 - k) * sz + j, none⟩ = some v) ∧
  YieldAt (FR none) 5 P l #[.int .i64 ((n - 1 - k : Nat) : Int), agv ag r] W fun e W' => e = .returned (.bool true) /\ J (k + 1) W') →
 J 0 W -> CallsIn (FR none) 6 P f #[.func (.yield l) #[] #[], .pointer (some ⟨Bs, 0, none⟩)] W fun e W' => (∃ v, e = .returned v) /\ J n W'
theorem zat.valsN {w : World} {A : Nat -> Prop} {b : Nat} : ∀ {cs : List T} {o : Nat}, zat w A b o cs -> ∃ vs, zab w A cs vs /\ ∀ j v, vs[j]? = some v -> w.cell? ⟨b, o + j, none⟩ = some v
 | [], _, _ => ⟨[], by unfold zab; rfl, fun j v h => by simp at h⟩
 | c :: cs, o, h => by
  unfold zat at h
  obtain ⟨⟨v, h1, h2⟩, h3⟩ := h
  obtain ⟨vs, k1, k2⟩ := zat.valsN h3
  refine ⟨v :: vs, by unfold zab; exact ⟨v, vs, rfl, h2, k1⟩, fun j u hj => ?_⟩
  cases j with
  | zero => simp only [List.getElem?_cons_zero, Option.some.injEq] at hj; subst hj; exact h1
  | succ j =>
   have := k2 j u (by simpa using hj)
   rwa [show o + (j + 1) = o + 1 + j by omega]
def rowN (ag : Bool) (r : List T) : V := if ag = true then .agg (r.map T.toN) else .one (r.headD (.bool false)).toN
theorem qfw {σ : St} {g : Gh} {w : World} {ag : Bool} {r : List T} {vs : List Value} (hag : ag = true \/ r.length = 1) (h : zab w (zby σ g w) r vs) : VR σ g w (rowN ag r) (agv ag vs) := by
 cases ag with
 | true => exact ⟨vs, rfl, zoc (fun _ h => h) h⟩
 | false =>
  have hl := hag.resolve_left (by simp)
  match r, hl, h with
  | [c], _, h =>
   unfold zab at h
   obtain ⟨v, vs', rfl, h1, h2⟩ := h
   exact zuf (fun _ h => h) h1
theorem Bk.mono {n0 n1 : Nat -> Prop} {w w' : World} (h : Bk n1 w w') (hn : ∀ b, n0 b -> n1 b) : Bk n0 w w' := ⟨h.os, h.tape, h.output, h.size, fun k hk => h.block k (hn k hk)⟩
theorem Bk.putObj {n0 : Nat -> Prop} (w : World) {l : Nat} (hl : ¬ n0 l) (o : Obj) : Bk n0 w (w.putObj l o) := ⟨rfl, rfl, rfl, by simp, fun k hk => World.putObj_heap_other (fun e => hl (e ▸ hk))⟩
theorem zoy {n0 : Nat -> Prop} {N : Nat} {σ : St} {g : Gh} {a : Act} {w : World} (h : Rel n0 N σ g a w) {id sz : Nat} {rows : List (List T)} (hb : σ.bx id = some [.rn (.sl sz rows)]) :
  ∃ ao cap, w.cell? ⟨g.β id, 0, none⟩ = some (.slice ao rows.length cap) /\ rows.length <= zd0 /\ (rows = [] \/ ∃ b o, ao = some ⟨b, o, none⟩ /\ zah w (zby σ g w) b o sz rows) := by
 obtain ⟨⟨vl⟩, ty, k1, v, vs', rfl, k2, k3⟩ := h.boxes id _ hb
 obtain rfl : vs' = [] := k3
 simp only [CR] at k2
 unfold zaf at k2
 obtain ⟨ao, cap, rfl, h2, h3, h4⟩ := k2
 refine ⟨ao, cap, by simp [World.cell?, k1], by omega, h4.imp (fun h => h) ?_⟩
 rintro ⟨b, o, e1, _, e2⟩
 exact ⟨b, o, e1, e2⟩
end Go.Proofs.Yteeaofpphmhjdaa
namespace Go.Proofs.Yteeaofpphmhjdaa
set_option linter.unusedSimpArgs false
set_option linter.unusedVariables false
set_option linter.unusedSectionVars false
set_option maxRecDepth 4000
open Go.RowKit
variable {P : Program}
def zda : Code -> Option (Code × (Operand × Array Tmp × Code × Code) × Code)
 | .rangeFunc g ps asg bd => some (.skip, (g, ps, asg, bd), .skip)
 | .block _ b => match b with
  | .rangeFunc g ps asg bd => some (.skip, (g, ps, asg, bd), .skip)
  | _ => none
 | .seq x y => match zda x with
  | some (p, r, q) => some (p, r, .seq q y)
  | none => match zda y with
   | some (p, r, q) => some (.seq x p, r, q)
   | none => none
 | _ => none
def zz7 (n0 : Nat -> Prop) (N : Nat) (w0 : World) (A0 : (Nat -> Prop) × RP) (Q : Exit -> St -> Prop) (e : Exit) (a : Act) (w : World) : Prop :=
 ∃ (D : Nat) (n1 : Nat -> Prop) (a1 : Act) (σ : St) (g : Gh), a = { a1 with defers := [{ target := .collected D, args := #[] }] } /\ Q e σ /\ Rel n1 N σ g a1 w /\ LtK n1 w /\ Bk n0 w0 w /\ w.heap[D]? = some (.deferred (some [])) /\ n1 D /\ ¬ n0 D /\ (∀ b, n0 b -> n1 b) /\ ¬ g.A0 D /\ (∀ b, g.A0 b -> A0.1 b) /\ g.R0 = A0.2
theorem zr5 {n0 : Nat -> Prop} {N n : Nat} {w0 : World} {A0 : (Nat -> Prop) × RP} {Q : Exit -> St -> Prop} {y : Code} (hp : zb4 y = true) (hd : za6 N y = true) {a : Act} {w : World} (h : zz7 n0 N w0 A0 (fun _ σ => ze7 P y σ Q) .normal a w) :
  y.wpIn (FR none) n P (zz7 n0 N w0 A0 Q) a w := by
 obtain ⟨D, n1, a1, σ, g, rfl, h1, h2, h3, h4, h5, h6, h7, h8, h9, h10, h11⟩ := h
 refine wpIn_mono (zbu (r := none) (n := n) (ds := [{ target := .collected D, args := #[] }]) (D := fun _ => True) (a0 := a1) (A0 := (g.A0, g.R0)) y σ Q hp hd (fun _ _ => trivial) h1 g a1 w h2 h3 (Bk.refl n1 w) rfl (Ag.refl _ _)) ?_
 rintro e a' w' ⟨a2, rfl, _, σ', g', k1, k2, k3, k4, k5⟩
 have e1 : g'.A0 = g.A0 := (Prod.mk.inj k5).1
 have e2 : g'.R0 = g.R0 := (Prod.mk.inj k5).2
 exact ⟨D, n1, a2, σ', g', rfl, k1, k2, k3, h4.trans (k4.mono h8), (k4.block D h6).trans h5, h6, h7, h8, by rw [e1]; exact h9, by rw [e1]; exact h10, by rw [e2]; exact h11⟩
theorem qdp {n0 : Nat -> Prop} {N : Nat} {σ : St} {g : Gh} {a : Act} {w : World} {fp : List Nat} {sz : Nat} (hR : Rel n0 N σ g a w) (hr : g.R0 = RP.of fun b => b ∈ fp \/ sz <= b) (fn : Func) {res : List D} (hk : zal (zbf P σ fn.results.toList) (fun vs => zqv σ [] vs res) \/ PX P fn.results.toList res σ) :
  ∃ v, (results fn a.tmps).run P w = .ok v w /\ ∃ us fp' tp', Ending.returned v = .returned (zbd us) /\ GDs w res us fp' tp' /\ fp'.Nodup /\ ∀ b ∈ fp', b ∈ fp \/ sz <= b := by
 have fin : ∀ {us : List Value} {v : Value}, (results fn a.tmps).run P w = .ok v w -> v = zbd us -> (∃ fp' tp', GDs w res us fp' tp' /\ fp'.Nodup /\ ∀ b ∈ fp', ∃ e, σ.On e /\ b ∈ g.φ e) -> ∃ v, (results fn a.tmps).run P w = .ok v w /\ ∃ us fp' tp', Ending.returned v = .returned (zbd us) /\ GDs w res us fp' tp' /\ fp'.Nodup /\ ∀ b ∈ fp', b ∈ fp \/ sz <= b := fun {us v} r1 rv ⟨fp', tp', o1, o2, o3⟩ => by
  refine ⟨_, r1, us, fp', tp', by rw [rv], o1, o2, fun b hb => ?_⟩
  obtain ⟨e, l, m⟩ := o3 b hb
  have := (hR.ebase e l b m).2
  rw [hr] at this
  exact this
 rcases hk with hk | ⟨pl, hk⟩
 ·obtain ⟨vs, hvs, hk⟩ := zai hk
  obtain ⟨us, r1, r2⟩ := zba hR fn hvs
  obtain ⟨used, fp', tp', o1, o2⟩ := zcb hR hk r2
  exact fin r1 rfl ⟨fp', tp', o1, o2.1, fun b hb => by obtain ⟨e, _, _, l, m⟩ := o2.2.1 b hb; exact ⟨e, l, m⟩⟩
 ·obtain ⟨vs, hvs, hk⟩ := zai hk
  obtain ⟨us, r1, r2⟩ := zba hR fn hvs
  exact fin r1 rfl (zy5 hR hk r2)
end Go.Proofs.Yteeaofpphmhjdaa
namespace Go.Proofs.Yteeaofpphmhjdaa
set_option linter.unusedSimpArgs false
set_option linter.unusedVariables false
set_option linter.unusedSectionVars false
set_option maxRecDepth 4000
open Go.RowKit
variable {P : Program}
def zv5 (P : Program) (f f1 : FuncId) : Prop := zaz P f /\ ∀ (a : Option Addr) (len cap : Nat) (w : World), Calls P f #[.slice a len cap] w fun e w' => ∃ ty, e = .returned (.func (.func f1) #[] #[.pointer (some ⟨w.heap.size, 0, none⟩)]) /\ w' = w.alloc (.cells #[.slice a len cap] ty)
def St.callB (σ : St) (d : Nat) (f1 : FuncId) (c : C) : St := { sl := upd σ.sl d (.one (.fn f1 [d])), bx := upd σ.bx d (some [c]), ev := σ.ev }
theorem zvz {o : Oper} {σ : St} {x : Operand} {asg : Array Operand} {ts : Array TypeId} {f f1 : FuncId} {d : Nat} {sz : Nat} {rows : List (List T)} (ho : o.op = .call ⟨.value x, asg, ts⟩) (hd : o.dst = some d)
  (h : zv5 P f f1) (hc : zau (σ.get P 0 x) = some (f, [])) (hv : σ.gets P asg ts = [.one (.rn (.sl sz rows))]) (hb : σ.bx d = none) : zad P o σ (σ.callB d f1 (.rn (.sl sz rows))) := by
 intro n0 N g a w hR hn hdN
 obtain ⟨vs, h1, h2⟩ := zc7 hR ho hc h.1
 rw [hv] at h2
 obtain ⟨v, vs', rfl, k1, k2⟩ := h2
 obtain rfl : vs' = [] := k2
 have k0 : CR σ g w (.rn (.sl sz rows)) v := k1
 simp only [VR, CR] at k1
 unfold zaf at k1
 obtain ⟨ao, cap, rfl, _⟩ := k1
 unfold Oper.wp
 rw [h1]
 refine (h.2 ao rows.length cap w).mono ?_
 rintro e w' ⟨ty, rfl, rfl⟩
 refine ⟨{ g with β := upd g.β d w.heap.size }, ?_, Bk.of_alloc hn _, rfl, rfl⟩
 have := (hR.newbox hn hb (cs := [.rn (.sl sz rows)]) (vs := [.slice ao rows.length cap]) ⟨_, _, rfl, k0, rfl⟩ ty).put (some d) (x := .one (.fn f1 [d])) (v := .func (.func f1) #[] #[.pointer (some ⟨w.heap.size, 0, none⟩)]) ⟨by simp [upd], by simp [upd]⟩ (fun i hi => by cases hi; exact hdN d hd)
 rw [hd]
 exact this
section
variable {ks : List Fr} {Q : Exit -> St -> Prop} {σ : St} {ops : Array Oper} {os : List Oper} {ty : TypeId} {ps : String} {af : Array Edge}
theorem callB {d : Nat} {x : Operand} {asg : Array Operand} {ts : Array TypeId} {f f1 : FuncId} {sz : Nat} {rows : List (List T)} (h : zv5 P f f1) (hp : zau (σ.get P 0 x) = some (f, []) /\ σ.gets P asg ts = [.one (.rn (.sl sz rows))] /\ σ.bx d = none)
  (k : exo P ops os ks Q (σ.callB d f1 (.rn (.sl sz rows)))) : exo P ops (⟨some d, .call ⟨.value x, asg, ts⟩, ty, ps, af, none⟩ :: os) ks Q σ :=
 zco rfl rfl (zvz rfl rfl h hp.1 hp.2.1 hp.2.2) k
end
attribute [go_sem] St.callB
end Go.Proofs.Yteeaofpphmhjdaa
namespace Go.Proofs.Yteeaofpphmhjdaa
set_option linter.unusedSimpArgs false
set_option linter.unusedVariables false
set_option linter.unusedSectionVars false
set_option maxRecDepth 4000
open Go.RowKit
variable {P : Program}
def zx5 (f : Nat -> V) : List Nat -> Prop
 | [] => True
 | i :: is => f i = .one .any /\ zx5 f is
theorem zir {f : Nat -> V} : ∀ {l : List Nat}, zx5 f l -> ∀ i ∈ l, f i = .one .any
 | [], _, i, hi => by simp at hi
 | j :: l, h, i, hi => by
  rcases List.mem_cons.1 hi with rfl | hi
  ·exact h.1
  ·exact zir h.2 i hi
end Go.Proofs.Yteeaofpphmhjdaa
namespace Go.Proofs.Yteeaofpphmhjdaa
set_option linter.unusedSimpArgs false
set_option linter.unusedVariables false
set_option linter.unusedSectionVars false
set_option maxRecDepth 4000
open Go.RowKit
variable {P : Program}
def swp (a b e : Nat) : Nat := if e = a then b else if e = b then a else e
theorem zck (a b e : Nat) : swp a b (swp a b e) = e := by unfold swp; split <;> (try split) <;> (try split) <;> omega
def C.ren (a b : Nat) : C -> C
 | .ow e g => .ow (swp a b e) g
 | .eo e g sz i o => .eo (swp a b e) g sz i o
 | c => c
def V.ren (a b : Nat) : V -> V
 | .one c => .one (c.ren a b)
 | .agg cs => .agg (cs.map (C.ren a b))
 | .tup xs => .tup (xs.map fun x => (x.1, x.2.map (C.ren a b)))
def St.ren (σ : St) (a b : Nat) : St := ⟨fun i => (σ.sl i).ren a b, fun k => (σ.bx k).map (·.map (C.ren a b)), fun e => σ.ev (swp a b e)⟩
def Gh.ren (g : Gh) (a b : Nat) : Gh := { g with ψ := fun e => g.ψ (swp a b e), φ := fun e => g.φ (swp a b e) }
theorem zgo {σ : St} {a b k : Nat} : (σ.ren a b).bx k ≠ none ↔ σ.bx k ≠ none := by unfold St.ren; simp
theorem zto {σ : St} {a b e n : Nat} (h : σ.has e n) : (σ.ren a b).has (swp a b e) n := by
 obtain ⟨x, h1, h2⟩ := h
 exact ⟨x, by show σ.ev (swp a b (swp a b e)) = _; rw [zck]; exact h1, h2⟩
theorem zom {σ : St} {g : Gh} {w : World} {a b : Nat} : Fix (σ.ren a b) (g.ren a b) w = Fix σ g w := by
 funext q
 refine propext ⟨fun h => ⟨fun k hk => h.1 k (zgo.2 hk), fun e x he ho => ?_, h.2.2⟩, fun h => ⟨fun k hk => h.1 k (zgo.1 hk), fun e x he ho => h.2.1 (swp a b e) x he ho, h.2.2⟩⟩
 have := h.2.1 (swp a b e) x (by show σ.ev (swp a b (swp a b e)) = _; rw [zck]; exact he) ho
 have e2 : (g.ren a b).φ (swp a b e) = g.φ e := by show g.φ (swp a b (swp a b e)) = _; rw [zck]
 rwa [e2] at this
theorem zv3 {σ : St} {g : Gh} {w : World} {a b : Nat} : zby (σ.ren a b) (g.ren a b) w = zby σ g w := by
 funext q
 unfold zby
 rw [zom]
 refine propext ⟨fun h => ⟨h.1, fun e ho hm => h.2 (swp a b e) ?_ ?_⟩, fun h => ⟨h.1, fun e ho hm => h.2 (swp a b e) ho hm⟩⟩
 ·show σ.On (swp a b (swp a b e)); rw [zck]; exact ho
 ·show q ∈ g.φ (swp a b (swp a b e)); rw [zck]; exact hm
theorem zus {σ : St} {g : Gh} {w : World} {a b : Nat} {c : C} {v : Value} (h : CR σ g w c v) : CR (σ.ren a b) (g.ren a b) w (c.ren a b) v := by
 have hF := zom (σ := σ) (g := g) (w := w) (a := a) (b := b)
 have hψ : ∀ e, (g.ren a b).ψ (swp a b e) = g.ψ e := fun e => by show g.ψ (swp a b (swp a b e)) = _; rw [zck]
 cases c with
 | t x => show zaf _ _ _ _; rw [hF]; exact h
 | nl s => exact h
 | ow e n => exact ⟨by show v = (g.ren a b).ψ (swp a b e) n; rw [hψ]; exact h.1, zto h.2⟩
 | bx q o => exact ⟨h.1, zgo.2 h.2⟩
 | el cs o => obtain ⟨q, r, h1, h2, h3⟩ := h; exact ⟨q, r, h1, by rw [hF]; exact h2, by rw [hF]; exact h3⟩
 | eo e s sz i o => obtain ⟨q, n, c, h1, h2, h3, h4⟩ := h; exact ⟨q, n, c, by rw [hψ]; exact h1, h2, h3, zto h4⟩
 | fn f caps => exact ⟨h.1, fun q hq => zgo.2 (h.2 q hq)⟩
 | cv u => exact h
 | any => trivial
 | rn x => show zaf _ _ _ _; rw [zv3]; exact h
 | er cs o => obtain ⟨q, r, h1, h2, h3⟩ := h; exact ⟨q, r, h1, by rw [zv3]; exact h2, by rw [zv3]; exact h3⟩
theorem zjf {σ : St} {g : Gh} {w : World} {a b : Nat} : ∀ {cs : List C} {vs : List Value}, CRs σ g w cs vs -> CRs (σ.ren a b) (g.ren a b) w (cs.map (C.ren a b)) vs
 | [], _, h => h
 | c :: cs, _, h => by obtain ⟨v, vs', rfl, h1, h2⟩ := h; exact ⟨v, vs', rfl, zus h1, zjf h2⟩
theorem zzc {σ : St} {g : Gh} {w : World} {a b : Nat} : ∀ {xs : List (Bool × List C)} {vs : List Value}, CRt σ g w xs vs -> CRt (σ.ren a b) (g.ren a b) w (xs.map fun x => (x.1, x.2.map (C.ren a b))) vs
 | [], _, h => h
 | x :: xs, _, h => by
  obtain ⟨v, vs', rfl, h1, h2⟩ := h
  refine ⟨v, vs', rfl, ?_, zzc h2⟩
  unfold CRx at h1 ⊢
  split at h1
  ·rw [if_pos ‹_›]; obtain ⟨q, h3, h4⟩ := h1; exact ⟨q, h3, zjf h4⟩
  ·rw [if_neg ‹_›]; obtain ⟨c, h3, h4⟩ := h1; exact ⟨c.ren a b, by simp [h3], zus h4⟩
theorem vr_ren {σ : St} {g : Gh} {w : World} {a b : Nat} {x : V} {v : Value} (h : VR σ g w x v) : VR (σ.ren a b) (g.ren a b) w (x.ren a b) v := by
 cases x with
 | one c => exact zus h
 | agg cs => obtain ⟨q, h1, h2⟩ := h; exact ⟨q, h1, zjf h2⟩
 | tup xs => obtain ⟨q, h1, h2⟩ := h; exact ⟨q, h1, zzc h2⟩
theorem zis {σ : St} {a b e : Nat} (h : (σ.ren a b).On e) : σ.On (swp a b e) := h
theorem Rel.ren {n0 : Nat -> Prop} {N : Nat} {σ : St} {g : Gh} {ac : Act} {w : World} (h : Rel n0 N σ g ac w) (a b : Nat) : Rel n0 N (σ.ren a b) (g.ren a b) ac w := by
 have hF := zom (σ := σ) (g := g) (w := w) (a := a) (b := b)
 refine ⟨h.defers, h.size, h.anew, fun i => vr_ren (h.slots i), fun k cs hk => ?_, fun k hk => h.base k (zgo.1 hk), fun k k' h1 h2 => h.inj k k' (zgo.1 h1) (zgo.1 h2), fun e x he ho => ?_, fun e x he ho => ?_, fun e n => h.slc (swp a b e) n, fun e he => h.ebase _ (zis he), fun e he => h.etop _ (zis he), fun e he => h.nodup _ (zis he), fun e e' he he' hne => h.apart _ _ (zis he) (zis he') (fun k => hne (by rw [<- zck a b e, k, zck])), fun e k he hk => h.ebx _ k (zis he) (zgo.1 hk)⟩
 ·obtain ⟨cs0, h1, rfl⟩ := Option.map_eq_some_iff.1 hk
  obtain ⟨vs, ty, k1, k2⟩ := h.boxes k cs0 h1
  exact ⟨vs, ty, k1, zjf k2⟩
 ·rw [hF]; exact h.evs (swp a b e) x he ho
 ·rw [hF]; exact h.offs (swp a b e) x he ho
theorem zpf (a b : Nat) : ∀ (l : List (Nat × V)) (i : Nat), (zdr l i).ren a b = zdr (l.map fun p => (p.1, p.2.ren a b)) i
 | [], i => rfl
 | (j, v) :: l, i => by
  simp only [List.map_cons, zdr]
  split
  ·rfl
  ·exact zpf a b l i
theorem zyw {α β : Type} (f : α -> β) : ∀ (l : List (Nat × α)) (i : Nat), (tbl l i).map f = tbl (l.map fun p => (p.1, f p.2)) i
 | [], i => rfl
 | (j, v) :: l, i => by
  simp only [List.map_cons, tbl]
  split
  ·rfl
  ·exact zyw f l i
theorem zx8 {α : Type} (a b : Nat) : ∀ (l : List (Nat × α)) (i : Nat), tbl l (swp a b i) = tbl (l.map fun p => (swp a b p.1, p.2)) i
 | [], i => rfl
 | (j, v) :: l, i => by
  simp only [List.map_cons, tbl]
  by_cases h : swp a b i = j
  ·rw [if_pos h, if_pos (by rw [<- h, zck])]
  ·rw [if_neg h, if_neg (fun e => h (by rw [e, zck]))]
   exact zx8 a b l i
theorem wk_ren (a b : Nat) (l : List (Nat × V)) (bl : List (Nat × List C)) (el : List (Nat × Ev)) : Wk (hd l bl el) (hd (l.map fun p => (p.1, p.2.ren a b)) (bl.map fun p => (p.1, p.2.map (C.ren a b))) (el.map fun p => (swp a b p.1, p.2))) := fun n0 N g ac w hR => by
 have e : (hd l bl el).ren a b = hd (l.map fun p => (p.1, p.2.ren a b)) (bl.map fun p => (p.1, p.2.map (C.ren a b))) (el.map fun p => (swp a b p.1, p.2)) := by
  unfold hd St.ren
  simp only [St.mk.injEq]
  exact ⟨funext fun i => zpf a b l i, funext fun k => zyw _ bl k, funext fun e => zx8 a b el e⟩
 exact ⟨g.ren a b, e ▸ hR.ren a b, rfl, rfl⟩
end Go.Proofs.Yteeaofpphmhjdaa
namespace Go.Proofs.Yteeaofpphmhjdaa
set_option linter.unusedSimpArgs false
set_option linter.unusedVariables false
set_option linter.unusedSectionVars false
set_option maxRecDepth 4000
open Go.RowKit
variable {P : Program}
def C.evs : C -> List Nat
 | .ow e _ => [e]
 | .eo e _ _ _ _ => [e]
 | _ => []
def C.bxs : C -> List Nat
 | .bx b _ => [b]
 | .fn _ caps => caps
 | _ => []
def V.alls : V -> List C
 | .one c => [c]
 | .agg cs => cs
 | .tup xs => xs.flatMap (·.2)
def ins (x : Nat) : List Nat -> List Nat
 | [] => [x]
 | y :: l => if x = y then y :: l else y :: ins x l
def zii : List Nat -> List Nat -> List Nat
 | [], l => l
 | x :: xs, l => zii xs (ins x l)
def noK (x : Nat) : List Nat -> Bool
 | [] => true
 | y :: l => if x = y then false else noK x l
def dif (l : List Nat) : List Nat -> List Nat
 | [] => []
 | x :: xs => if noK x l = true then x :: dif l xs else dif l xs
def zzz : List C -> List Nat
 | [] => []
 | c :: cs => c.bxs ++ zzz cs
def qae : List C -> List Nat
 | [] => []
 | c :: cs => c.evs ++ qae cs
def St.kb0 (σ : St) : List Nat -> List Nat
 | [] => []
 | i :: L => zii (zzz (σ.sl i).alls) (σ.kb0 L)
def St.kb1 (σ : St) : List Nat -> List Nat
 | [] => []
 | b :: B => zii (b :: zzz ((σ.bx b).getD [])) (σ.kb1 B)
def St.KB (σ : St) (L : List Nat) : List Nat := σ.kb1 (σ.kb0 L)
def St.ke0 (σ : St) : List Nat -> List Nat
 | [] => []
 | i :: L => zii (qae (σ.sl i).alls) (σ.ke0 L)
def St.ke1 (σ : St) (l : List Nat) : List Nat -> List Nat
 | [] => l
 | b :: B => zii (qae ((σ.bx b).getD [])) (σ.ke1 l B)
def St.KE (σ : St) (L : List Nat) : List Nat := σ.ke1 (σ.ke0 L) (σ.KB L)
def St.lL (σ : St) (L : List Nat) : List (Nat × V) := L.map fun i => (i, σ.sl i)
def St.lB (σ : St) (B : List Nat) : List (Nat × List C) := B.map fun b => (b, (σ.bx b).getD [])
def St.lE (σ : St) (E : List Nat) : List (Nat × Ev) := E.map fun e => (e, (σ.ev e).getD ⟨false, 0, [], 0, false⟩)
def St.hL (σ : St) (L : List Nat) : St := hd (σ.lL L) (σ.lB (σ.KB L)) (σ.lE (σ.KE L))
def wkK (σ : St) (L : List Nat) : Prop := wkL σ (σ.hL L) (σ.lL L) /\ wkB σ (σ.hL L) (σ.lB (σ.KB L)) /\ wkE σ (σ.lE (σ.KE L))
theorem qeh {σ : St} {L : List Nat} (h : wkK σ L) : Wk σ (σ.hL L) := zaa h
section
variable {ks : List Fr} {Q : Exit -> St -> Prop} {σ : St} {ops : Array Oper} {os : List Oper} {ty : TypeId} {ps : String} {af : Array Edge} {dst : Option Nat} {x : Operand} {asx : Array Operand} {ts : Array TypeId} {f : FuncId}
theorem zth {pre : List D} {d : D} {post : List D} {d' : D} {res : List D} (L : List Nat) (h : IC P f pre d post d' res) (hw : wkK σ L)
  (hd1 : ((σ.lL L).all fun p => p.2.mOk) = true) (hd2 : ((σ.lB (σ.KB L)).all fun p => p.2.all C.mOk) = true) (hd3 : ((σ.lE (σ.KE L)).all fun p => p.2.on && p.2.deep) = true)
  (hp : zal (zau ((σ.hL L).get P 0 x)) fun p => p.1 = f /\ spI ((σ.hL L).gets P asx ts ++ p.2) pre.length fun p1 gv p2 => zo1 p1 pre /\ zo1 p2 post /\ inG (σ.hL L) gv d d') (hr : res.all D.fl = true)
  (k : exo P ops os ks Q ((σ.hL L).cI P x asx ts pre.length dst d' res)) : exo P ops (⟨dst, .call ⟨.value x, asx, ts⟩, ty, ps, af, none⟩ :: os) ks Q σ :=
 callId h hw hd1 hd2 hd3 hp hr k
theorem qee {g : Gh} {w : World} {c : C} {t : T} {v : Value} (h : rdC c t) (hv : CR σ g w c v) : zaf w (zby σ g w) t v := by
 unfold rdC at h
 split at h
 ·rename_i x
  obtain ⟨rfl, hn⟩ := h
  exact zhx (σ := σ) (g := g) (x := .one (.t x)) (d := .one x) ⟨rfl, hn⟩ hv _
 ·rename_i f f'
  subst h
  exact zhx (σ := σ) (g := g) (x := .one (.fn f [])) (d := .one (.fn f [])) rfl hv _
 ·subst h; exact hv
 ·obtain ⟨rfl, rfl⟩ := h
  obtain ⟨b, q, h1, h2, h3⟩ := hv
  unfold zaf
  exact ⟨b, q, h1, h2, h3⟩
 ·subst h
  rw [show v = .slice none 0 0 from hv]
  unfold zaf
  exact ⟨none, 0, rfl, by simp, by simp, Or.inl rfl⟩
 ·exact h.elim
theorem zym {g : Gh} {w : World} : ∀ {cs : List C} {ts : List T} {vs : List Value}, rdCs cs ts -> CRs σ g w cs vs -> zab w (zby σ g w) ts vs
 | [], [], vs, _, hv => by unfold zab; exact hv
 | [], _ :: _, _, h, _ => h.elim
 | _ :: _, [], _, h, _ => h.elim
 | c :: cs, t :: ts, vs, h, hv => by
  obtain ⟨v, vs', rfl, h1, h2⟩ := hv
  unfold zab
  exact ⟨v, vs', rfl, qee h.1 h1, zym h.2 h2⟩
theorem rdV_fr {g : Gh} {w : World} {x : V} {d : D} {v : Value} (h : rdV x d) (hv : VR σ g w x v) : zta w (zby σ g w) d v := by
 unfold rdV at h
 split at h
 ·exact qee h hv
 ·obtain ⟨b, e, hv⟩ := hv; exact ⟨b, e, zym h hv⟩
 ·exact h.elim
end
def gVN (k : Nat) : Bool × D -> V
 | (false, d) => d.toN
 | (true, d) => gV k (true, d)
theorem zao.atR {w : World} {A : Nat -> Prop} : ∀ {ds : List (Bool × D)} {vs : List Value} {fp tp : List Nat}, zao w A ds vs fp tp -> ∀ (i : Nat) d, ds[i]? = some (false, d) -> ∃ v, vs[i]? = some v /\ zta w A d v
 | [], _, _, _, _, i, d, h => by simp at h
 | (false, e) :: ds, _, _, _, h, 0, d, hi => by
  obtain ⟨v, vs', rfl, h1, _⟩ := h
  simp only [List.getElem?_cons_zero, Option.some.injEq, Prod.mk.injEq, true_and] at hi
  subst hi
  exact ⟨v, rfl, h1⟩
 | (true, e) :: ds, _, _, _, h, 0, d, hi => by simp at hi
 | (false, e) :: ds, _, _, _, h, i + 1, d, hi => by
  obtain ⟨v, vs', rfl, _, h2⟩ := h
  simpa using zao.atR h2 i d (by simpa using hi)
 | (true, e) :: ds, _, _, _, h, i + 1, d, hi => by
  obtain ⟨v, vs', f1, f2, t1, t2, rfl, rfl, rfl, _, h2⟩ := h
  simpa using zao.atR h2 i d (by simpa using hi)
def renL (a b : Nat) (l : List (Nat × V)) : List (Nat × V) := l.map fun p => (p.1, p.2.ren a b)
def renB (a b : Nat) (l : List (Nat × List C)) : List (Nat × List C) := l.map fun p => (p.1, p.2.map (C.ren a b))
def renE (a b : Nat) (l : List (Nat × Ev)) : List (Nat × Ev) := l.map fun p => (swp a b p.1, p.2)
theorem zpx (a b : Nat) (c : C) : (c.ren a b).ren a b = c := by cases c <;> simp [C.ren, zck]
theorem zkw (a b : Nat) (cs : List C) : (cs.map (C.ren a b)).map (C.ren a b) = cs := by
 rw [List.map_map]; exact (List.map_congr_left fun c _ => zpx a b c).trans (List.map_id cs)
theorem qcc (a b : Nat) (v : V) : (v.ren a b).ren a b = v := by
 cases v with
 | one c => simp [V.ren, zpx]
 | agg cs => simp only [V.ren, zkw]
 | tup xs =>
  simp only [V.ren, List.map_map]
  congr 1
  exact (List.map_congr_left fun x _ => by simp only [Function.comp, zkw]; rfl).trans (List.map_id xs)
theorem qbh (a b : Nat) {σ : St} {l : List (Nat × V)} {bl : List (Nat × List C)} {el : List (Nat × Ev)} (h : wkL σ (hd (renL a b l) (renB a b bl) (renE a b el)) (renL a b l) /\ wkB σ (hd (renL a b l) (renB a b bl) (renE a b el)) (renB a b bl) /\ wkE σ (renE a b el)) : Wk σ (hd l bl el) := by
 have h1 := (zaa h).trans (wk_ren a b _ _ _)
 have e1 : (renL a b l).map (fun p => (p.1, p.2.ren a b)) = l := by
  unfold renL; rw [List.map_map]; exact (List.map_congr_left fun p _ => by simp only [Function.comp, qcc]; rfl).trans (List.map_id l)
 have e2 : (renB a b bl).map (fun p => (p.1, p.2.map (C.ren a b))) = bl := by
  unfold renB; rw [List.map_map]; exact (List.map_congr_left fun p _ => by simp only [Function.comp, zkw]; rfl).trans (List.map_id bl)
 have e3 : (renE a b el).map (fun p => (swp a b p.1, p.2)) = el := by
  unfold renE; rw [List.map_map]; exact (List.map_congr_left fun p _ => by simp only [Function.comp, zck]; rfl).trans (List.map_id el)
 rw [e1, e2, e3] at h1
 exact h1
attribute [go_sem] C.evs C.bxs V.alls ins zii noK dif zzz qae St.kb0 St.kb1 St.KB St.ke0 St.ke1 St.KE St.lL St.lB St.lE St.hL wkK gVN renL renB renE C.ren V.ren swp
end Go.Proofs.Yteeaofpphmhjdaa
namespace Go.Proofs.Yteeaofpphmhjdaa
set_option linter.unusedSimpArgs false
set_option linter.unusedVariables false
set_option linter.unusedSectionVars false
set_option maxRecDepth 4000
open Go.RowKit
variable {P : Program}
theorem zao.append {w : World} {A : Nat -> Prop} : ∀ {d1 d2 : List (Bool × D)} {v1 v2 : List Value} {f1 f2 t1 t2 : List Nat}, zao w A d1 v1 f1 t1 -> zao w A d2 v2 f2 t2 -> zao w A (d1 ++ d2) (v1 ++ v2) (f1 ++ f2) (t1 ++ t2)
 | [], _, _, _, _, _, _, _, h, k => by obtain ⟨rfl, rfl, rfl⟩ := h; exact k
 | (true, d) :: ds, _, _, _, _, _, _, _, h, k => by
  obtain ⟨v, vs', g1, g2, s1, s2, rfl, rfl, rfl, h1, h2⟩ := h
  exact ⟨v, _, g1, _, s1, _, rfl, by rw [List.append_assoc], by rw [List.append_assoc], h1, zao.append h2 k⟩
 | (false, d) :: ds, _, _, _, _, _, _, _, h, k => by
  obtain ⟨v, vs', rfl, h1, h2⟩ := h
  exact ⟨v, _, rfl, h1, zao.append h2 k⟩
theorem zao.len {w : World} {A : Nat -> Prop} : ∀ {ds : List (Bool × D)} {vs : List Value} {fp tp : List Nat}, zao w A ds vs fp tp -> vs.length = ds.length
 | [], _, _, _, h => by rw [h.1]; rfl
 | (true, d) :: ds, _, _, _, h => by obtain ⟨v, vs', _, _, _, _, rfl, rfl, rfl, _, h2⟩ := h; simp [zao.len h2]
 | (false, d) :: ds, _, _, _, h => by obtain ⟨v, vs', rfl, _, h2⟩ := h; simp [zao.len h2]
theorem zao.split {w : World} {A : Nat -> Prop} : ∀ {d1 d2 : List (Bool × D)} {vs : List Value} {fp tp : List Nat}, zao w A (d1 ++ d2) vs fp tp -> ∃ v1 v2 f1 f2 t1 t2, vs = v1 ++ v2 /\ fp = f1 ++ f2 /\ tp = t1 ++ t2 /\ zao w A d1 v1 f1 t1 /\ zao w A d2 v2 f2 t2
 | [], d2, vs, fp, tp, h => ⟨[], vs, [], fp, [], tp, rfl, rfl, rfl, ⟨rfl, rfl, rfl⟩, h⟩
 | (true, d) :: ds, d2, _, _, _, h => by
  obtain ⟨v, vs', g1, g2, s1, s2, rfl, rfl, rfl, h1, h2⟩ := h
  obtain ⟨v1, v2, f1, f2, t1, t2, rfl, rfl, rfl, k1, k2⟩ := zao.split h2
  exact ⟨v :: v1, v2, g1 ++ f1, f2, s1 ++ t1, t2, rfl, by rw [List.append_assoc], by rw [List.append_assoc], ⟨v, v1, g1, f1, s1, t1, rfl, rfl, rfl, h1, k1⟩, k2⟩
 | (false, d) :: ds, d2, _, _, _, h => by
  obtain ⟨v, vs', rfl, h1, h2⟩ := h
  obtain ⟨v1, v2, f1, f2, t1, t2, rfl, rfl, rfl, k1, k2⟩ := zao.split h2
  exact ⟨v :: v1, v2, f1, f2, t1, t2, rfl, rfl, rfl, ⟨v, v1, rfl, h1, k1⟩, k2⟩
def za5 : List (Bool × D) -> List (Bool × T)
 | [] => []
 | (b, .one t) :: ds => (b, t) :: za5 ds
 | (b, .agg ts) :: ds => ts.map (fun t => (b, t)) ++ za5 ds
def bxA (box : List (Bool × T)) : List (Bool × D) := box.map fun p => (p.1, .one p.2)
theorem zs7.ones {w : World} {A : Nat -> Prop} : ∀ {ts : List T} {vs : List Value} {fp tp : List Nat}, zs7 w ts vs fp tp -> zao w A (bxA (ts.map fun t => (true, t))) vs fp tp
 | [], _, _, _, h => h
 | t :: ts, _, _, _, h => by
  obtain ⟨v, vs', f1, f2, t2, rfl, rfl, rfl, h1, h2⟩ := h
  exact ⟨v, vs', f1, f2, _, t2, rfl, rfl, rfl, ⟨h1, rfl⟩, zs7.ones h2⟩
theorem zab.ones {w : World} {A : Nat -> Prop} : ∀ {ts : List T} {vs : List Value}, zab w A ts vs -> zao w A (bxA (ts.map fun t => (false, t))) vs [] []
 | [], _, h => by unfold zab at h; exact ⟨h, rfl, rfl⟩
 | t :: ts, _, h => by
  unfold zab at h
  obtain ⟨v, vs', rfl, h1, h2⟩ := h
  exact ⟨v, vs', rfl, h1, zab.ones h2⟩
theorem zeq (a b : List (Bool × T)) : bxA (a ++ b) = bxA a ++ bxA b := List.map_append
theorem zaf.cells1 {w : World} {A : Nat -> Prop} {t : T} {v : Value} (h : zaf w A t v) : v.cells = #[v] := (zaf.one h).2
theorem zao.flat {w : World} {A : Nat -> Prop} : ∀ {ds : List (Bool × D)} {vs : List Value} {fp tp : List Nat}, zao w A ds vs fp tp -> ∃ tp', zao w A (bxA (za5 ds)) (vs.flatMap fun u => u.cells.toList) fp tp'
 | [], _, _, _, h => by obtain ⟨rfl, rfl, rfl⟩ := h; exact ⟨[], rfl, rfl, rfl⟩
 | (true, .one t) :: ds, _, _, _, h => by
  obtain ⟨v, vs', f1, f2, t1, t2, rfl, rfl, rfl, h1, h2⟩ := h
  obtain ⟨tp', h2⟩ := zao.flat h2
  have e : (v :: vs').flatMap (fun u => u.cells.toList) = v :: vs'.flatMap fun u => u.cells.toList := by
   have h1' : zar w t v f1 := h1.1
   simp [h1'.one]
  exact ⟨t1 ++ tp', v, _, f1, f2, t1, tp', e, rfl, rfl, h1, h2⟩
 | (false, .one t) :: ds, _, _, _, h => by
  obtain ⟨v, vs', rfl, h1, h2⟩ := h
  obtain ⟨tp', h2⟩ := zao.flat h2
  have e : (v :: vs').flatMap (fun u => u.cells.toList) = v :: vs'.flatMap fun u => u.cells.toList := by
   have h1' : zaf w A t v := h1
   simp [h1'.cells1]
  exact ⟨tp', v, _, e, h1, h2⟩
 | (true, .agg ts) :: ds, _, _, _, h => by
  obtain ⟨v, vs', f1, f2, t1, t2, rfl, rfl, rfl, ⟨a, rfl, h1⟩, h2⟩ := h
  obtain ⟨tp', h2⟩ := zao.flat h2
  refine ⟨t1 ++ tp', ?_⟩
  show zao w A (bxA (ts.map (fun t => (true, t)) ++ za5 ds)) (a ++ vs'.flatMap fun u => u.cells.toList) _ _
  rw [zeq]
  exact zao.append h1.ones h2
 | (false, .agg ts) :: ds, _, _, _, h => by
  obtain ⟨v, vs', rfl, ⟨a, rfl, h1⟩, h2⟩ := h
  obtain ⟨tp', h2⟩ := zao.flat h2
  refine ⟨[] ++ tp', ?_⟩
  show zao w A (bxA (ts.map (fun t => (false, t)) ++ za5 ds)) (a ++ vs'.flatMap fun u => u.cells.toList) _ _
  rw [zeq]
  exact zao.append h1.ones h2
def mC1 (d j : Nat) : Bool × T -> C
 | (true, t) => owC d j t
 | (false, t) => t.toN
def mC (d : Nat) : Nat -> List (Bool × T) -> List C
 | _, [] => []
 | j, p :: ts => mC1 d j p :: mC d (j + 1) ts
def mE (d : Nat) : Nat -> List (Bool × T) -> (Nat -> Option Ev) -> (Nat -> Option Ev)
 | _, [], f => f
 | j, (true, t) :: ts, f => mE d (j + 1) ts (zob d j f t)
 | j, (false, _) :: ts, f => mE d (j + 1) ts f
def mF (d : Nat) : Nat -> List (Bool × T) -> (Nat -> Option Ev) -> Prop
 | _, [], _ => True
 | j, (true, t) :: ts, f => qcn d j f t /\ mF d (j + 1) ts (zob d j f t)
 | j, (false, _) :: ts, f => mF d (j + 1) ts f
def mD (d : Nat) : Nat -> List (Bool × D) -> List V
 | _, [] => []
 | j, (b, .one t) :: ds => .one (mC1 d j (b, t)) :: mD d (j + 1) ds
 | j, (b, .agg ts) :: ds => .agg (mC d j (ts.map fun t => (b, t))) :: mD d (j + ts.length) ds
theorem zl6 (d : Nat) : ∀ (ts : List (Bool × T)) (j : Nat), (mC d j ts).length = ts.length
 | [], _ => rfl
 | t :: ts, j => by simp [mC, zl6 d ts]
theorem zec (d : Nat) : ∀ (t1 t2 : List (Bool × T)) (j : Nat), mC d j (t1 ++ t2) = mC d j t1 ++ mC d (j + t1.length) t2
 | [], _, _ => by simp [mC]
 | t :: ts, t2, j => by simp only [List.cons_append, mC, zec d ts t2 (j + 1), List.length_cons]; rw [show j + 1 + ts.length = j + (ts.length + 1) by omega]
theorem zqr (d : Nat) : ∀ (ds : List (Bool × D)) (j : Nat), ∀ x ∈ mD d j ds, x.isTup = false
 | [], _, x, hx => by simp [mD] at hx
 | (_, .one t) :: ds, j, x, hx => by
  simp only [mD, List.mem_cons] at hx
  rcases hx with rfl | hx
  ·rfl
  ·exact zqr d ds _ x hx
 | (_, .agg ts) :: ds, j, x, hx => by
  simp only [mD, List.mem_cons] at hx
  rcases hx with rfl | hx
  ·rfl
  ·exact zqr d ds _ x hx
theorem New.mix {τ : St} {g : Gh} {NB : Nat -> Prop} {w' : World} {A : Nat -> Prop} (d : Nat) : ∀ (ts : List (Bool × T)) (vs : List Value) (fp tp : List Nat) (j : Nat) (ev' : Nat -> Option Ev) (g' : Gh) (F : List Nat), New τ g NB w' ev' g' F -> mF d j ts ev' -> zao w' A (bxA ts) vs fp tp -> fp.Nodup -> (∀ b ∈ fp, NB b /\ b ∉ F) →
  ∃ g'', New τ g NB w' (mE d j ts ev') g'' (F ++ fp) /\ (∀ e, ev' e ≠ none -> mE d j ts ev' e = ev' e /\ g''.ψ e = g'.ψ e) /\ ∀ (σ' : St) (w'' : World), σ'.ev = mE d j ts ev' -> (∀ t v, zaf w' A t v -> zaf w'' (zby σ' g'' w'') t v) -> CRs σ' g'' w'' (mC d j ts) vs
 | [], vs, fp, tp, j, ev', g', F, hN, hf, ho, hd, hb => by
  obtain ⟨rfl, rfl, rfl⟩ := ho
  exact ⟨g', by simpa [mE] using hN, fun e _ => ⟨rfl, rfl⟩, fun _ _ _ _ => rfl⟩
 | (false, t) :: ts, vs, fp, tp, j, ev', g', F, hN, hf, ho, hd, hb => by
  obtain ⟨v, vs', rfl, h1, h2⟩ := ho
  obtain ⟨g'', k1, k2, k3⟩ := New.mix d ts vs' fp tp (j + 1) ev' g' F hN hf h2 hd hb
  exact ⟨g'', k1, k2, fun σ' w'' hσ hr => ⟨v, vs', rfl, zwh (hr t v h1), k3 σ' w'' hσ hr⟩⟩
 | (true, t) :: ts, vs, fp, tp, j, ev', g', F, hN, hf, ho, hd, hb => by
  obtain ⟨v, vs', f1, f2, t1, t2, rfl, rfl, rfl, ⟨h1, _⟩, h2⟩ := ho
  obtain ⟨hf1, hf2⟩ := hf
  obtain ⟨hd1, hd2, hd3⟩ := List.nodup_append.1 hd
  have h1 : zar w' t v f1 := h1
  by_cases hfl : t.flat = true
  ·have hz : f1 = [] /\ owC d j t = .t t /\ zob d j ev' t = ev' /\ ∀ (σ' : St) (g'' : Gh) (w'' : World), CR σ' g'' w'' (.t t) v := by
    cases t <;> simp only [T.flat, Bool.false_eq_true] at hfl
    ·unfold zar at h1; exact ⟨h1.2.2.2, rfl, rfl, fun _ _ _ => by simp only [CR, zaf]; exact ⟨h1.1, h1.2.1, h1.2.2.1⟩⟩
    ·unfold zar at h1; exact ⟨h1.2, rfl, rfl, fun _ _ _ => by simp only [CR, zaf]; exact h1.1⟩
    ·unfold zar at h1; exact ⟨h1.2.2, rfl, rfl, fun _ _ _ => by simp only [CR, zaf]; exact ⟨h1.1, h1.2.1⟩⟩
    ·unfold zar at h1; exact ⟨h1.2, rfl, rfl, fun _ _ _ => by simp only [CR, zaf]; exact h1.1⟩
   obtain ⟨rfl, c2, c3, c4⟩ := hz
   rw [c3] at hf2
   obtain ⟨g'', k1, k2, k3⟩ := New.mix d ts vs' f2 t2 (j + 1) ev' g' F hN hf2 h2 hd2 (fun b hb' => hb b (by simp [hb']))
   refine ⟨g'', by simpa [mE, c3] using k1, fun e he => by simpa [mE, c3] using k2 e he, fun σ' w'' hσ hr => ⟨v, vs', rfl, ?_, k3 σ' w'' (by simpa [mE, c3] using hσ) hr⟩⟩
   show CR σ' g'' w'' (owC d j t) v
   rw [c2]; exact c4 _ _ _
  ·cases t <;> simp only [T.flat, Bool.false_eq_true, not_false_eq_true, not_true] at hfl
   ·rename_i sz rows
    have hi' : ev' (d * 32 + j) = none := hf1
    have hi : τ.ev (d * 32 + j) = none := by
     cases hx : τ.ev (d * 32 + j) with
     | none => rfl
     | some x => have := (hN.old (d * 32 + j) (by rw [hx]; simp)).1; rw [hi', hx] at this; cases this
    have hadd := hN.add hi hi' h1 (fun b hb' => (hb b (by simp [hb'])).1) hd1 (fun b hb' => (hb b (by simp [hb'])).2)
    obtain ⟨g'', k1, k2, k3⟩ := New.mix d ts vs' f2 t2 (j + 1) _ _ _ hadd hf2 h2 hd2 (fun b hb' => ⟨(hb b (by simp [hb'])).1, by
      have := (hb b (by simp [hb'])).2
      simp only [List.mem_append, not_or]
      exact ⟨this, fun hf => hd3 b hf b hb' rfl⟩⟩)
    refine ⟨g'', by simpa [mE, zob] using k1, fun e he => ?_, fun σ' w'' hσ hr => ⟨v, vs', rfl, ?_, k3 σ' w'' hσ hr⟩⟩
    ·have hne : e ≠ d * 32 + j := fun h => he (h ▸ hi')
     have := k2 e (by rw [zaj _ _ hne]; exact he)
     simp only [zaj _ _ hne] at this
     exact this
    ·have := k2 (d * 32 + j) (by rw [zac]; simp)
     simp only [zac] at this
     exact ⟨by rw [this.2], _, by rw [hσ]; exact this.1, Nat.zero_le _⟩
   ·unfold zar at h1; exact h1.elim
   ·unfold zar at h1; exact h1.elim
   ·unfold zar at h1; exact h1.elim
   ·exact (show False from hf1).elim
theorem zsq {σ : St} {g : Gh} {w w1 : World} {A : Nat -> Prop} (d : Nat) : ∀ {ds : List (Bool × D)} {us : List Value} {fp tp : List Nat} (j : Nat), zao w1 A ds us fp tp -> CRs σ g w (mC d j (za5 ds)) (us.flatMap fun u => u.cells.toList) -> VRl σ g w (mD d j ds) us
 | [], us, fp, tp, j, h, _ => h.1
 | (true, .one t) :: ds, us, fp, tp, j, h, k => by
  obtain ⟨v, vs', f1, f2, t1, t2, rfl, rfl, rfl, h1, h2⟩ := h
  have hv : zar w1 t v f1 := h1.1
  simp only [List.flatMap_cons, hv.one, za5, mC] at k
  obtain ⟨u, us', e, k1, k2⟩ := k
  simp only [List.cons_append, List.nil_append, List.cons.injEq] at e
  obtain ⟨rfl, rfl⟩ := e
  exact ⟨v, vs', rfl, k1, zsq d (j + 1) h2 k2⟩
 | (false, .one t) :: ds, us, fp, tp, j, h, k => by
  obtain ⟨v, vs', rfl, h1, h2⟩ := h
  have hv : zaf w1 A t v := h1
  simp only [List.flatMap_cons, hv.cells1, za5, mC] at k
  obtain ⟨u, us', e, k1, k2⟩ := k
  simp only [List.cons_append, List.nil_append, List.cons.injEq] at e
  obtain ⟨rfl, rfl⟩ := e
  exact ⟨v, vs', rfl, k1, zsq d (j + 1) h2 k2⟩
 | (true, .agg ts) :: ds, us, fp, tp, j, h, k => by
  obtain ⟨v, vs', f1, f2, t1, t2, rfl, rfl, rfl, ⟨x, rfl, h1⟩, h2⟩ := h
  simp only [List.flatMap_cons, Value.cells, za5, zec] at k
  obtain ⟨v1, v2, e, k1, k2⟩ := k.split
  have hl : x.length = v1.length := by rw [k1.len, zl6, List.length_map]; exact zaq.len (zaq.of_g h1)
  obtain ⟨e1, e2⟩ := List.append_inj e hl
  subst e1 e2
  rw [List.length_map] at k2
  exact ⟨_, vs', rfl, ⟨x, rfl, k1⟩, zsq d (j + ts.length) h2 k2⟩
 | (false, .agg ts) :: ds, us, fp, tp, j, h, k => by
  obtain ⟨v, vs', rfl, ⟨x, rfl, h1⟩, h2⟩ := h
  simp only [List.flatMap_cons, Value.cells, za5, zec] at k
  obtain ⟨v1, v2, e, k1, k2⟩ := k.split
  have hl : x.length = v1.length := by rw [k1.len, zl6, List.length_map]; exact h1.len
  obtain ⟨e1, e2⟩ := List.append_inj e hl
  subst e1 e2
  rw [List.length_map] at k2
  exact ⟨_, vs', rfl, ⟨x, rfl, k1⟩, zsq d (j + ts.length) h2 k2⟩
theorem zc2 {σ : St} {g : Gh} {w : World} {n0 : Nat -> Prop} {N : Nat} {a : Act} (hR : Rel n0 N σ g a w) {B : Sr -> List Nat} (hB : Fam w σ g B) {K : List Sr -> Prop} : ∀ {xs : List V} {ds : List (Bool × D)} {u : List Sr} {ps : List (Nat × Nat × Nat)} {vs : List Value}, gvA σ K u ps xs ds -> VRl σ g w xs vs →
  ∃ s, K (s.reverse ++ u) /\ (∃ tp, zao w (zby σ g w) ds vs (bks B s) tp) /\ (∀ x ∈ s, σ.On x.1) /\ (u.Pairwise okP -> (s.reverse ++ u).Pairwise okP)
 | [], [], u, ps, vs, h, hv => ⟨[], h, ⟨[], hv, rfl, rfl⟩, by simp, fun h => h⟩
 | [], _ :: _, _, _, _, h, _ => h.elim
 | x :: xs, [], _, _, _, h, _ => by cases x <;> exact h.elim
 | x :: xs, (false, d) :: ds, u, ps, vs, h, hv => by
  obtain ⟨v, vs', rfl, h1, h2⟩ := hv
  unfold gvA at h
  obtain ⟨hr, h⟩ := h
  obtain ⟨s, k1, ⟨tp, k2⟩, k3, k4⟩ := zc2 hR hB h h2
  exact ⟨s, k1, ⟨tp, v, vs', rfl, rdV_fr hr h1, k2⟩, k3, k4⟩
 | .one c :: xs, (true, .one t) :: ds, u, ps, vs, h, hv => by
  obtain ⟨v, vs', rfl, h1, h2⟩ := hv
  unfold gvA at h
  obtain ⟨s, ps', tp, k1, k2, k3, k4⟩ := zb8 hR hB h (vs := [v]) ⟨v, [], rfl, h1, rfl⟩
  obtain ⟨s', j1, ⟨tp', j2⟩, j3, j4⟩ := zc2 hR hB k1 h2
  obtain ⟨v0, vs0, f1, f2, t2, e0, e1, rfl, q1, q2⟩ := k2
  cases e0
  obtain ⟨_, rfl, rfl⟩ := q2
  rw [List.append_nil] at e1
  refine ⟨s ++ s', by simpa using j1, ⟨zhw t f1 ++ tp', v, vs', bks B s, bks B s', _, tp', rfl, by unfold bks; rw [List.flatMap_append], rfl, ⟨by rw [e1]; exact q1, by rw [e1]⟩, j2⟩, fun x hx => ?_, fun hu => by simpa using j4 (k4 hu)⟩
  rcases List.mem_append.1 hx with hx | hx
  ·exact k3 x hx
  ·exact j3 x hx
 | .agg cs :: xs, (true, .agg ts) :: ds, u, ps, vs, h, hv => by
  obtain ⟨v, vs', rfl, ⟨y, rfl, h1⟩, h2⟩ := hv
  unfold gvA at h
  obtain ⟨s, ps', tp, k1, k2, k3, k4⟩ := zb8 hR hB h h1
  obtain ⟨s', j1, ⟨tp', j2⟩, j3, j4⟩ := zc2 hR hB k1 h2
  refine ⟨s ++ s', by simpa using j1, ⟨tp ++ tp', _, vs', bks B s, bks B s', tp, tp', rfl, by unfold bks; rw [List.flatMap_append], rfl, ⟨y, rfl, k2⟩, j2⟩, fun x hx => ?_, fun hu => by simpa using j4 (k4 hu)⟩
  rcases List.mem_append.1 hx with hx | hx
  ·exact k3 x hx
  ·exact j3 x hx
 | .one _ :: _, (true, .agg _) :: _, _, _, _, h, _ => h.elim
 | .agg _ :: _, (true, .one _) :: _, _, _, _, h, _ => h.elim
 | .tup _ :: _, (true, d) :: _, _, _, _, h, _ => by cases d <;> exact h.elim
attribute [go_sem] za5 mC1 mC mE mF mD zob qcn
end Go.Proofs.Yteeaofpphmhjdaa
namespace Go.Proofs.Yteeaofpphmhjdaa
set_option linter.unusedSimpArgs false
set_option linter.unusedVariables false
set_option linter.unusedSectionVars false
set_option maxRecDepth 4000
open Go.RowKit
variable {P : Program}
def C.fz (e : Nat) (x : Ev) : C -> C
 | .ow e' g => if e' = e then (if g = x.gen then .rn (.sl x.sz x.rows) else .any) else .ow e' g
 | .eo e' g sz i o => if e' = e then .any else .eo e' g sz i o
 | c => c
def fzS (f : Nat -> V) (e : Nat) (x : Ev) : Nat -> V := fun i => (f i).map (C.fz e x)
def fzB (f : Nat -> Option (List C)) (e : Nat) (x : Ev) : Nat -> Option (List C) := fun b => (f b).map fun cs => cs.map (C.fz e x)
def fzE (f : Nat -> Option Ev) (e : Nat) : Nat -> Option Ev := fun k => if k = e then none else f k
theorem fzS_at (f : Nat -> V) (e : Nat) (x : Ev) (i : Nat) : fzS f e x i = (f i).map (C.fz e x) := rfl
theorem zpb (f : Nat -> Option (List C)) (e : Nat) (x : Ev) (b : Nat) : fzB f e x b = (f b).map fun cs => cs.map (C.fz e x) := rfl
theorem fzE_at (f : Nat -> Option Ev) (e k : Nat) : fzE f e k = if k = e then none else f k := rfl
def St.fz (σ : St) (e : Nat) (x : Ev) : St := ⟨fzS σ.sl e x, fzB σ.bx e x, fzE σ.ev e⟩
theorem qf6 {σ : St} {e : Nat} {x : Ev} (hx : σ.ev e = some x) (hd : x.deep = true) (ho : x.on = true) : Wk σ (σ.fz e x) := by
 intro n0 N g a w h
 have hev : ∀ e', e' ≠ e -> (σ.fz e x).ev e' = σ.ev e' := fun e' he => by show (if e' = e then none else σ.ev e') = _; rw [if_neg he]
 have hee : (σ.fz e x).ev e = none := by show (if e = e then none else σ.ev e) = _; rw [if_pos rfl]
 have hsome : ∀ e' z, (σ.fz e x).ev e' = some z -> e' ≠ e /\ σ.ev e' = some z := fun e' z hz => by
  by_cases he : e' = e
  ·subst he; rw [hee] at hz; cases hz
  ·exact ⟨he, by rw [<- hev e' he]; exact hz⟩
 have hon : ∀ e', (σ.fz e x).On e' -> e' ≠ e /\ σ.On e' := fun e' ⟨z, hz, h1⟩ => ⟨(hsome e' z hz).1, z, (hsome e' z hz).2, h1⟩
 have hbx : ∀ b, (σ.fz e x).bx b ≠ none ↔ σ.bx b ≠ none := fun b => by unfold St.fz; simp [zpb]
 have hOn : σ.On e := ⟨x, hx, ho⟩
 have hf : ∀ b, Fix σ g w b -> Fix (σ.fz e x) g w b := fun b hf => ⟨fun k hk => hf.1 k ((hbx k).1 hk), fun e' z hz h1 => hf.2.1 e' z (hsome e' z hz).2 h1, hf.2.2⟩
 have hfr : ∀ b, zby σ g w b -> zby (σ.fz e x) g w b := fun b hb => ⟨hf b hb.1, fun e' h' => hb.2 e' (hon e' h').2⟩
 have hgone : ∀ b ∈ g.φ e, b < w.heap.size -> zby (σ.fz e x) g w b := fun b hb hl => by
  have hne : ∀ e', (σ.fz e x).On e' -> b ∉ g.φ e' := fun e' he' hm => h.apart e e' hOn (hon e' he').2 (Ne.symm (hon e' he').1) b hb hm
  exact ⟨⟨fun j hj hjb => h.ebx e j hOn ((hbx j).1 hj) (by rw [hjb]; exact hb), fun e' z hz h1 hh => hne e' ⟨z, hz, h1⟩ (List.mem_of_mem_head? hh), hl, (h.ebase e hOn b hb).1⟩, hne⟩
 have hhas : ∀ e' n, e' ≠ e -> σ.has e' n -> (σ.fz e x).has e' n := fun e' n he ⟨z, hz, h1⟩ => ⟨z, by rw [hev e' he]; exact hz, h1⟩
 have cr : ∀ c v, CR σ g w c v -> CR (σ.fz e x) g w (c.fz e x) v := fun c v hc => by
  cases c with
  | t y => exact zaf.keep (fun _ _ => rfl) hf y v hc
  | nl s => exact hc
  | ow e' n =>
   show CR _ _ _ (if e' = e then (if n = x.gen then .rn (.sl x.sz x.rows) else .any) else .ow e' n) v
   by_cases he : e' = e
   ·subst he
    rw [if_pos rfl]
    by_cases hn : n = x.gen
    ·rw [if_pos hn]
     subst hn
     obtain ⟨ao, cap, e1, e2, e3, e4⟩ := h.evs _ x hx ho
     rw [<- hc.1] at e1
     show zaf _ _ _ _
     unfold zaf
     refine ⟨ao, cap, e1, e2, e3, ?_⟩
     rcases e4 with ⟨_, _, e4, _⟩ | ⟨b, cells, ty, fps, k1, k2, k3, k4, k5⟩
     ·exact Or.inl e4
     ·rw [if_pos hd] at k5
      have hl : ∀ b' ∈ fps, b' < w.heap.size := zae.lt cells 0 x.sz x.rows fps k5
      exact Or.inr ⟨b, 0, k1, hgone b (by rw [k2]; simp) (Array.getElem?_eq_some_iff.1 k3).1, zae.rep b cells ty k3 0 x.sz x.rows fps k5 fun b' hb' => hgone b' (by rw [k2]; simp [hb']) (hl b' hb')⟩
    ·rw [if_neg hn]; trivial
   ·rw [if_neg he]; exact ⟨hc.1, hhas e' n he hc.2⟩
  | bx b o => exact ⟨hc.1, (hbx b).2 hc.2⟩
  | el cs o => obtain ⟨b, q, h1, h2, h3⟩ := hc; exact ⟨b, q, h1, hf b h2, zat.keep (fun _ _ => rfl) hf b rfl q cs h3⟩
  | eo e' s sz i o =>
   show CR _ _ _ (if e' = e then .any else .eo e' s sz i o) v
   by_cases he : e' = e
   ·rw [if_pos he]; trivial
   ·rw [if_neg he]; obtain ⟨b, n, c, h1, h2, h3, h4⟩ := hc; exact ⟨b, n, c, h1, h2, h3, hhas e' s he h4⟩
  | fn f caps => exact ⟨hc.1, fun b hb => (hbx b).2 (hc.2 b hb)⟩
  | cv u => exact hc
  | any => trivial
  | rn y => exact zaf.keep (fun _ _ => rfl) hfr y v hc
  | er cs o => obtain ⟨b, q, h1, h2, h3⟩ := hc; exact ⟨b, q, h1, hfr b h2, zat.keep (fun _ _ => rfl) hfr b rfl q cs h3⟩
 refine ⟨g, ⟨h.defers, h.size, h.anew, fun i => VR.map cr (h.slots i), fun b cs hb => ?_, fun b hb => h.base b ((hbx b).1 hb), fun b b' h1 h2 => h.inj b b' ((hbx b).1 h1) ((hbx b').1 h2), fun e' z hz h1 => ?_, fun e' z hz h1 => ?_, h.slc, fun e' h1 => h.ebase e' (hon e' h1).2, fun e' h1 => h.etop e' (hon e' h1).2, fun e' h1 => h.nodup e' (hon e' h1).2, fun e1 e2 h1 h2 => h.apart e1 e2 (hon e1 h1).2 (hon e2 h2).2, fun e' k h1 h2 => h.ebx e' k (hon e' h1).2 ((hbx k).1 h2)⟩, rfl, rfl⟩
 ·cases hc : σ.bx b with
  | none => unfold St.fz at hb; simp only [zpb, hc, Option.map_none] at hb; cases hb
  | some cs0 =>
   unfold St.fz at hb
   simp only [zpb, hc, Option.map_some, Option.some.injEq] at hb
   subst hb
   obtain ⟨vs, ty, k1, k2⟩ := h.boxes b cs0 hc
   exact ⟨vs, ty, k1, CRs.map cr k2⟩
 ·obtain ⟨ao, cap, e1, e2, e3, e4⟩ := h.evs e' z (hsome e' z hz).2 h1
  refine ⟨ao, cap, e1, e2, e3, ?_⟩
  rcases e4 with e4 | ⟨b, cells, ty, fps, k1, k2, k3, k4, k5⟩
  ·exact Or.inl e4
  ·refine Or.inr ⟨b, cells, ty, fps, k1, k2, k3, k4, ?_⟩
   split at k5
   ·rw [if_pos ‹_›]; exact k5
   ·rw [if_neg ‹_›]; exact ⟨k5.1, zah.keep (fun _ _ => rfl) hf b rfl 0 z.sz z.rows k5.2⟩
 ·exact ⟨zaf.keep (fun _ _ => rfl) hf _ _ (h.offs e' z (hsome e' z hz).2 h1).1, (h.offs e' z (hsome e' z hz).2 h1).2⟩
theorem zbo.pre {o : Oper} {σ σ' : St} {K : St -> Prop} (h : Wk σ σ') (k : zbo P o σ' K) : zbo P o σ K := fun n0 N g a w hR hn hd => by
 obtain ⟨g1, h1, h2, h3⟩ := h n0 N g a w hR
 have := k n0 N g1 a w h1 hn hd
 unfold Oper.wp at this ⊢
 revert this
 cases (execOp a.eval o).run P w <;> intro this <;> try exact this
 all_goals (revert this; rw [h2, h3]; exact id)
section
variable {ks : List Fr} {Q : Exit -> St -> Prop} {σ : St} {ops : Array Oper} {os : List Oper} {o : Oper}
theorem ztz {σ' : St} (h : Wk σ σ') (hg : o.guard = none) (hs : zpm o.op = true) (k : exo P ops (o :: os) ks Q σ') : exo P ops (o :: os) ks Q σ := by
 unfold exo za9 exG at k ⊢
 rw [hg] at k ⊢
 simp only at k ⊢
 unfold zbs zi9 at k ⊢
 rw [if_pos (by rw [hs]; rfl)] at k ⊢
 exact k.pre h
theorem frzO (e : Nat) (hg : o.guard = none) (hs : zpm o.op = true) (k : zal (σ.ev e) fun x => x.deep = true /\ x.on = true /\ exo P ops (o :: os) ks Q (σ.fz e x)) : exo P ops (o :: os) ks Q σ := by
 obtain ⟨x, hx, h1, h2, h3⟩ := zai k
 exact ztz (qf6 hx h1 h2) hg hs h3
theorem sliceF (e : Nat) {d : Option Nat} {t : TypeId} {y : Operand} {l hi m : Option Operand} {ty : TypeId} {ps : String} {af : Array Edge} (k : zal (σ.ev e) fun x => x.deep = true /\ x.on = true /\ thn (st P ⟨d, .slice t y l hi m, ty, ps, af, none⟩ (σ.fz e x)) (exo P ops os ks Q)) : exoS P ops ⟨d, .slice t y l hi m, ty, ps, af, none⟩ os ks Q σ := by
 obtain ⟨x, hx, h1, h2, h3⟩ := zai k
 obtain ⟨p, σ', h4, h5, h6⟩ := thnK h3
 exact zbo.pre (qf6 hx h1 h2) ((zq9 h4 h5).toX h6)
end
attribute [go_sem] C.fz St.fz V.map fzS_at zpb fzE_at
end Go.Proofs.Yteeaofpphmhjdaa
namespace Go.Proofs.Yteeaofpphmhjdaa
theorem ag_3 : zsd Try.prog 3 = some false := by kernel_rfl
theorem sz_3 : zbg Try.prog 3 = some 1 := by kernel_rfl
theorem in_3 : qba Try.prog 3 = some .i64 := by kernel_rfl
theorem ze_3 : zcp Try.prog 3 = some [.t (.int .i64 0)] := by kernel_rfl
theorem ag_4 : zsd Try.prog 4 = some false := by kernel_rfl
theorem sz_4 : zbg Try.prog 4 = some 1 := by kernel_rfl
theorem bo_4 : ztq Try.prog 4 = true := by kernel_rfl
theorem ze_4 : zcp Try.prog 4 = some [.t (.bool false)] := by kernel_rfl
theorem ag_5 : zsd Try.prog 5 = some false := by kernel_rfl
theorem sz_5 : zbg Try.prog 5 = some 1 := by kernel_rfl
theorem in_5 : qba Try.prog 5 = some .u8 := by kernel_rfl
theorem ag_22 : zsd Try.prog 22 = some false := by kernel_rfl
theorem sz_22 : zbg Try.prog 22 = some 1 := by kernel_rfl
theorem el_22 : elT Try.prog 22 = some 5 := by kernel_rfl
theorem nl_24 : nlT Try.prog 24 = 1 := by kernel_rfl
theorem ag_24 : zsd Try.prog 24 = some false := by kernel_rfl
theorem sz_24 : zbg Try.prog 24 = some 1 := by kernel_rfl
theorem el_24 : elT Try.prog 24 = some 27 := by kernel_rfl
theorem zq3 : zc8 Try.prog 27 = some 24 := by kernel_rfl
theorem nl_27 : nlT Try.prog 27 = 1 := by kernel_rfl
theorem ag_27 : zsd Try.prog 27 = some false := by kernel_rfl
theorem sz_27 : zbg Try.prog 27 = some 1 := by kernel_rfl
theorem el_27 : elT Try.prog 27 = some 3 := by kernel_rfl
theorem zxy : zc8 Try.prog 3 = some 8 := by kernel_rfl
theorem ze_27 : zcp Try.prog 27 = some [.nl 1] := by kernel_rfl
theorem nl_40 : nlT Try.prog 40 = 4 := by kernel_rfl
theorem ag_40 : zsd Try.prog 40 = some false := by kernel_rfl
theorem sz_40 : zbg Try.prog 40 = some 1 := by kernel_rfl
theorem el_40 : elT Try.prog 40 = some 95 := by kernel_rfl
theorem zqh : zc8 Try.prog 95 = some 48 := by kernel_rfl
theorem ag_58 : zsd Try.prog 58 = some false := by kernel_rfl
theorem sz_58 : zbg Try.prog 58 = some 1 := by kernel_rfl
theorem in_58 : qba Try.prog 58 = some .u64 := by kernel_rfl
theorem ze_60 : zcp Try.prog 60 = some [.nl 1, .t (.int .i64 0), .t (.int .u64 0)] := by kernel_rfl
theorem pl_60 : qd5 Try.prog 60 = some [(0, 1), (1, 1), (2, 1)] := by kernel_rfl
theorem qeo : zjq Try.prog 60 0 = some (0, 22) := by kernel_rfl
theorem qhd : zjq Try.prog 60 1 = some (1, 3) := by kernel_rfl
theorem qe9 : zjq Try.prog 60 2 = some (2, 58) := by kernel_rfl
theorem ze_87 : zcp Try.prog 87 = some [.nl 1, .nl 4] := by kernel_rfl
theorem pl_87 : qd5 Try.prog 87 = some [(0, 1), (1, 1)] := by kernel_rfl
theorem qgp : zjq Try.prog 87 0 = some (0, 24) := by kernel_rfl
theorem qf9 : zjq Try.prog 87 1 = some (1, 40) := by kernel_rfl
theorem ze_93 : zcp Try.prog 93 = some [.nl 1, .nl 4] := by kernel_rfl
theorem pl_93 : qd5 Try.prog 93 = some [(0, 1), (1, 1)] := by kernel_rfl
theorem qf1 : zjq Try.prog 93 0 = some (0, 24) := by kernel_rfl
theorem qf3 : zjq Try.prog 93 1 = some (1, 40) := by kernel_rfl
theorem ag_95 : zsd Try.prog 95 = some true := by kernel_rfl
theorem sz_95 : zbg Try.prog 95 = some 4 := by kernel_rfl
theorem ze_95 : zcp Try.prog 95 = some [.t (.int .i64 0), .t (.int .i64 0), .t (.int .i64 0), .nl 1] := by kernel_rfl
theorem pl_95 : qd5 Try.prog 95 = some [(0, 1), (1, 1), (2, 1), (3, 1)] := by kernel_rfl
theorem qgh : zjq Try.prog 95 0 = some (0, 3) := by kernel_rfl
theorem qey : zjq Try.prog 95 1 = some (1, 3) := by kernel_rfl
theorem qe6 : zjq Try.prog 95 2 = some (2, 3) := by kernel_rfl
theorem qfq : zjq Try.prog 95 3 = some (3, 27) := by kernel_rfl
theorem nl_99 : nlT Try.prog 99 = 1 := by kernel_rfl
theorem ag_99 : zsd Try.prog 99 = some false := by kernel_rfl
theorem sz_99 : zbg Try.prog 99 = some 1 := by kernel_rfl
theorem el_99 : elT Try.prog 99 = some 4 := by kernel_rfl
theorem qf7 : zc8 Try.prog 4 = some 1 := by kernel_rfl
theorem ze_99 : zcp Try.prog 99 = some [.nl 1] := by kernel_rfl
theorem ap_24 : apT Try.prog 24 1 := zv0 el_24 sz_27 zq3 (by decide) ze_27 rfl
theorem ap_27 : apT Try.prog 27 1 := zv0 el_27 sz_3 zxy (by decide) ze_3 rfl
theorem ap_40 : apT Try.prog 40 4 := zv0 el_40 sz_95 zqh (by decide) ze_95 rfl
attribute [go_sem] ag_3 sz_3 in_3 ze_3 ag_4 sz_4 bo_4 ze_4 ag_5 sz_5 in_5 ag_22 sz_22 el_22 nl_24 ag_24 sz_24 el_24 zq3 nl_27 ag_27 sz_27 el_27 zxy ze_27 nl_40 ag_40 sz_40 el_40 zqh ag_58 sz_58 in_58 ze_60 pl_60 qeo qhd qe9 ze_87 pl_87 qgp qf9 ze_93 pl_93 qf1 qf3 ag_95 sz_95 ze_95 pl_95 qgh qey qe6 qfq nl_99 ag_99 sz_99 el_99 qf7 ze_99 ap_24 ap_27 ap_40
attribute [go_sem] Nat.reduceEqDiff reduceIte reduceCtorEq Nat.reduceAdd Nat.reduceMul Int.reduceLE Int.reduceNeg Int.reduceToNat Nat.reduceLeDiff Nat.reduceSub Nat.reduceLT Nat.le_refl Int.cast_ofNat_Int Int.reduceLT Int.reduceGT Int.reduceGE Int.reduceEq Int.reduceBEq Nat.reduceBEq Int.reduceBNe Int.reduceAdd Int.reduceSub gt_iff_lt ge_iff_le
end Go.Proofs.Yteeaofpphmhjdaa
namespace Go.Proofs.Yteeaofpphmhjdaa
set_option linter.unusedSimpArgs false
set_option linter.unusedVariables false
set_option linter.unusedSectionVars false
set_option maxRecDepth 4000
open Go.RowKit
abbrev iD (n : Int) : D := .one (.int .i64 n)
abbrev bD (b : Bool) : D := .one (.bool b)
theorem zag {α : Type} (f : α -> List T) (xs : List α) (k : Nat) (h : k < xs.length) : (xs.map f).getD k [] = f (xs[k]'h) := by simp [List.getD, h]
def szR (w : Nat) (left : Int) : Int := if (w : Int) <= left then left - w else -1
def zs9 {α : Type} (f : α -> Nat) (xs : List α) (k : Nat) : Nat := ((xs.take k).map f).sum
theorem zld {α : Type} (f : α -> Nat) (xs : List α) : zs9 f xs 0 = 0 := by simp [zs9]
theorem zua {α : Type} (f : α -> Nat) (xs : List α) (k : Nat) (h : k < xs.length) : zs9 f xs (k + 1) = zs9 f xs k + f xs[k] := by
 unfold zs9
 rw [List.take_succ_eq_append_getElem h, List.map_append, List.sum_append]; simp
theorem qet {α : Type} (f : α -> Nat) (xs : List α) (k : Nat) : zs9 f xs k <= (xs.map f).sum := by
 unfold zs9
 conv => rhs; rw [<- List.take_append_drop k xs, List.map_append, List.sum_append]
 omega
theorem qa3 {α : Type} (f : α -> Nat) (xs : List α) (k : Nat) (h : xs.length <= k) : zs9 f xs k = (xs.map f).sum := by
 unfold zs9
 rw [List.take_of_length_le h]
theorem qe1 {α : Type} (f : α -> Nat) (xs : List α) : ∀ x ∈ xs, f x <= (xs.map f).sum := by
 induction xs with
 | nil => simp
 | cons a xs ih =>
  intro x hx
  rcases List.mem_cons.1 hx with rfl | hx
  ·simp
  ·have := ih x hx; simp; omega
noncomputable def same {α : Type} (a b : α) : Bool := @decide (a = b) (Classical.propDecidable _)
theorem zcs {α : Type} {a b : α} : same a b = true ↔ a = b := by simp [same]
theorem zcm {α : Type} {a b : α} : same a b = false ↔ a ≠ b := by simp [same]
theorem zbi {α : Type} (a : α) : same a a = true := by simp [same]
theorem zdc {α : Type} (a b : α) (xs ys : List α) : same (a :: xs) (b :: ys) = (same a b && same xs ys) := by
 rw [Bool.eq_iff_iff, Bool.and_eq_true, zcs, zcs, zcs, List.cons.injEq]
theorem qbr {α : Type} : same ([] : List α) [] = true := zbi _
theorem zaw {k : Nat} (h : k < 9223372036854775807) : IntKind.i64.wrap ((k : Int) + 1) = ((k + 1 : Nat) : Int) := zuw h
theorem qg4 {w : Nat} {l : Int} (h0 : 0 <= l) (h : szR w l < 0) : l < w := by unfold szR at h; split at h <;> omega
theorem zvl {w : Nat} {l : Int} (h : ¬ szR w l < 0) : (w : Int) <= l /\ szR w l = l - w := by
 by_cases hh : (w : Int) <= l
 ·exact ⟨hh, if_pos hh⟩
 ·exact absurd (by rw [szR, if_neg hh]; omega) h
theorem znx {w : Nat} {l : Int} (h : l < w) : szR w l = -1 := if_neg (by omega)
theorem qd7 {w : Nat} {l : Int} (h : (w : Int) <= l) : szR w l = l - w := if_pos h
theorem zqs {k : IntKind} {a b : Int} (h : a = b) : T.int k a = T.int k b := h ▸ rfl
theorem zl5 (A : List (List T)) (n k : Nat) (z ts : List T) (hA : A.length = k) (hk : k < n) (hz : ts.length = z.length) : zcq (A ++ List.replicate (n - k) z) k 0 ts = A ++ [ts] ++ List.replicate (n - (k + 1)) z := by
 subst hA
 have e : List.replicate (n - A.length) z = z :: List.replicate (n - (A.length + 1)) z := by
  rw [show n - A.length = (n - (A.length + 1)) + 1 by omega]; rfl
 unfold zcq
 rw [e]
 simp [zt0 _ _ hz]
end Go.Proofs.Yteeaofpphmhjdaa
namespace Go.Proofs.Yteeaofpphmhjdaa
set_option linter.unusedSimpArgs false
set_option linter.unusedVariables false
set_option linter.unusedSectionVars false
set_option maxRecDepth 4000
open Go.RowKit
theorem zen {α : Type} (c : α -> List T) : ∀ (xs : List PD), (∀ x ∈ xs, ∃ a, x.cells = c a) -> ∃ l : List α, PD.rows xs = l.map c
 | [], _ => ⟨[], rfl⟩
 | x :: xs, h => by
  obtain ⟨a, ha⟩ := h x (by simp)
  obtain ⟨l, hl⟩ := zen c xs fun y hy => h y (by simp [hy])
  exact ⟨a :: l, by rw [PD.rows, ha, hl]; rfl⟩
end Go.Proofs.Yteeaofpphmhjdaa
namespace Go.Proofs.Yteeaofpphmhjdaa
set_option linter.unusedSimpArgs false
set_option linter.unusedVariables false
set_option linter.unusedSectionVars false
set_option maxRecDepth 4000
def ab (n : Int) : Int := max n (-n)
theorem zc3 (n : Int) : ab (-n) = ab n := by unfold ab; omega
theorem zcj {n : Int} (h : 0 <= n) : ab n = n := by unfold ab; omega
theorem ab_eq {a b : Int} : ab a = ab b ↔ a = b \/ a = -b := by unfold ab; omega
def zxn : Int -> List Int -> Bool
 | _, [] => true
 | p, l :: ls => decide (p < ab l) && decide (ab l <= 12) && zxn (ab l) ls
def pcl (c : List Int) : Bool := zxn 0 c
def zgw (S : List (List Int)) : Bool := decide (S.length <= 40) && S.all pcl
def sat (a c : List Int) : Bool := c.any fun l => a.contains l
def opn (a c : List Int) : List Int := c.filter fun l => !a.contains (-l)
def fal (a c : List Int) : Bool := (opn a c).isEmpty
abbrev Ris (c : List Int) : Prop := c.Pairwise fun a b => ab a < ab b
theorem zph : ∀ (c : List Int) (p : Int), zxn p c = true ↔ (∀ l ∈ c, p < ab l /\ ab l <= 12) /\ Ris c
 | [], p => by simp [zxn, Ris]
 | l :: ls, p => by
  unfold zxn
  rw [Bool.and_eq_true, Bool.and_eq_true, decide_eq_true_eq, decide_eq_true_eq, zph ls (ab l)]
  simp only [List.mem_cons, forall_eq_or_imp, Ris, List.pairwise_cons]
  constructor
  ·rintro ⟨⟨h1, h2⟩, h3, h4⟩
   exact ⟨⟨⟨h1, h2⟩, fun x hx => ⟨by have := h3 x hx; omega, (h3 x hx).2⟩⟩, fun x hx => (h3 x hx).1, h4⟩
  ·rintro ⟨⟨⟨h1, h2⟩, h3⟩, h4, h5⟩
   exact ⟨⟨h1, h2⟩, fun x hx => ⟨h4 x hx, (h3 x hx).2⟩, h5⟩
theorem zez (c : List Int) : pcl c = true ↔ (∀ l ∈ c, 0 < ab l /\ ab l <= 12) /\ Ris c := zph c 0
theorem zcx {c : List Int} (h : pcl c = true) {l : Int} (hl : l ∈ c) : 0 < ab l /\ ab l <= 12 := ((zez c).1 h).1 l hl
theorem qbe {l : Int} (h : 0 < ab l /\ ab l <= 12) : l ≠ 0 /\ -12 <= l /\ l <= 12 := by unfold ab at h; omega
theorem zkt {c : List Int} (h : Ris c) : ∀ {a b : Int}, a ∈ c -> b ∈ c -> ab a = ab b -> a = b := by
 induction h with
 | nil => intro a b ha; simp at ha
 | cons h1 _ ih =>
  intro a b ha hb e
  rcases List.mem_cons.1 ha with ea | ha' <;> rcases List.mem_cons.1 hb with eb | hb'
  ·rw [ea, eb]
  ·have := h1 _ hb'; rw [ea] at e; omega
  ·have := h1 _ ha'; rw [eb] at e; omega
  ·exact ih ha' hb' e
theorem zy8 {c : List Int} (h : pcl c = true) {l : Int} (hl : l ∈ c) : -l ∉ c := fun hn => by
 have := zkt ((zez c).1 h).2 hl hn (zc3 l).symm
 have := (qbe (zcx h hl)).1
 omega
theorem zvp : ∀ {c : List Int} {p : Int}, 0 <= p -> p <= 12 -> zxn p c = true -> (c.length : Int) + p <= 12
 | [], p, h0, h1, _ => by simp; exact h1
 | l :: ls, p, h0, h1, h => by
  unfold zxn at h
  simp only [Bool.and_eq_true, decide_eq_true_eq] at h
  have := zvp (c := ls) (p := ab l) (by omega) h.1.2 h.2
  rw [List.length_cons]
  omega
theorem zcn {c : List Int} (h : pcl c = true) : c.length <= 12 := by have := zvp (p := 0) (by omega) (by omega) h; omega
theorem zb2 {S : List (List Int)} (h : zgw S = true) {c : List Int} (hc : c ∈ S) : pcl c = true := by
 unfold zgw at h
 rw [Bool.and_eq_true, List.all_eq_true] at h
 exact h.2 c hc
theorem zer {S : List (List Int)} (h : zgw S = true) : S.length <= 40 := by
 unfold zgw at h
 rw [Bool.and_eq_true, decide_eq_true_eq] at h
 exact h.1
def zic : List Int -> Int -> List Int
 | [], x => [x]
 | y :: ys, x => if ab y < ab x then y :: zic ys x else x :: y :: ys
theorem zfh : ∀ (c : List Int) (x : Int), (zic c x).Perm (x :: c)
 | [], x => List.Perm.refl _
 | y :: ys, x => by
  unfold zic
  split
  ·exact ((zfh ys x).cons y).trans (List.Perm.swap x y ys)
  ·exact List.Perm.refl _
theorem zss (c : List Int) (x : Int) : (c ++ [x]).Perm (zic c x) := List.perm_append_comm.trans (zfh c x).symm
theorem zdl {c : List Int} {x y : Int} : y ∈ zic c x ↔ y = x \/ y ∈ c := by rw [(zfh c x).mem_iff, List.mem_cons]
theorem zj0 : ∀ {c : List Int} {x : Int}, Ris c -> (∀ y ∈ c, ab y ≠ ab x) -> Ris (zic c x)
 | [], x, _, _ => by simp [zic, Ris]
 | y :: ys, x, h, hx => by
  have hy := List.pairwise_cons.1 h
  unfold zic
  split
  next hlt =>
   refine List.pairwise_cons.2 ⟨fun z hz => ?_, zj0 hy.2 fun z hz => hx z (by simp [hz])⟩
   rcases zdl.1 hz with rfl | hz
   ·exact hlt
   ·exact hy.1 z hz
  next hlt =>
   have := hx y (by simp)
   refine List.pairwise_cons.2 ⟨fun z hz => ?_, h⟩
   rcases List.mem_cons.1 hz with rfl | hz
   ·omega
   ·have := hy.1 z hz; omega
theorem zz2 {c : List Int} {x : Int} (h : pcl c = true) (hx : 0 < ab x /\ ab x <= 12) (hn : ∀ y ∈ c, ab y ≠ ab x) : pcl (zic c x) = true := by
 have h' := (zez c).1 h
 refine (zez _).2 ⟨fun l hl => ?_, zj0 h'.2 hn⟩
 rcases zdl.1 hl with rfl | hl
 ·exact hx
 ·exact h'.1 l hl
theorem zn6 (c : List Int) (x : Int) : (zic c x).length = c.length + 1 := by rw [(zfh c x).length_eq, List.length_cons]
theorem zr0 {c d : List Int} (hp : c.Perm d) (hd : Ris d) (hc : c.Pairwise fun a b => ab a <= ab b) : c = d := by
 refine hp.eq_of_pairwise (le := fun a b => ab a <= ab b) (fun a b ha hb h1 h2 => zkt hd (hp.mem_iff.1 ha) hb (by omega)) hc (hd.imp fun h => by omega)
theorem zcd {a c : List Int} : sat a c = true ↔ ∃ l ∈ c, l ∈ a := by
 unfold sat
 rw [List.any_eq_true]
 simp only [List.contains_iff_mem]
theorem zcy {a c : List Int} : fal a c = true ↔ ∀ l ∈ c, -l ∈ a := by
 unfold fal opn
 rw [List.isEmpty_iff, List.filter_eq_nil_iff]
 constructor
 ·intro h l hl
  have := h l hl
  simpa using this
 ·intro h l hl
  have := h l hl
  simpa using this
abbrev zzh (a : List Int) : Prop := ∀ l ∈ a, -l ∉ a
theorem ztf {a c : List Int} (ha : zzh a) (h : fal a c = true) : sat a c = false := by
 rw [<- Bool.not_eq_true, zcd]
 rintro ⟨l, h1, h2⟩
 exact ha l h2 (zcy.1 h l h1)
def zs3 (a c : List Int) : Int × Int := if sat a c = true then (-1, 0) else ((opn a c).length, (opn a c).getLast?.getD 0)
def zea (S : List (List Int)) : Int := S.foldl (fun n c => c.foldl (fun m l => max m (ab l)) n) 0
def isM (S : List (List Int)) (a : List Int) : Bool := S.all (sat a)
def sfx : Int -> Nat -> List (List Int)
 | _, 0 => [[]]
 | v, n + 1 => (sfx (v + 1) n).map (v :: ·) ++ (sfx (v + 1) n).map (-v :: ·)
def asg : Int -> Nat -> Nat -> List Int
 | _, 0, _ => []
 | v, n + 1, k => (if k / 2 ^ n % 2 = 1 then -v else v) :: asg (v + 1) n k
theorem zns : ∀ (n : Nat) (v : Int), (sfx v n).length = 2 ^ n
 | 0, _ => rfl
 | n + 1, v => by
  unfold sfx
  rw [List.length_append, List.length_map, List.length_map, zns n]
  omega
theorem zup : ∀ (n : Nat) (v : Int) (k q : Nat), asg v n (q * 2 ^ n + k) = asg v n k
 | 0, _, _, _ => rfl
 | n + 1, v, k, q => by
  unfold asg
  have e : q * 2 ^ (n + 1) + k = (q * 2) * 2 ^ n + k := by rw [Nat.pow_succ, Nat.mul_assoc, Nat.mul_comm 2]
  rw [e, zup n (v + 1) k (q * 2), Nat.add_comm, Nat.add_mul_div_right _ _ (Nat.two_pow_pos n)]
  have : (k / 2 ^ n + q * 2) % 2 = k / 2 ^ n % 2 := by omega
  rw [this]
theorem zn7 : ∀ (n : Nat) (v : Int) (k : Nat) (_ : k < 2 ^ n), (sfx v n)[k]? = some (asg v n k)
 | 0, v, k, h => by
  have : k = 0 := by simpa using h
  subst this; rfl
 | n + 1, v, k, h => by
  have hl := zns n (v + 1)
  unfold sfx asg
  by_cases hk : k < 2 ^ n
  ·rw [List.getElem?_append_left (by rw [List.length_map, hl]; exact hk), List.getElem?_map, zn7 n (v + 1) k hk, Nat.div_eq_of_lt hk, if_neg (by simp)]
   rfl
  ·have h2 : k - 2 ^ n < 2 ^ n := by rw [Nat.pow_succ] at h; omega
   rw [List.getElem?_append_right (by rw [List.length_map, hl]; omega), List.length_map, hl, List.getElem?_map, zn7 n (v + 1) (k - 2 ^ n) h2]
   have hd : k / 2 ^ n = 1 := by
    rw [show k = (k - 2 ^ n) + 1 * 2 ^ n by omega, Nat.add_mul_div_right _ _ (Nat.two_pow_pos n), Nat.div_eq_of_lt h2]
   rw [hd, if_pos rfl]
   have := zup n (v + 1) (k - 2 ^ n) 1
   rw [show 1 * 2 ^ n + (k - 2 ^ n) = k by omega] at this
   rw [this]; rfl
theorem sfx_eq (n : Nat) (v : Int) : sfx v n = (List.range (2 ^ n)).map (asg v n) := by
 apply List.ext_getElem?
 intro k
 by_cases hk : k < 2 ^ n
 ·rw [zn7 n v k hk, List.getElem?_map, List.getElem?_range hk]; rfl
 ·rw [List.getElem?_eq_none (by rw [zns]; omega), List.getElem?_eq_none (by simp; omega)]
theorem zn4 : ∀ {n : Nat} {v : Int} {t : List Int}, 1 <= v -> t ∈ sfx v n -> t.length = n /\ (∀ l ∈ t, v <= ab l /\ ab l < v + n) /\ Ris t /\ ∀ w : Int, v <= w -> w < v + n -> (w ∈ t \/ -w ∈ t)
 | 0, v, t, _, h => by
  simp only [sfx, List.mem_singleton] at h
  subst h
  refine ⟨rfl, by simp, by simp [Ris], fun w h1 h2 => ?_⟩
  simp at h2; omega
 | n + 1, v, t, hv, h => by
  unfold sfx at h
  rw [List.mem_append, List.mem_map, List.mem_map] at h
  have key : ∀ x : Int, ab x = v -> ∀ s, s ∈ sfx (v + 1) n -> (x :: s).length = n + 1 /\ (∀ l ∈ x :: s, v <= ab l /\ ab l < v + ((n + 1 : Nat) : Int)) /\ Ris (x :: s) /\ ∀ w : Int, v <= w -> w < v + ((n + 1 : Nat) : Int) -> (w ∈ x :: s \/ -w ∈ x :: s) := fun x hx s hs => by
   obtain ⟨h1, h2, h3, h4⟩ := zn4 (by omega) hs
   refine ⟨by rw [List.length_cons, h1], fun l hl => ?_, List.pairwise_cons.2 ⟨fun y hy => by have := (h2 y hy).1; omega, h3⟩, fun w hw1 hw2 => ?_⟩
   ·rcases List.mem_cons.1 hl with rfl | hl
    ·omega
    ·have := h2 l hl; omega
   ·by_cases hvw : w = v
    ·have : x = w \/ x = -w := by unfold ab at hx; omega
     rcases this with rfl | rfl <;> simp
    ·rcases h4 w (by omega) (by omega) with h | h
     ·exact Or.inl (List.mem_cons_of_mem _ h)
     ·exact Or.inr (List.mem_cons_of_mem _ h)
  rcases h with ⟨s, hs, rfl⟩ | ⟨s, hs, rfl⟩
  ·exact key v (zcj (by omega)) s hs
  ·exact key (-v) (by rw [zc3, zcj (by omega)]) s hs
def qap (S : List (List Int)) : Nat -> List Int -> Int -> Option (List Int)
 | n, a, v => if (S.any fun c => fal a c) = true then none else match n with
  | 0 => some a
  | n + 1 => match qap S n (a ++ [v]) (v + 1) with
   | some m => some m
   | none => qap S n (a ++ [-v]) (v + 1)
def zyh (S : List (List Int)) : Nat -> List Int -> Int -> Nat
 | n, a, v => if (S.any fun c => fal a c) = true then 0 else match n with
  | 0 => 1
  | n + 1 => zyh S n (a ++ [v]) (v + 1) + zyh S n (a ++ [-v]) (v + 1)
structure Pre (a : List Int) (v : Int) : Prop where
 pos : 1 <= v
 bd : ∀ l ∈ a, 0 < ab l /\ ab l < v
 ris : Ris a
 all : ∀ w : Int, 1 <= w -> w < v -> (w ∈ a \/ -w ∈ a)
theorem Pre.cons {a : List Int} {v : Int} (h : Pre a v) : zzh a := fun l hl hn => by
 have := zkt h.ris hl hn (zc3 l).symm
 have := h.bd l hl
 unfold ab at this; omega
theorem Pre.put {a : List Int} {v x : Int} (h : Pre a v) (hx : ab x = v) : Pre (a ++ [x]) (v + 1) := by
 refine ⟨by have := h.pos; omega, fun l hl => ?_, ?_, fun w h1 h2 => ?_⟩
 ·rcases List.mem_append.1 hl with hl | hl
  ·have := h.bd l hl; omega
  ·rw [List.mem_singleton.1 hl]; have := h.pos; omega
 ·refine List.pairwise_append.2 ⟨h.ris, by simp, fun y hy z hz => ?_⟩
  rw [List.mem_singleton.1 hz]; have := h.bd y hy; omega
 ·by_cases hw : w = v
  ·have : x = w \/ x = -w := by unfold ab at hx; omega
   rcases this with rfl | rfl <;> simp
  ·rcases h.all w h1 (by omega) with h | h
   ·exact Or.inl (List.mem_append_left _ h)
   ·exact Or.inr (List.mem_append_left _ h)
theorem Pre.nil : Pre [] 1 := ⟨by omega, by simp, by simp [Ris], fun w h1 h2 => by omega⟩
theorem qex {a : List Int} {v : Int} (h : Pre a v) {c : List Int} (hf : fal a c = true) {n : Nat} {t : List Int} (ht : t ∈ sfx v n) : sat (a ++ t) c = false := by
 rw [<- Bool.not_eq_true, zcd]
 rintro ⟨l, h1, h2⟩
 have hn := zcy.1 hf l h1
 rcases List.mem_append.1 h2 with h2 | h2
 ·exact h.cons l h2 hn
 ·have e1 := (zn4 h.pos ht).2.1 l h2
  have e2 := h.bd _ hn
  rw [zc3] at e2; omega
theorem zdm {S : List (List Int)} {a : List Int} {v : Int} (h : Pre a v) (hv : ∀ c ∈ S, ∀ l ∈ c, 0 < ab l /\ ab l < v) (hf : (S.any fun c => fal a c) = false) : isM S a = true := by
 unfold isM
 rw [List.all_eq_true]
 intro c hc
 rw [List.any_eq_false] at hf
 have hfc := hf c hc
 rw [zcy] at hfc
 have : ∃ l ∈ c, -l ∉ a := Classical.byContradiction fun hh => hfc fun l hl => Classical.byContradiction fun h3 => hh ⟨l, hl, h3⟩
 obtain ⟨l, hl, hn⟩ := this
 refine zcd.2 ⟨l, hl, ?_⟩
 have hb := hv c hc l hl
 rcases h.all (ab l) (by omega) hb.2 with h | h
 ·have : ab l = l \/ ab l = -l := by unfold ab; omega
  rcases this with e | e
  ·rwa [e] at h
  ·rw [e] at h; exact absurd h hn
 ·have : ab l = l \/ ab l = -l := by unfold ab; omega
  rcases this with e | e
  ·rw [e] at h; exact absurd h hn
  ·rwa [e, Int.neg_neg] at h
theorem zo2 (S : List (List Int)) : ∀ (n : Nat) (a : List Int) (v : Int), Pre a v -> (∀ c ∈ S, ∀ l ∈ c, 0 < ab l /\ ab l < v + n) -> qap S n a v = ((sfx v n).map (a ++ ·)).find? (isM S)
 | n, a, v, hp, hv => by
  unfold qap
  cases hf : S.any fun c => fal a c
  ·rw [if_neg (by simp)]
   cases n with
   | zero =>
    have := zdm hp (fun c hc l hl => by have := hv c hc l hl; simpa using this) hf
    simp [sfx, this]
   | succ n =>
    have hpos := hp.pos
    have e1 := zo2 S n (a ++ [v]) (v + 1) (hp.put (zcj (by omega))) fun c hc l hl => by have := hv c hc l hl; omega
    have e2 := zo2 S n (a ++ [-v]) (v + 1) (hp.put (by rw [zc3, zcj (by omega)])) fun c hc l hl => by have := hv c hc l hl; omega
    simp only [sfx, e1, e2, List.map_append, List.map_map, List.find?_append]
    have f1 : ((fun x => a ++ x) ∘ fun x => v :: x) = fun x => (a ++ [v]) ++ x := by funext x; simp
    have f2 : ((fun x => a ++ x) ∘ fun x => -v :: x) = fun x => (a ++ [-v]) ++ x := by funext x; simp
    rw [f1, f2]
    cases List.find? (isM S) (List.map (fun x => (a ++ [v]) ++ x) (sfx (v + 1) n)) <;> rfl
  ·rw [if_pos rfl]
   obtain ⟨c, hc, hfc⟩ := List.any_eq_true.1 hf
   symm
   rw [List.find?_eq_none]
   intro x hx hm
   obtain ⟨t, ht, rfl⟩ := List.mem_map.1 hx
   have h1 := qex hp hfc ht
   unfold isM at hm
   rw [List.all_eq_true] at hm
   have := hm c hc
   rw [h1] at this; cases this
end Go.Proofs.Yteeaofpphmhjdaa
namespace Go.Proofs.Yteeaofpphmhjdaa
set_option linter.unusedSimpArgs false
set_option linter.unusedVariables false
set_option linter.unusedSectionVars false
set_option maxRecDepth 4000
structure Ps where
 l : Int
 r : Int
 p : Int
 c : List Int
def ps0 : Ps := ⟨0, 0, 0, []⟩
def zkc (v : Int) : List Int -> List Int -> List Int × Bool
 | out, [] => (out, true)
 | out, x :: xs => if (x == -v || out.contains x) = true then zkc v out xs else if out.contains (-x) = true then ([], false) else zkc v (zic out x) xs
def zdb (a b : List Int) (v : Int) : List Int × Bool :=
 if (a.contains v && b.contains (-v)) = true then zkc v (a.filter fun x => !(x == v)) b else ([], false)
def zy0 (v : Int) : List Int -> List Int -> Option (List Int)
 | out, [] => some out
 | out, x :: xs => if (x == v || x == -v || out.contains x) = true then zy0 v out xs else if out.contains (-x) = true then none else zy0 v (out ++ [x]) xs
theorem zhp {v : Int} (hv : v ≠ 0) : ∀ (a : List Int) (out b : List Int), Ris (out ++ a) -> -v ∉ a -> zy0 v out (a ++ b) = zy0 v (out ++ a.filter fun x => !(x == v)) b
 | [], out, b, _, _ => by simp
 | x :: a, out, b, h, hn => by
  have hx : x ≠ -v := fun e => hn (by rw [e]; simp)
  have hx' : (x == -v) = false := by simpa using hx
  have hout : ∀ y ∈ out, ab y < ab x := fun y hy => (List.pairwise_append.1 h).2.2 y hy x (by simp)
  have h1 : out.contains x = false := by
   rw [<- Bool.not_eq_true, List.contains_iff_mem]
   intro hm; have := hout x hm; omega
  have h2 : out.contains (-x) = false := by
   rw [<- Bool.not_eq_true, List.contains_iff_mem]
   intro hm; have := hout _ hm; rw [zc3] at this; omega
  rw [List.cons_append, zy0, hx', h1, h2, List.filter_cons]
  cases hxv : x == v
  ·rw [if_neg (by simp), if_neg (by simp), Bool.not_false, if_pos rfl, zhp hv a (out ++ [x]) b (by rwa [List.append_assoc]) fun hm => hn (List.mem_cons_of_mem _ hm), List.append_assoc]
   rfl
  ·rw [if_pos (by simp), Bool.not_true, if_neg (by simp), zhp hv a out b (h.sublist (List.Sublist.append_left (List.sublist_cons_self x a) out)) fun hm => hn (List.mem_cons_of_mem _ hm)]
theorem zil {xs : List Int} {x : Int} (h : xs.contains x = false) : x ∉ xs := fun hm => by
 rw [List.contains_iff_mem.2 hm] at h; cases h
theorem zfy {v : Int} : ∀ (b out out' : List Int), v ∉ b -> out'.Perm out -> Ris out -> match zy0 v out' b with
  | none => zkc v out b = ([], false)
  | some r => ∃ o, zkc v out b = (o, true) /\ r.Perm o /\ Ris o
 | [], out, out', _, hp, hr => ⟨out, rfl, hp, hr⟩
 | x :: b, out, out', hn, hp, hr => by
  have hxv : (x == v) = false := by
   rw [beq_eq_false_iff_ne]; exact fun e => hn (by rw [e]; simp)
  have c1 : out'.contains x = out.contains x := by
   rw [Bool.eq_iff_iff, List.contains_iff_mem, List.contains_iff_mem, hp.mem_iff]
  have c2 : out'.contains (-x) = out.contains (-x) := by
   rw [Bool.eq_iff_iff, List.contains_iff_mem, List.contains_iff_mem, hp.mem_iff]
  have hb : v ∉ b := fun h => hn (List.mem_cons_of_mem _ h)
  rw [zy0, zkc, hxv, c1, c2, Bool.false_or]
  cases h1 : (x == -v || out.contains x)
  ·rw [if_neg Bool.false_ne_true, if_neg Bool.false_ne_true]
   cases h2 : out.contains (-x)
   ·rw [if_neg Bool.false_ne_true, if_neg Bool.false_ne_true]
    rw [Bool.or_eq_false_iff] at h1
    refine zfy b _ _ hb ((hp.append_right [x]).trans (zss out x)) (zj0 hr fun y hy e => ?_)
    rcases ab_eq.1 e with rfl | rfl
    ·exact zil h1.2 hy
    ·exact zil h2 hy
   ·rw [if_pos rfl, if_pos rfl]
  ·rw [if_pos rfl, if_pos rfl]
   exact zfy b _ _ hb hp hr
theorem qb3 {a b : List Int} {v : Int} (ha : pcl a = true) (hb : pcl b = true) (hv : 1 <= v) (h1 : v ∈ a) (h2 : -v ∈ b) : match zy0 v [] (a ++ b) with
  | none => zdb a b v = ([], false)
  | some r => ∃ o, zdb a b v = (o, true) /\ r.Perm o /\ Ris o := by
 have hra := ((zez a).1 ha).2
 have hl : zdb a b v = zkc v (a.filter fun x => !(x == v)) b := by
  unfold zdb
  rw [if_pos (by rw [Bool.and_eq_true, List.contains_iff_mem, List.contains_iff_mem]; exact ⟨h1, h2⟩)]
 rw [hl, zhp (by omega) a [] b (by simpa using hra) (zy8 ha h1), List.nil_append]
 refine zfy b _ _ (fun h => ?_) (List.Perm.refl _) (hra.filter _)
 exact zy8 hb h h2
theorem znh {v : Int} : ∀ (b out : List Int), (zkc v out b).2 = true -> (∀ l ∈ out, l ∈ (zkc v out b).1) /\ (∀ l ∈ b, l ≠ -v -> l ∈ (zkc v out b).1) /\ (∀ l ∈ (zkc v out b).1, l ∈ out \/ l ∈ b /\ l ≠ -v)
 | [], out, _ => ⟨fun _ h => h, by simp, fun _ h => Or.inl h⟩
 | x :: b, out, h => by
  rw [zkc] at h ⊢
  cases h1 : (x == -v || out.contains x)
  ·rw [h1, if_neg (by simp)] at h
   rw [if_neg (by simp)]
   rw [Bool.or_eq_false_iff, beq_eq_false_iff_ne] at h1
   cases h2 : out.contains (-x)
   ·rw [h2, if_neg (by simp)] at h
    rw [if_neg (by simp)]
    obtain ⟨k1, k2, k3⟩ := znh b _ h
    refine ⟨fun l hl => k1 l (zdl.2 (Or.inr hl)), fun l hl hne => ?_, fun l hl => ?_⟩
    ·rcases List.mem_cons.1 hl with rfl | hl
     ·exact k1 _ (zdl.2 (Or.inl rfl))
     ·exact k2 l hl hne
    ·rcases k3 l hl with h | h
     ·rcases zdl.1 h with rfl | h
      ·exact Or.inr ⟨by simp, h1.1⟩
      ·exact Or.inl h
     ·exact Or.inr ⟨by simp [h.1], h.2⟩
   ·rw [h2, if_pos rfl] at h
    cases h
  ·rw [h1, if_pos rfl] at h
   rw [if_pos rfl]
   obtain ⟨k1, k2, k3⟩ := znh b _ h
   refine ⟨k1, fun l hl hne => ?_, fun l hl => (k3 l hl).imp_right fun h => ⟨by simp [h.1], h.2⟩⟩
   rcases List.mem_cons.1 hl with rfl | hl
   ·rw [Bool.or_eq_true, List.contains_iff_mem] at h1
    rcases h1 with h1 | h1
    ·exact absurd (by simpa using h1) hne
    ·exact k1 _ h1
   ·exact k2 l hl hne
theorem zjp {v : Int} : ∀ (b out : List Int), (∀ l ∈ b, 0 < ab l /\ ab l <= 12) -> pcl out = true -> pcl (zkc v out b).1 = true
 | [], out, _, h => h
 | x :: b, out, hb, h => by
  have hb' : ∀ l ∈ b, 0 < ab l /\ ab l <= 12 := fun l hl => hb l (List.mem_cons_of_mem _ hl)
  rw [zkc]
  cases h1 : (x == -v || out.contains x)
  ·rw [if_neg (by simp)]
   rw [Bool.or_eq_false_iff] at h1
   cases h2 : out.contains (-x)
   ·rw [if_neg (by simp)]
    refine zjp b _ hb' (zz2 h (hb x (by simp)) fun y hy e => ?_)
    rcases ab_eq.1 e with rfl | rfl
    ·exact zil h1.2 hy
    ·exact zil h2 hy
   ·rw [if_pos rfl]; rfl
  ·rw [if_pos rfl]
   exact zjp b _ hb' h
theorem zr2 {a : List Int} (h : pcl a = true) (q : Int -> Bool) : pcl (a.filter q) = true := by
 have h' := (zez a).1 h
 exact (zez _).2 ⟨fun l hl => h'.1 l (List.mem_filter.1 hl).1, h'.2.filter _⟩
theorem zhb {a b : List Int} (ha : pcl a = true) (hb : pcl b = true) (v : Int) : pcl (zdb a b v).1 = true := by
 unfold zdb
 split
 ·exact zjp b _ (fun l hl => zcx hb hl) (zr2 ha _)
 ·rfl
theorem zuk {a b : List Int} {v : Int} (h : (zdb a b v).2 = true) : v ∈ a /\ -v ∈ b /\ (∀ l ∈ a, l ≠ v -> l ∈ (zdb a b v).1) /\ (∀ l ∈ b, l ≠ -v -> l ∈ (zdb a b v).1) /\ (∀ l ∈ (zdb a b v).1, (l ∈ a /\ l ≠ v) \/ l ∈ b /\ l ≠ -v) := by
 unfold zdb at h ⊢
 split
 next h1 =>
  rw [if_pos h1] at h
  rw [Bool.and_eq_true, List.contains_iff_mem, List.contains_iff_mem] at h1
  obtain ⟨k1, k2, k3⟩ := znh b _ h
  refine ⟨h1.1, h1.2, fun l hl hne => k1 l (List.mem_filter.2 ⟨hl, by simpa using hne⟩), k2, fun l hl => (k3 l hl).imp_left fun h => ?_⟩
  have := List.mem_filter.1 h
  exact ⟨this.1, by simpa using this.2⟩
 next h1 => rw [if_neg h1] at h; cases h
theorem zrz {a b w : List Int} {v : Int} (hw : zzh w) (h1 : sat w a = true) (h2 : sat w b = true) (h : (zdb a b v).2 = true) : sat w (zdb a b v).1 = true := by
 obtain ⟨_, _, k1, k2, _⟩ := zuk h
 obtain ⟨l, l1, l2⟩ := zcd.1 h1
 obtain ⟨m, m1, m2⟩ := zcd.1 h2
 by_cases e1 : l = v
 ·by_cases e2 : m = -v
  ·subst e1 e2; exact absurd m2 (hw _ l2)
  ·exact zcd.2 ⟨m, k2 m m1 e2, m2⟩
 ·exact zcd.2 ⟨l, k1 l l1 e1, l2⟩
theorem zkd {v : Int} {w : List Int} (hw : zzh w) : ∀ (b out : List Int), (∀ l ∈ b, l ≠ -v -> -l ∈ w) -> (∀ l ∈ out, -l ∈ w) -> (zkc v out b).2 = true
 | [], _, _, _ => rfl
 | x :: b, out, hb, ho => by
  have hb' : ∀ l ∈ b, l ≠ -v -> -l ∈ w := fun l hl => hb l (List.mem_cons_of_mem _ hl)
  rw [zkc]
  split
  ·exact zkd hw b out hb' ho
  next h1 =>
   have hx : x ≠ -v := fun e => h1 (by simp [e])
   have hxw := hb x (by simp) hx
   split
   next h2 =>
    rw [List.contains_iff_mem] at h2
    have := ho _ h2
    rw [Int.neg_neg] at this
    exact absurd hxw (hw x this)
   next =>
    refine zkd hw b _ hb' fun l hl => ?_
    rcases zdl.1 hl with rfl | hl
    ·exact hxw
    ·exact ho l hl
theorem zzt {a b w : List Int} {v : Int} (hw : zzh w) (ha : fal (w ++ [-v]) a = true) (hb : fal (w ++ [v]) b = true) (h1 : v ∈ a) (h2 : -v ∈ b) : (zdb a b v).2 = true /\ fal w (zdb a b v).1 = true := by
 have fa : ∀ l ∈ a, l ≠ v -> -l ∈ w := fun l hl hne => by
  rcases List.mem_append.1 (zcy.1 ha l hl) with h | h
  ·exact h
  ·have := List.mem_singleton.1 h; omega
 have fb : ∀ l ∈ b, l ≠ -v -> -l ∈ w := fun l hl hne => by
  rcases List.mem_append.1 (zcy.1 hb l hl) with h | h
  ·exact h
  ·have := List.mem_singleton.1 h; omega
 have hok : (zdb a b v).2 = true := by
  unfold zdb
  rw [if_pos (by rw [Bool.and_eq_true, List.contains_iff_mem, List.contains_iff_mem]; exact ⟨h1, h2⟩)]
  refine zkd hw b _ fb fun l hl => ?_
  have := List.mem_filter.1 hl
  exact fa l this.1 (by simpa using this.2)
 refine ⟨hok, zcy.2 fun l hl => ?_⟩
 rcases (zuk hok).2.2.2.2 l hl with h | h
 ·exact fa l h.1 h.2
 ·exact fb l h.1 h.2
def clA (S : List (List Int)) (st : List Ps) (i : Int) : List Int := if i < S.length then S.getD i.toNat [] else (st.getD (i.toNat - S.length) ps0).c
def inR (i n : Int) : Bool := decide (0 <= i) && decide (i <= n)
def zbe (S : List (List Int)) (st : List Ps) (k : Nat) : Bool :=
 let s := st.getD k ps0
 inR s.l (S.length + k - 1) && inR s.r (S.length + k - 1) && (decide (1 <= s.p) && decide (s.p <= 12)) && ((zdb (clA S st s.l) (clA S st s.r) s.p).2 && (zdb (clA S st s.l) (clA S st s.r) s.p).1 == s.c)
def chk (S : List (List Int)) (st : List Ps) : Int := match (List.range st.length).find? (fun k => !zbe S st k) with
 | some k => k
 | none => if (st.getD (st.length - 1) ps0).c.length > 0 then st.length else -1
theorem zwk {S : List (List Int)} {st : List Ps} {k : Nat} (hk : k < st.length) (h : ∀ j < k, zbe S st j = true) (hb : zbe S st k = false) : chk S st = k := by
 have : (List.range st.length).find? (fun k => !zbe S st k) = some k := by
  rw [List.find?_eq_some_iff_append]
  refine ⟨by rw [hb]; rfl, List.range k, (List.range (st.length - k - 1)).map (k + 1 + ·), ?_, fun a ha => ?_⟩
  ·apply List.ext_getElem
   ·simp; omega
   ·intro i h1 h2
    rw [List.getElem_range]
    rw [List.getElem_append]
    split
    ·simp
    next hn =>
     simp only [List.length_range] at hn
     rw [List.getElem_cons]
     split
     next h0 => simp only [List.length_range] at h0; omega
     next h0 => simp only [List.length_range] at h0; simp; omega
  ·rw [h a (List.mem_range.1 ha)]; rfl
 unfold chk
 rw [this]
theorem zjd {S : List (List Int)} {st : List Ps} (h : ∀ j < st.length, zbe S st j = true) : chk S st = if (st.getD (st.length - 1) ps0).c.length > 0 then (st.length : Int) else -1 := by
 have : (List.range st.length).find? (fun k => !zbe S st k) = none := by
  rw [List.find?_eq_none]
  intro x hx
  rw [h x (List.mem_range.1 hx)]; simp
 unfold chk
 rw [this]
theorem zg9 {S : List (List Int)} {st : List Ps} (h : chk S st = -1) : (∀ j < st.length, zbe S st j = true) /\ (st.getD (st.length - 1) ps0).c = [] := by
 cases hf : (List.range st.length).find? (fun k => !zbe S st k) with
 | some k =>
  unfold chk at h
  rw [hf] at h
  have h : (k : Int) = -1 := h
  omega
 | none =>
  rw [List.find?_eq_none] at hf
  have hs : ∀ j < st.length, zbe S st j = true := fun j hj => by
   have := hf j (List.mem_range.2 hj)
   simpa using this
  refine ⟨hs, ?_⟩
  rw [zjd hs] at h
  split at h
  ·omega
  next hn => exact List.length_eq_zero_iff.1 (by omega)
theorem zv8 {S : List (List Int)} {st : List Ps} (h1 : ∀ j < st.length, zbe S st j = true) (h2 : (st.getD (st.length - 1) ps0).c = []) : chk S st = -1 := by
 rw [zjd h1, h2, if_neg (by simp)]
theorem zbn {S : List (List Int)} {st : List Ps} {k : Nat} : zbe S st k = true ↔ (0 <= (st.getD k ps0).l /\ (st.getD k ps0).l < S.length + k) /\ (0 <= (st.getD k ps0).r /\ (st.getD k ps0).r < S.length + k) /\ (1 <= (st.getD k ps0).p /\ (st.getD k ps0).p <= 12) /\ (zdb (clA S st (st.getD k ps0).l) (clA S st (st.getD k ps0).r) (st.getD k ps0).p).2 = true /\ (zdb (clA S st (st.getD k ps0).l) (clA S st (st.getD k ps0).r) (st.getD k ps0).p).1 = (st.getD k ps0).c := by
 unfold zbe inR
 simp only [Bool.and_eq_true, decide_eq_true_eq, beq_iff_eq]
 constructor
 ·rintro ⟨⟨⟨⟨h1, h2⟩, h3, h4⟩, h5⟩, h6, h7⟩; exact ⟨⟨h1, by omega⟩, ⟨h3, by omega⟩, h5, h6, h7⟩
 ·rintro ⟨⟨h1, h2⟩, ⟨h3, h4⟩, h5, h6, h7⟩; exact ⟨⟨⟨⟨h1, by omega⟩, h3, by omega⟩, h5⟩, h6, h7⟩
theorem zk4 {S : List (List Int)} {st : List Ps} (hS : ∀ c ∈ S, pcl c = true) : ∀ {k : Nat}, (∀ j < k, zbe S st j = true) -> ∀ {i : Int}, 0 <= i -> i < S.length + k -> pcl (clA S st i) = true
 | k, h, i, h0, hi => by
  by_cases hn : i < S.length
  ·unfold clA
   rw [if_pos hn, List.getD_eq_getElem?_getD, List.getElem?_eq_getElem (show i.toNat < S.length by omega)]
   exact hS _ (List.getElem_mem _)
  ·have hj : i.toNat - S.length < k := by omega
   have hs := zbn.1 (h _ hj)
   have e : clA S st i = (st.getD (i.toNat - S.length) ps0).c := by unfold clA; rw [if_neg hn]
   rw [e, <- hs.2.2.2.2]
   exact zhb (zk4 hS (fun j hj' => h j (Nat.lt_trans hj' hj)) hs.1.1 (by have := hs.1.2; omega)) (zk4 hS (fun j hj' => h j (Nat.lt_trans hj' hj)) hs.2.1.1 (by have := hs.2.1.2; omega)) _
 termination_by k => k
theorem zbr {S : List (List Int)} {st ext : List Ps} {i : Int} (hi : i < S.length + st.length) : clA S (st ++ ext) i = clA S st i := by
 unfold clA
 split
 ·rfl
 next hn =>
  rw [List.getD_eq_getElem?_getD, List.getD_eq_getElem?_getD]
  by_cases h0 : 0 <= i
  ·rw [List.getElem?_append_left (by omega)]
  ·exfalso; omega
theorem zj3 {S : List (List Int)} {st ext : List Ps} {k : Nat} (hk : k < st.length) : zbe S (st ++ ext) k = zbe S st k := by
 have e : (st ++ ext).getD k ps0 = st.getD k ps0 := by rw [List.getD_eq_getElem?_getD, List.getD_eq_getElem?_getD, List.getElem?_append_left hk]
 rw [Bool.eq_iff_iff, zbn, zbn, e]
 constructor
 ·rintro ⟨h1, h2, h3, h4, h5⟩
  rw [zbr (by omega), zbr (by omega)] at h4 h5
  exact ⟨h1, h2, h3, h4, h5⟩
 ·rintro ⟨h1, h2, h3, h4, h5⟩
  rw [zbr (by omega), zbr (by omega)]
  exact ⟨h1, h2, h3, h4, h5⟩
end Go.Proofs.Yteeaofpphmhjdaa
