/-
  The walk over plain data, and contracts of functions of the program and of its laws.
  Conditions: those that each theorem names.
-/
import Derived.Test.YtnkagnjiljjpcaaGreatQT3
import Derived.RangeFuncNested
import Derived.RangeFuncLeaves
import Derived.Test.YtnkagnjiljjpcaaGreatProg
import Derived.KernelRfl
import Derived.Test.YtnkagnjiljjpcaaGreatQT1
import Derived.Sort.OwnSorted
import Derived.Sort.KeysCollected
import Derived.Sort.Walk0
import Derived.Laws.AppendOwn
import Derived.Shelf.Sort.Plain
import Derived.Shelf.Slices.In.SortNone
import Derived.Shelf.Slices.CompactS
import Derived.Lib.SliceRun
namespace Go.Proofs.YtnkagnjiljjpcaaGreat
set_option linter.unusedSimpArgs false
set_option linter.unusedVariables false
set_option linter.unusedSectionVars false
set_option maxRecDepth 4000
open Go.RowKit
variable {P : Program}
def qb1 (v : Value) : T -> T
 | .sl sz rows => .pin v (.sl sz rows)
 | t => t
def zxt (us : Nat -> Value) : Nat -> List T -> List T
 | _, [] => []
 | j, c :: cs => qb1 (us j) c :: zxt us (j + 1) cs
def zde (vs : Nat -> Nat -> Value) : Nat -> List (List T) -> List (List T)
 | _, [] => []
 | i, r :: rs => zxt (vs i) 0 r :: zde vs (i + 1) rs
theorem zpr (us : Nat -> Value) : ∀ (cs : List T) (j : Nat), (zxt us j cs).length = cs.length
 | [], _ => rfl
 | c :: cs, j => by simp [zxt, zpr us cs]
theorem zeo (vs : Nat -> Nat -> Value) : ∀ (rs : List (List T)) (i : Nat), (zde vs i rs).length = rs.length
 | [], _ => rfl
 | c :: cs, j => by simp [zde, zeo vs cs]
theorem zas.pin {w : World} {t : T} {v : Value} {fp : List Nat} (h : zas w t v fp) : zas w (qb1 v t) v fp := by
 unfold qb1
 split
 ·unfold zas; exact ⟨rfl, h⟩
 ·exact h
theorem zay.pin {w : World} {cells : Array Value} {us : Nat -> Value} : ∀ {cs : List T} {o j : Nat} {fps : List Nat}, zay w cells o cs fps -> (∀ i, us (j + i) = cells.getD (o + i) undef) -> zay w cells o (zxt us j cs) fps
 | [], _, _, _, h, _ => h
 | c :: cs, o, j, fps, h, hu => by
  unfold zay at h
  obtain ⟨v, f1, f2, h1, rfl, h2, h3⟩ := h
  unfold zxt zay
  have e : us j = v := by have := hu 0; rw [Nat.add_zero, Nat.add_zero] at this; rw [this, Array.getD_eq_getD_getElem?, h1]; rfl
  refine ⟨v, f1, f2, h1, rfl, by rw [e]; exact h2.pin, zay.pin h3 fun i => ?_⟩
  have := hu (i + 1)
  rwa [show j + (i + 1) = j + 1 + i by omega, show o + (i + 1) = o + 1 + i by omega] at this
theorem zad.pin {w : World} {cells : Array Value} {sz : Nat} : ∀ {rows : List (List T)} {i : Nat} {fps : List Nat}, zad w cells (i * sz) sz rows fps -> zad w cells (i * sz) sz (zde (fun i j => cells.getD (i * sz + j) undef) i rows) fps
 | [], _, _, h => h
 | r :: rs, i, fps, h => by
  unfold zad at h
  obtain ⟨h1, f1, f2, rfl, h2, h3⟩ := h
  unfold zde zad
  refine ⟨by rw [zpr]; exact h1, f1, f2, rfl, h2.pin fun j => by simp, ?_⟩
  rw [show i * sz + sz = (i + 1) * sz by rw [Nat.add_mul]; omega] at h3 ⊢
  exact zad.pin h3
theorem zas.pins {w : World} {sz : Nat} {rows : List (List T)} {v : Value} {fp : List Nat} (h : zas w (.sl sz rows) v fp) : ∃ vs, zas w (.sl sz (zde vs 0 rows)) v fp := by
 unfold zas at h
 obtain ⟨ao, cap, h1, h2, h3, h4⟩ := h
 rcases h4 with ⟨k1, k2, rfl, k4⟩ | ⟨b, cells, ty, fps, k1, k2, k3, k4, k5⟩
 ·refine ⟨fun _ _ => undef, ?_⟩
  unfold zas
  exact ⟨ao, cap, h1, h2, h3, Or.inl ⟨k1, k2, rfl, k4⟩⟩
 ·refine ⟨fun i j => cells.getD (i * sz + j) undef, ?_⟩
  unfold zas
  have := zad.pin (i := 0) (by rw [Nat.zero_mul]; exact k5)
  rw [Nat.zero_mul] at this
  exact ⟨ao, cap, by rw [zeo]; exact h1, by rw [zeo]; exact h2, h3, Or.inr ⟨b, cells, ty, fps, k1, k2, k3, k4, this⟩⟩
def zln : T -> T
 | .pin _ t => t
 | t => t
def zed (rs : List (List T)) : List (List T) := rs.map fun r => r.map zln
theorem zas.unpin {w : World} : ∀ {t : T} {v : Value} {fp : List Nat}, zas w t v fp -> zas w (zln t) v fp
 | .pin _ _, _, _, h => by unfold zas at h; exact h.2
 | .int _ _, _, _, h => h
 | .bool _, _, _, h => h
 | .str _, _, _, h => h
 | .sl _ _, _, _, h => h
 | .ptr _, _, _, h => h
 | .fn _ _, _, _, h => h
 | .mp _ _, _, _, h => h
 | .vs _ _ _, _, _, h => h
theorem zay.unpin {w : World} {cells : Array Value} : ∀ {cs : List T} {o : Nat} {fps : List Nat}, zay w cells o cs fps -> zay w cells o (cs.map zln) fps
 | [], _, _, h => h
 | c :: cs, o, fps, h => by
  unfold zay at h
  obtain ⟨v, f1, f2, h1, rfl, h2, h3⟩ := h
  rw [List.map_cons]
  unfold zay
  exact ⟨v, f1, f2, h1, rfl, h2.unpin, h3.unpin⟩
theorem zad.unpin {w : World} {cells : Array Value} {sz : Nat} : ∀ {rows : List (List T)} {o : Nat} {fps : List Nat}, zad w cells o sz rows fps -> zad w cells o sz (zed rows) fps
 | [], _, _, h => h
 | r :: rs, o, fps, h => by
  unfold zad at h
  obtain ⟨h1, f1, f2, rfl, h2, h3⟩ := h
  show zad w cells o sz (r.map zln :: zed rs) (f1 ++ f2)
  unfold zad
  exact ⟨by simpa using h1, f1, f2, rfl, h2.unpin, h3.unpin⟩
theorem zas.unpins {w : World} {sz : Nat} {rows : List (List T)} {v : Value} {fp : List Nat} (h : zas w (.sl sz rows) v fp) : zas w (.sl sz (zed rows)) v fp := by
 unfold zas at h ⊢
 have hl : (zed rows).length = rows.length := by simp [zed]
 obtain ⟨ao, cap, h1, h2, h3, h4⟩ := h
 refine ⟨ao, cap, by rw [hl]; exact h1, by rw [hl]; exact h2, h3, ?_⟩
 rcases h4 with ⟨k1, k2, rfl, k4⟩ | ⟨b, cells, ty, fps, k1, k2, k3, k4, k5⟩
 ·exact Or.inl ⟨k1, k2, rfl, k4⟩
 ·exact Or.inr ⟨b, cells, ty, fps, k1, k2, k3, k4, k5.unpin⟩
theorem Rel.reown {n0 : Nat -> Prop} {N : Nat} {σ : St} {g : Gh} {a : Act} {w : World} (hR : Rel n0 N σ g a w) (hn : LtK n0 w) {e sz gn : Nat} {rows rows' : List (List T)} (he : σ.ev e = some ⟨true, sz, rows, gn, true⟩) (h : zas w (.sl sz rows') (g.ψ e gn) (g.φ e)) :
  Rel n0 N (σ.inp [(e, rows')]) g a w := by
 have hOn : σ.On e := ⟨_, he, rfl⟩
 have hev : ∀ e', (∀ p ∈ [(e, rows')], p.1 ≠ e') -> (σ.inp [(e, rows')]).ev e' = σ.ev e' := fun e' h' => zeq (by simpa using Ne.symm (h' (e, rows') (List.mem_singleton.2 rfl)))
 have m : Mv σ (σ.inp [(e, rows')]) g g w w := by
  refine ⟨fun b hf => rfl, fun b hf => ⟨hf.1, fun e' x hx hon => ?_, hf.2.2⟩, fun b hb => ⟨rfl, hb⟩, fun e n he => ⟨ze5 he, rfl⟩, fun b hb => (zme hR (U := [(e, rows')]) (fp := g.φ e) (φ' := g.φ) (fun b hb => ⟨(e, rows'), List.mem_singleton.2 rfl, hb⟩) (fun p hp => by rw [List.mem_singleton.1 hp]; exact hOn) (Bk.refl _ _) (fun p hp b hb => Or.inl (by rw [List.mem_singleton.1 hp] at hb; exact hb)) (fun _ _ => rfl) b hb).2.2⟩
  by_cases h' : e' = e
  ·subst h'; exact hf.2.1 e' _ he rfl
  ·exact hf.2.1 e' x ((hev e' (by simpa using Ne.symm h')).symm.trans hx) hon
 exact hR.inp hn (fp := g.φ e) (fp' := g.φ e) (φ' := g.φ) (by simp) (by simp) (fun b hb => ⟨(e, rows'), List.mem_singleton.2 rfl, hb⟩) (Bk.refl _ _) (fun b hb => Or.inl hb) (fun _ _ => rfl)
  (fun p hp => by simp at hp; subst hp; exact ⟨sz, rows, gn, he, h, hR.nodup e hOn, fun b hb => hb⟩) (fun p hp q hq hne => by simp at hp hq; subst hp; subst hq; exact absurd rfl hne)
  (fun i v h => m.vr h) (fun b cs vs _ h => m.crs h) (fun e x _ _ _ v fpx hE hs => m.evr hE hs) (fun e x _ _ v h => m.rep h)
def zq2 (vs : Nat -> Nat -> Value) (sz : Nat) (rows : List (List T)) (post : List D) : St := (zkz [] (.one (.sl sz rows)) post).inp [(0, zde vs 0 rows)]
theorem zma {f : FuncId} {fn : Func} {c : Code} {sz : Nat} {rows rows' : List (List T)} {post : List D} {res : List D} (hc : zbe P f) (hf : P.funcs[f]? = some fn) (hb : fn.body = some c) (hd : zc8 fn.ntmps c = true) (hN : (zc0 [] (.one (.sl sz rows)) post).length <= fn.ntmps) (hN2 : fn.ntmps <= 1000000)
  (h : ∀ vs, ex P c [] (PI P fn.results.toList (.one (.sl sz rows')) res) (zq2 vs sz rows post)) : IC P f [] (.one (.sl sz rows)) post (.one (.sl sz rows')) res := by
 have hs : ∀ ds : List D, zci (zc0 [] (.one (.sl sz rows)) ds) := fun ds => ⟨rfl, zcy ds⟩
 refine IC_ofW hc hf hb hd hN hN2 (hs _) trivial fun n0 N g a w hR hn => ?_
 have he : (zkz [] (.one (.sl sz rows)) post).ev 0 = some ⟨true, sz, rows, 0, true⟩ := rfl
 have hO := zcz hR he
 obtain ⟨vs, hv⟩ := hO.pins
 exact ⟨_, h vs, hR.reown hn he hv⟩
theorem zay.cell {w : World} {cells : Array Value} : ∀ {cs : List T} {o j : Nat} {c : T} {fps : List Nat}, zay w cells o cs fps -> cs[j]? = some c →
  ∃ f1 f f2 v, fps = f1 ++ (f ++ f2) /\ cells[o + j]? = some v /\ zas w c v f /\ ∀ (w' : World) (c' : T) (f' : List Nat), (∀ b, b ∈ f1 \/ b ∈ f2 -> w'.heap[b]? = w.heap[b]?) -> zas w' c' v f' -> zay w' cells o (cs.set j c') (f1 ++ (f' ++ f2))
 | [], _, _, _, _, _, h => by simp at h
 | d :: cs, o, 0, c, fps, h, hc => by
  unfold zay at h
  obtain ⟨v, f1, f2, h1, rfl, h2, h3⟩ := h
  simp only [List.getElem?_cons_zero, Option.some.injEq] at hc
  subst hc
  refine ⟨[], f1, f2, v, rfl, h1, h2, fun w' c' f' hk ho => ?_⟩
  show zay w' cells o (c' :: cs) (f' ++ f2)
  unfold zay
  exact ⟨v, f', f2, h1, rfl, ho, zay.keep cells _ cs f2 h3 fun b hb => hk b (Or.inr hb)⟩
 | d :: cs, o, j + 1, c, fps, h, hc => by
  unfold zay at h
  obtain ⟨v, f1, f2, h1, rfl, h2, h3⟩ := h
  obtain ⟨g1, g, g2, u, rfl, k1, k2, k3⟩ := zay.cell h3 (by simpa using hc)
  refine ⟨f1 ++ g1, g, g2, u, by simp, by rw [<- k1]; congr 1; omega, k2, fun w' c' f' hk ho => ?_⟩
  show zay w' cells o (d :: cs.set j c') _
  unfold zay
  exact ⟨v, f1, g1 ++ (f' ++ g2), h1, by simp, zas.keep d v f1 h2 fun b hb => hk b (Or.inl (by simp [hb])), k3 w' c' f' (fun b hb => hk b (by rcases hb with hb | hb <;> simp [hb])) ho⟩
theorem zad.cell {w : World} {cells : Array Value} {sz : Nat} : ∀ {rows : List (List T)} {o i j : Nat} {r : List T} {c : T} {fps : List Nat}, zad w cells o sz rows fps -> rows[i]? = some r -> r[j]? = some c →
  ∃ f1 f f2 v, fps = f1 ++ (f ++ f2) /\ cells[o + i * sz + j]? = some v /\ zas w c v f /\ ∀ (w' : World) (c' : T) (f' : List Nat), (∀ b, b ∈ f1 \/ b ∈ f2 -> w'.heap[b]? = w.heap[b]?) -> zas w' c' v f' -> zad w' cells o sz (rows.set i (r.set j c')) (f1 ++ (f' ++ f2))
 | [], _, _, _, _, _, _, _, h, _ => by simp at h
 | d :: rows, o, 0, j, r, c, fps, h, hr, hc => by
  unfold zad at h
  obtain ⟨h1, f1, f2, rfl, h2, h3⟩ := h
  simp only [List.getElem?_cons_zero, Option.some.injEq] at hr
  subst hr
  obtain ⟨g1, g, g2, u, rfl, k1, k2, k3⟩ := zay.cell h2 hc
  refine ⟨g1, g, g2 ++ f2, u, by simp, by simpa using k1, k2, fun w' c' f' hk ho => ?_⟩
  show zad w' cells o sz (d.set j c' :: rows) _
  unfold zad
  exact ⟨by simp [h1], g1 ++ (f' ++ g2), f2, by simp, k3 w' c' f' (fun b hb => hk b (by rcases hb with hb | hb <;> simp [hb])) ho, zad.keep cells _ sz rows f2 h3 fun b hb => hk b (by simp [hb])⟩
 | d :: rows, o, i + 1, j, r, c, fps, h, hr, hc => by
  unfold zad at h
  obtain ⟨h1, f1, f2, rfl, h2, h3⟩ := h
  obtain ⟨g1, g, g2, u, rfl, k1, k2, k3⟩ := zad.cell h3 (by simpa using hr) hc
  refine ⟨f1 ++ g1, g, g2, u, by simp, by rw [<- k1]; congr 1; rw [Nat.add_mul]; omega, k2, fun w' c' f' hk ho => ?_⟩
  show zad w' cells o sz (d :: rows.set i (r.set j c')) _
  unfold zad
  exact ⟨h1, f1, g1 ++ (f' ++ g2), by simp, zay.keep cells o d f1 h2 fun b hb => hk b (Or.inl (by simp [hb])), k3 w' c' f' (fun b hb => hk b (by rcases hb with hb | hb <;> simp [hb])) ho⟩
theorem zv5 {o : Oper} {σ : St} {x : Operand} {asx : Array Operand} {ts : Array TypeId} {f : FuncId} {cvs : List V} {post : List D} {sz1 : Nat} {rows1 rows1' : List (List T)} {res : List D} {v : Value} {p2 : List V} {e i j sz gn : Nat} {rows : List (List T)} {r : List T} (ho : o.op = .call ⟨.value x, asx, ts⟩)
  (h : IC P f [] (.one (.sl sz1 rows1)) post (.one (.sl sz1 rows1')) res) (hc : zav (σ.get P 0 x) = some (f, cvs)) (hx : σ.gets P asx ts ++ cvs = .one (.cv v) :: p2) (h2 : zqw p2 post) (he : σ.ev e = some ⟨true, sz, rows, gn, true⟩) (hr : rows[i]? = some r) (hcl : r[j]? = some (.pin v (.sl sz1 rows1)))
  (hres : res.all D.fl = true) (hD : Deep σ) : zae P o σ ((σ.inp [(e, rows.set i (r.set j (.sl sz1 rows1')))]).put o.dst (zq9 (res.map D.toV))) := by
 intro n0 N g a w hR hn hdN
 obtain ⟨vs, hrun, hvl⟩ := zd1 hR ho hc h.1
 rw [hx] at hvl
 obtain ⟨v1, us2, rfl, rfl, v4⟩ := hvl
 have hOn : σ.On e := ⟨_, he, rfl⟩
 have hO := zcz hR he
 have hnd := hR.nodup e hOn
 have hO2 := hO
 unfold zas at hO
 obtain ⟨ao, cap, e1, e2, e3, e4⟩ := hO
 rcases e4 with ⟨_, _, rfl, _⟩ | ⟨b0, cells, ty, fps, k1, k2, k3, k4, k5⟩
 ·simp at hr
 obtain ⟨f1, ff, f2, u, rfl, c1, c2, c3⟩ := zad.cell k5 hr hcl
 unfold zas at c2
 obtain ⟨rfl, c2⟩ := c2
 have hsubf : ∀ b', b' ∈ ff -> b' ∈ g.φ e := fun b' hb => by rw [k2]; simp [hb]
 rw [k2] at hnd
 obtain ⟨nb, nd⟩ := List.nodup_cons.1 hnd
 obtain ⟨nd1, nd2, nd3⟩ := List.nodup_append.1 nd
 obtain ⟨nd4, nd5, nd6⟩ := List.nodup_append.1 nd2
 have hbf : ∀ b', (b' = b0 \/ b' ∈ f1 \/ b' ∈ f2) -> b' ∉ ff := fun b' h hm => by
  rcases h with rfl | h | h
  ·exact nb (by simp [hm])
  ·exact nd3 b' h b' (by simp [hm]) rfl
  ·exact nd6 b' hm b' h rfl
 have hlt : ∀ b' ∈ g.φ e, b' < w.heap.size := (hR.evs e _ he rfl).lt
 unfold Oper.wp
 rw [hrun]
 refine (h.2 w [] u us2 ff (zgb (.sl sz1 rows1) ff) rfl ⟨c2, rfl⟩ (zf9 _ h2 v4) nd4).mono ?_
 rintro ee w' ⟨us, fp', tp', rfl, q1, q2, q3, q4⟩
 obtain ⟨v0, us0, g1, g2, t1, t2, e0, rfl, rfl, q5, q6⟩ := q1
 cases e0
 obtain ⟨n1, n2, n3⟩ := List.nodup_append.1 q2
 have hnew : ∀ b', b' < w.heap.size -> b' ∈ g1 -> b' ∈ ff := fun b' h1 h2 => (q3 b' (List.mem_append_left _ h2)).resolve_right (by omega)
 have hsub : ∀ b' ∈ g1, b' ∈ ff \/ w.heap.size <= b' := fun b' hb => q3 b' (List.mem_append_left _ hb)
 have hblk : ∀ b', b' < w.heap.size -> b' ∉ ff -> w'.heap[b']? = w.heap[b']? := fun b' h1 h2 => q4.block b' ⟨h1, h2⟩
 have hrows := c3 w' (.sl sz1 rows1') g1 (fun b' hb => hblk b' (hlt b' (by rw [k2]; rcases hb with hb | hb <;> simp [hb])) (hbf b' (Or.inr hb))) q5.1
 have hown : zas w' (.sl sz (rows.set i (r.set j (.sl sz1 rows1')))) (g.ψ e gn) (b0 :: (f1 ++ (g1 ++ f2))) := by
  unfold zas
  exact ⟨ao, cap, by simpa using e1, by simpa using e2, e3, Or.inr ⟨b0, cells, ty, _, k1, rfl, by rw [hblk b0 (hlt b0 (by rw [k2]; simp)) (hbf b0 (Or.inl rfl))]; exact k3, k4, hrows⟩⟩
 have hnd' : (b0 :: (f1 ++ (g1 ++ f2))).Nodup := by
  refine List.nodup_cons.2 ⟨fun hm => ?_, List.nodup_append.2 ⟨nd1, List.nodup_append.2 ⟨n1, nd5, fun x hx y hy hxy => ?_⟩, fun x hx y hy hxy => ?_⟩⟩
  ·have hl := hlt b0 (by rw [k2]; simp)
   simp only [List.mem_append] at hm
   rcases hm with hm | hm | hm
   ·exact nb (by simp [hm])
   ·exact nb (by simp [hnew b0 hl hm])
   ·exact nb (by simp [hm])
  ·subst hxy
   exact nd6 x (hnew x (hlt x (by rw [k2]; simp [hy])) hx) x hy rfl
  ·subst hxy
   have hl := hlt x (by rw [k2]; simp [hx])
   rcases List.mem_append.1 hy with hy | hy
   ·exact nd3 x hx x (by simp [hnew x hl hy]) rfl
   ·exact nd3 x hx x (by simp [hy]) rfl
 have hBkf : Bk (fun k => k < w.heap.size /\ k ∉ g.φ e) w w' := ⟨q4.os, q4.tape, q4.output, q4.size, fun k hk => q4.block k ⟨hk.1, fun hm => hk.2 (hsubf k hm)⟩⟩
 have hBk : Bk n0 w w' := ⟨q4.os, q4.tape, q4.output, q4.size, fun k hk => q4.block k ⟨hn k hk, fun hm => hR.etop e hOn k (hsubf k hm) hk⟩⟩
 have hfp' : ∀ b' ∈ b0 :: (f1 ++ (g1 ++ f2)), b' ∈ g.φ e \/ w.heap.size <= b' := fun b' hb => by
  simp only [List.mem_cons, List.mem_append] at hb
  rw [k2]
  rcases hb with hb | hb | hb | hb
  ·left; simp [hb]
  ·left; simp [hb]
  ·rcases hsub b' hb with hb | hb
   ·left; simp [hb]
   ·exact Or.inr hb
  ·left; simp [hb]
 generalize hrw : rows.set i (r.set j (.sl sz1 rows1')) = rows' at hown ⊢
 have j1 : ∀ e', (∀ p ∈ [(e, rows')], p.1 ≠ e') -> upd g.φ e (b0 :: (f1 ++ (g1 ++ f2))) e' = g.φ e' := fun e' h' => zal _ _ (Ne.symm (h' (e, rows') (List.mem_singleton.2 rfl)))
 have hfpU : ∀ b' ∈ g.φ e, ∃ p ∈ [(e, rows')], b' ∈ g.φ p.1 := fun b' hb => ⟨(e, rows'), List.mem_singleton.2 rfl, hb⟩
 have hOU : ∀ p ∈ [(e, rows')], σ.On p.1 := fun p hp => by rw [List.mem_singleton.1 hp]; exact hOn
 have hb' : ∀ p ∈ [(e, rows')], ∀ b' ∈ upd g.φ e (b0 :: (f1 ++ (g1 ++ f2))) p.1, b' ∈ g.φ e \/ w.heap.size <= b' := fun p hp b' hb => by
  rw [List.mem_singleton.1 hp, zah] at hb
  exact hfp' b' hb
 obtain ⟨d1, d2, d3⟩ := hD
 have hrn := zme hR hfpU hOU hBkf hb' j1
 have hR' : Rel n0 N (σ.inp [(e, rows')]) { g with φ := upd g.φ e (b0 :: (f1 ++ (g1 ++ f2))) } a w' := by
  refine hR.inp hn (by simp) (fun p hp => by rw [List.mem_singleton.1 hp]; exact fun _ h => h) hfpU hBkf hfp' j1
   (fun p hp => by rw [List.mem_singleton.1 hp, zah]; exact ⟨sz, rows, gn, he, hown, hnd', fun _ h => h⟩) (fun p hp q hq hne => by rw [List.mem_singleton.1 hp, List.mem_singleton.1 hq] at hne; exact absurd rfl hne)
   (fun i v h => qbr (g := g) (g' := { g with φ := upd g.φ e (b0 :: (f1 ++ (g1 ++ f2))) }) rfl rfl (fun e n => ze5) hrn (d1 i) h) (fun b cs vs hb h => zgz (g := g) (g' := { g with φ := upd g.φ e (b0 :: (f1 ++ (g1 ++ f2))) }) rfl rfl (fun e n => ze5) hrn (d2 b cs hb) h) (fun e x he hx hon v fpx hE hs => ?_) (fun e x hx hon => ?_)
  ·obtain ⟨ao, cap, r1, r2, r3, r4⟩ := hE
   refine ⟨ao, cap, r1, r2, r3, ?_⟩
   rcases r4 with r4 | ⟨b, cells, ty, fps, r4, r5, r6, r7, r8⟩
   ·exact Or.inl r4
   ·subst r5
    rw [if_pos (d3 e x hx).2] at r8
    exact Or.inr ⟨b, cells, ty, fps, r4, rfl, by rw [hs b (by simp)]; exact r6, r7, by rw [if_pos (d3 e x hx).2]; exact zad.keep cells 0 x.sz x.rows fps r8 fun b' hb' => hs b' (by simp [hb'])⟩
  ·rw [(d3 e x hx).1] at hon; cases hon
 refine ⟨{ g with φ := upd g.φ e (b0 :: (f1 ++ (g1 ++ f2))) }, ?_, hBk, rfl, rfl⟩
 exact hR'.put o.dst (zez (za5.vrl (zjo hres q6)) (fun y hy => by
  obtain ⟨d, _, rfl⟩ := List.mem_map.1 hy
  cases d <;> rfl)) hdN
def setCell (rows : List (List T)) (i j : Nat) (t : T) : List (List T) := rows.set i ((rows.getD i []).set j t)
def evC (i j : Nat) (t : T) (x : Ev) : Ev := ⟨x.deep, x.sz, setCell x.rows i j t, x.gen, x.on⟩
def St.cN (σ : St) (e i j : Nat) (t : T) (dst : Option Nat) (res : List D) : St := St.put ⟨σ.sl, σ.bx, upd σ.ev e ((σ.ev e).map (evC i j t))⟩ dst (zq9 (res.map D.toV))
def onN (x : Option Ev) (i j : Nat) (v : Value) (t : T) : Prop := zap x fun y => y.on = true /\ y.deep = true /\ y.rows[i]?.isSome = true /\ (y.rows.getD i [])[j]? = some (.pin v t)
def qdh (xs : List V) (K : Value -> List V -> Prop) : Prop := match xs with
 | .one (.cv v) :: p2 => K v p2
 | _ => False
section
variable {ks : List Fr} {Q : Exit -> St -> Prop} {σ : St} {ops : Array Oper} {os : List Oper} {ty : TypeId} {ps : String} {af : Array Edge} {dst : Option Nat} {x : Operand} {asx : Array Operand} {ts : Array TypeId} {f : FuncId} {post : List D} {res : List D}
theorem callN {l : List (Nat × V)} {bl : List (Nat × List C)} {el : List (Nat × Ev)} (e i j : Nat) {sz1 : Nat} {rows1 rows1' : List (List T)} (h : IC P f [] (.one (.sl sz1 rows1)) post (.one (.sl sz1 rows1')) res) (hw : wkL σ (hd l bl el) l /\ wkB σ (hd l bl el) bl /\ wkE σ el)
  (hd1 : (l.all fun p => p.2.mOk) = true) (hd2 : (bl.all fun p => p.2.all C.mOk) = true) (hd3 : (el.all fun p => p.2.on && p.2.deep) = true)
  (hp : zap (zav ((hd l bl el).get P 0 x)) fun p => p.1 = f /\ qdh ((hd l bl el).gets P asx ts ++ p.2) fun v p2 => zqw p2 post /\ onN (tbl el e) i j v (.sl sz1 rows1)) (hr : res.all D.fl = true)
  (k : exo P ops os ks Q ((hd l bl el).cN e i j (.sl sz1 rows1') dst res)) : exo P ops (⟨dst, .call ⟨.value x, asx, ts⟩, ty, ps, af, none⟩ :: os) ks Q σ := by
 obtain ⟨⟨f', cvs⟩, h1, rfl, h2⟩ := zao hp
 unfold qdh at h2
 split at h2
 ·rename_i v p2 hx
  obtain ⟨h3, h4⟩ := h2
  obtain ⟨⟨dp, sz, rows, gn, on⟩, he, rfl, rfl, h5, h6⟩ := zao h4
  obtain ⟨r, hr'⟩ := Option.isSome_iff_exists.1 h5
  have hg : rows.getD i [] = r := by rw [List.getD_eq_getElem?_getD, hr']; rfl
  rw [hg] at h6
  have hs := zv5 (P := P) (o := ⟨dst, .call ⟨.value x, asx, ts⟩, ty, ps, af, none⟩) (σ := hd l bl el) rfl h h1 hx h3 (e := e) he hr' h6 hr (zxc hd1 hd2 hd3)
  refine zcf rfl rfl (σ' := (hd l bl el).cN e i j (.sl sz1 rows1') dst res) ?_ k
  have e0 : (hd l bl el).cN e i j (.sl sz1 rows1') dst res = ((hd l bl el).inp [(e, rows.set i (r.set j (.sl sz1 rows1')))]).put dst (zq9 (res.map D.toV)) := by
   unfold St.cN St.inp zsg zsg
   rw [show (hd l bl el).ev e = _ from he]
   simp only [Option.map_some, setCell, evC, hg]
  rw [e0]
  exact zae.pre (zab hw) hs
 ·exact h2.elim
end
attribute [go_sem] qdh onN St.cN evC
end Go.Proofs.YtnkagnjiljjpcaaGreat
namespace Go.Proofs.YtnkagnjiljjpcaaGreat
set_option linter.unusedSimpArgs false
set_option linter.unusedVariables false
set_option linter.unusedSectionVars false
set_option maxRecDepth 4000
open Go.RowKit
variable {P : Program}
abbrev Sr := Nat × Option (Nat × Nat)
def okQ : Option (Nat × Nat) -> Option (Nat × Nat) -> Bool
 | some a, some b => !(a.1 == b.1 && a.2 == b.2)
 | _, _ => false
def okS : List Sr -> Sr -> Bool
 | [], _ => true
 | (e, p) :: u, (e', p') => (if e = e' then okQ p p' else true) && okS u (e', p')
def owU (x : Option Ev) (sz : Nat) (rows : List (List T)) (g : Nat) : Prop := zap x fun y => y.deep = true /\ y.sz = sz /\ (y.rows = rows \/ zed y.rows = rows) /\ y.gen = g /\ y.on = true
def gvT (σ : St) (K : List Sr -> List (Nat × Nat × Nat) -> Prop) (u : List Sr) (ps : List (Nat × Nat × Nat)) (x t : T) : Prop := match x, ps with
 | .pin v y, (e, i, j) :: ps => y = t /\ okS u (e, some (i, j)) = true /\ onN (σ.ev e) i j v t /\ K ((e, some (i, j)) :: u) ps
 | x, ps => x = t /\ t.flat = true /\ K u ps
theorem zy5 {σ : St} {K K' : List Sr -> List (Nat × Nat × Nat) -> Prop} (hK : ∀ u ps, K u ps -> K' u ps) {u : List Sr} {ps : List (Nat × Nat × Nat)} {x t : T} (h : gvT σ K u ps x t) : gvT σ K' u ps x t := by
 unfold gvT at h ⊢
 split at h
 ·exact ⟨h.1, h.2.1, h.2.2.1, hK _ _ h.2.2.2⟩
 ·exact ⟨h.1, h.2.1, hK _ _ h.2.2⟩
def gvK (σ : St) (K : List Sr -> List (Nat × Nat × Nat) -> Prop) : List Sr -> List (Nat × Nat × Nat) -> List C -> List T -> Prop
 | u, ps, [], [] => K u ps
 | u, ps, .t x :: cs, t :: ts => gvT σ (fun u ps => gvK σ K u ps cs ts) u ps x t
 | u, ps, .nl _ :: cs, .sl _ rows :: ts => rows = [] /\ gvK σ K u ps cs ts
 | u, ps, .ow e g :: cs, .sl sz rows :: ts => okS u (e, none) = true /\ owU (σ.ev e) sz rows g /\ gvK σ K ((e, none) :: u) ps cs ts
 | u, (e, i, j) :: ps, .cv v :: cs, t :: ts => okS u (e, some (i, j)) = true /\ onN (σ.ev e) i j v t /\ gvK σ K ((e, some (i, j)) :: u) ps cs ts
 | _, _, _, _ => False
def rdC : C -> T -> Prop
 | .t x, y => x = y /\ T.nm y = true
 | .fn f [], .fn g [] => f = g
 | .rn x, y => x = y
 | .er cs o, .ptr cs' => o = 0 /\ cs = cs'
 | .nl _, .sl _ rows => rows = []
 | _, _ => False
def rdCs : List C -> List T -> Prop
 | [], [] => True
 | c :: cs, t :: ts => rdC c t /\ rdCs cs ts
 | _, _ => False
def rdV : V -> D -> Prop
 | .one c, .one t => rdC c t
 | .agg cs, .agg ts => rdCs cs ts
 | _, _ => False
def gvA (σ : St) (K : List Sr -> Prop) : List Sr -> List (Nat × Nat × Nat) -> List V -> List (Bool × D) -> Prop
 | u, _, [], [] => K u
 | u, ps, v :: vs, (false, d) :: ds => rdV v d /\ gvA σ K u ps vs ds
 | u, ps, .one c :: vs, (true, .one t) :: ds => gvK σ (fun u ps => gvA σ K u ps vs ds) u ps [c] [t]
 | u, ps, .agg cs :: vs, (true, .agg ts) :: ds => gvK σ (fun u ps => gvA σ K u ps vs ds) u ps cs ts
 | _, _, _, _ => False
theorem zdx {σ : St} {K K' : List Sr -> List (Nat × Nat × Nat) -> Prop} (hK : ∀ u ps, K u ps -> K' u ps) : ∀ {cs : List C} {ts : List T} {u : List Sr} {ps : List (Nat × Nat × Nat)}, gvK σ K u ps cs ts -> gvK σ K' u ps cs ts
 | [], [], _, _, h => hK _ _ h
 | [], _ :: _, _, _, h => by cases h
 | c :: cs, [], u, ps, h => by cases c <;> first | exact (show False from h).elim | (cases ps <;> exact (show False from h).elim)
 | c :: cs, t :: ts, u, ps, h => by
  unfold gvK at h ⊢
  split at h
  ·rename_i e1 e2; cases e1
  ·rename_i e1 e2; cases e1; cases e2; exact zy5 (fun u ps h => zdx hK h) h
  ·rename_i e1 e2; cases e1; cases e2; exact ⟨h.1, zdx hK h.2⟩
  ·rename_i e1 e2; cases e1; cases e2; exact ⟨h.1, h.2.1, zdx hK h.2.2⟩
  ·rename_i e1 e2; cases e1; cases e2; exact ⟨h.1, h.2.1, zdx hK h.2.2⟩
  ·exact h.elim
theorem zgk {σ : St} {K K' : List Sr -> Prop} (hK : ∀ u, K u -> K' u) : ∀ {xs : List V} {ds : List (Bool × D)} {u : List Sr} {ps : List (Nat × Nat × Nat)}, gvA σ K u ps xs ds -> gvA σ K' u ps xs ds
 | [], [], _, _, h => hK _ h
 | [], _ :: _, _, _, h => h.elim
 | x :: xs, [], _, _, h => by cases x <;> exact h.elim
 | x :: xs, (false, d) :: ds, _, _, h => by unfold gvA at h ⊢; exact ⟨h.1, zgk hK h.2⟩
 | .one c :: xs, (true, .one t) :: ds, _, _, h => by unfold gvA at h ⊢; exact zdx (fun u ps hu => zgk hK hu) h
 | .agg cs :: xs, (true, .agg ts) :: ds, _, _, h => by unfold gvA at h ⊢; exact zdx (fun u ps hu => zgk hK hu) h
 | .one _ :: _, (true, .agg _) :: _, _, _, h => h.elim
 | .agg _ :: _, (true, .one _) :: _, _, _, h => h.elim
 | .tup _ :: _, (true, d) :: _, _, _, h => by cases d <;> exact h.elim
theorem zar.fam {w : World} : ∀ {cs : List T} {vs : List Value} {fps : List Nat}, zar w cs vs fps -> ∃ F : Nat -> List Nat, (∀ k c, cs[k]? = some c -> ∃ v, vs[k]? = some v /\ zas w c v (F k)) /\ (∀ k b, b ∈ F k -> b ∈ fps) /\ (fps.Nodup -> (∀ k, (F k).Nodup) /\ ∀ k k', k ≠ k' -> ∀ b ∈ F k, b ∉ F k')
 | [], vs, fps, h => ⟨fun _ => [], fun k c hc => by simp at hc, by simp, fun _ => ⟨by simp, by simp⟩⟩
 | c :: cs, _, _, h => by
  obtain ⟨v, vs', f1, f2, rfl, rfl, h1, h2⟩ := h
  obtain ⟨F, k1, k2, k3⟩ := zar.fam h2
  refine ⟨fun k => match k with | 0 => f1 | k + 1 => F k, fun k c' hc => ?_, fun k b hb => ?_, fun hn => ?_⟩
  ·cases k with
   | zero => simp only [List.getElem?_cons_zero, Option.some.injEq] at hc; subst hc; exact ⟨v, rfl, h1⟩
   | succ k => exact k1 k c' (by simpa using hc)
  ·cases k with
   | zero => exact List.mem_append_left _ hb
   | succ k => exact List.mem_append_right _ (k2 k b hb)
  ·obtain ⟨n1, n2, n3⟩ := List.nodup_append.1 hn
   obtain ⟨m1, m2⟩ := k3 n2
   refine ⟨fun k => ?_, fun k k' hne b hb hb' => ?_⟩
   ·cases k with
    | zero => exact n1
    | succ k => exact m1 k
   ·cases k with
    | zero =>
     cases k' with
     | zero => exact hne rfl
     | succ k' => exact n3 b hb b (k2 k' b hb') rfl
    | succ k =>
     cases k' with
     | zero => exact n3 b hb' b (k2 k b hb) rfl
     | succ k' => exact m2 k k' (by omega) b hb hb'
theorem ztr {sz : Nat} : ∀ {rows : List (List T)} {i j : Nat} {r : List T} {c : T}, lens sz rows -> rows[i]? = some r -> r[j]? = some c -> rows.flatten[i * sz + j]? = some c
 | [], _, _, _, _, _, h, _ => by simp at h
 | d :: rows, 0, j, r, c, hl, hr, hc => by
  simp only [List.getElem?_cons_zero, Option.some.injEq] at hr
  subst hr
  have hj : j < d.length := by
   rcases Nat.lt_or_ge j d.length with h | h
   ·exact h
   ·rw [List.getElem?_eq_none h] at hc; cases hc
  rw [List.flatten_cons, List.getElem?_append_left (by omega)]
  simpa using hc
 | d :: rows, i + 1, j, r, c, hl, hr, hc => by
  have hd : d.length = sz := hl d (by simp)
  have := ztr (sz := sz) (rows := rows) (fun r hr => hl r (by simp [hr])) (by simpa using hr) hc
  rw [List.flatten_cons, List.getElem?_append_right (by rw [hd, Nat.add_mul]; omega)]
  rwa [show (i + 1) * sz + j - d.length = i * sz + j by rw [hd, Nat.add_mul]; omega]
structure Fam (w : World) (σ : St) (g : Gh) (B : Sr -> List Nat) : Prop where
 whole : ∀ e, B (e, none) = g.φ e
 cell : ∀ e i j v t, onN (σ.ev e) i j v t -> zas w t v (B (e, some (i, j)))
 sub : ∀ e p b, σ.On e -> b ∈ B (e, p) -> b ∈ g.φ e
 nodup : ∀ e p, σ.On e -> (B (e, p)).Nodup
 apart : ∀ e p p', σ.On e -> p ≠ p' -> ∀ b ∈ B (e, some p), b ∉ B (e, some p')
theorem Rel.fam {n0 : Nat -> Prop} {N : Nat} {σ : St} {g : Gh} {a : Act} {w : World} (hR : Rel n0 N σ g a w) : ∃ B, Fam w σ g B := by
 have h1 : ∀ e, ∃ F : Nat × Nat -> List Nat, ∀ dp sz rows gn, σ.ev e = some ⟨dp, sz, rows, gn, true⟩ -> ((dp = true -> ∀ i j v t, rows[i]?.isSome = true -> (rows.getD i [])[j]? = some (.pin v t) -> zas w t v (F (i, j))) /\ (∀ p b, b ∈ F p -> b ∈ g.φ e) /\ (∀ p, (F p).Nodup) /\ ∀ p p', p ≠ p' -> ∀ b ∈ F p, b ∉ F p') := by
  intro e
  by_cases hon : ∃ sz rows gn, σ.ev e = some ⟨true, sz, rows, gn, true⟩
  ·obtain ⟨sz, rows, gn, he⟩ := hon
   have hnd := hR.nodup e ⟨_, he, rfl⟩
   obtain ⟨ao, cap, vs, k1, k2, k3, k4, k5, k6, k7⟩ := hR.vals he rfl
   rcases k7 with ⟨_, _, k7, k8⟩ | ⟨b, cells, ty, fps, k7, k8, k9, k10, k11, k12, k13⟩
   ·refine ⟨fun _ => [], fun dp sz' rows' gn' he' => ?_⟩
    rw [he, Option.some.injEq] at he'
    cases he'
    have k7 : rows = [] := k7
    subst k7
    exact ⟨fun _ i j v t h => by simp at h, by simp, by simp, by simp⟩
   ·obtain ⟨F, f1, f2, f3⟩ := (k12 rfl).fam
    rw [k8] at hnd
    obtain ⟨m1, m2⟩ := f3 (List.nodup_cons.1 hnd).2
    refine ⟨fun p => if p.2 < sz /\ p.1 < rows.length then F (p.1 * sz + p.2) else [], fun dp sz' rows' gn' he' => ?_⟩
    rw [he, Option.some.injEq] at he'
    cases he'
    refine ⟨fun _ i j v t h1 h2 => ?_, fun p b hb => ?_, fun p => ?_, fun p p' hne b hb hb' => ?_⟩
    ·obtain ⟨r, hr⟩ := Option.isSome_iff_exists.1 h1
     have hg : rows.getD i [] = r := by rw [List.getD_eq_getElem?_getD, hr]; rfl
     rw [hg] at h2
     have hj : j < sz := by
      have : r.length = sz := k4 r (List.mem_of_getElem? hr)
      rcases Nat.lt_or_ge j r.length with h | h
      ·omega
      ·rw [List.getElem?_eq_none h] at h2; cases h2
     have hi : i < rows.length := (List.getElem?_eq_some_iff.1 hr).1
     obtain ⟨u, _, hu⟩ := f1 _ _ (ztr k4 hr h2)
     show zas w t v (if j < sz /\ i < rows.length then F (i * sz + j) else [])
     rw [if_pos ⟨hj, hi⟩]
     unfold zas at hu
     obtain ⟨rfl, hu⟩ := hu
     exact hu
    ·by_cases hp : p.2 < sz /\ p.1 < rows.length
     ·simp only [if_pos hp] at hb; rw [k8]; exact List.mem_cons_of_mem _ (f2 _ _ hb)
     ·simp only [if_neg hp] at hb; simp at hb
    ·by_cases hp : p.2 < sz /\ p.1 < rows.length
     ·simp only [if_pos hp]; exact m1 _
     ·simp only [if_neg hp]; simp
    ·by_cases hp : p.2 < sz /\ p.1 < rows.length
     ·by_cases hp' : p'.2 < sz /\ p'.1 < rows.length
      ·simp only [if_pos hp, if_pos hp'] at hb hb'
       refine m2 _ _ (fun heq => hne ?_) b hb hb'
       obtain ⟨i, j⟩ := p
       obtain ⟨i', j'⟩ := p'
       simp only at hp hp' heq
       have hii : i = i' := by
        rcases Nat.lt_trichotomy i i' with h | h | h
        ·have := Nat.mul_le_mul_right sz (show i + 1 <= i' by omega); rw [Nat.add_mul] at this; omega
        ·exact h
        ·have := Nat.mul_le_mul_right sz (show i' + 1 <= i by omega); rw [Nat.add_mul] at this; omega
       subst hii
       have : j = j' := by omega
       subst this; rfl
      ·simp only [if_neg hp'] at hb'; simp at hb'
     ·simp only [if_neg hp] at hb; simp at hb
  ·refine ⟨fun _ => [], fun dp sz rows gn he => ⟨fun hd => ?_, by simp, by simp, by simp⟩⟩
   subst hd
   exact absurd ⟨sz, rows, gn, he⟩ hon
 refine ⟨fun s => match s.2 with | none => g.φ s.1 | some p => Classical.choose (h1 s.1) p, ⟨fun e => rfl, fun e i j v t ho => ?_, fun e p b ho hb => ?_, fun e p ho => ?_, fun e p p' ho hne b hb => ?_⟩⟩
 ·obtain ⟨⟨dp, sz, rows, gn, on⟩, he, h2, h3, h4, h5⟩ := zao ho
  simp only at h2 h3
  subst h2 h3
  exact (Classical.choose_spec (h1 e) true sz rows gn he).1 rfl i j v t h4 h5
 ·cases p with
  | none => exact hb
  | some p =>
   obtain ⟨⟨dp, sz, rows, gn, on⟩, he, ho⟩ := ho
   simp only at ho
   subst ho
   exact (Classical.choose_spec (h1 e) dp sz rows gn he).2.1 p b hb
 ·cases p with
  | none => exact hR.nodup e ho
  | some p =>
   obtain ⟨⟨dp, sz, rows, gn, on⟩, he, ho⟩ := ho
   simp only at ho
   subst ho
   exact (Classical.choose_spec (h1 e) dp sz rows gn he).2.2.1 p
 ·obtain ⟨⟨dp, sz, rows, gn, on⟩, he, ho⟩ := ho
  simp only at ho
  subst ho
  exact (Classical.choose_spec (h1 e) dp sz rows gn he).2.2.2 p p' hne b hb
def bks (B : Sr -> List Nat) (u : List Sr) : List Nat := u.flatMap B
def okP (s s' : Sr) : Prop := s.1 ≠ s'.1 \/ (s.2 ≠ none /\ s'.2 ≠ none /\ s.2 ≠ s'.2)
theorem okP.symm {s s' : Sr} (h : okP s s') : okP s' s := h.imp (fun h => Ne.symm h) fun h => ⟨h.2.1, h.1, Ne.symm h.2.2⟩
theorem zo1 : ∀ {u : List Sr} {s : Sr}, okS u s = true -> ∀ x ∈ u, okP s x
 | [], _, _, x, hx => by simp at hx
 | (e, p) :: u, (e', p'), h, x, hx => by
  unfold okS at h
  rw [Bool.and_eq_true] at h
  rcases List.mem_cons.1 hx with rfl | hx
  ·have h1 := h.1
   by_cases he : e = e'
   ·rw [if_pos he] at h1
    right
    unfold okQ at h1
    split at h1
    ·rename_i a b
     refine ⟨by simp, by simp, fun e => ?_⟩
     simp only [Option.some.injEq] at e
     subst e
     simp at h1
    ·cases h1
   ·left; exact Ne.symm he
  ·exact zo1 h.2 x hx
theorem zgw {n0 : Nat -> Prop} {N : Nat} {σ : St} {g : Gh} {a : Act} {w : World} (hR : Rel n0 N σ g a w) {B : Sr -> List Nat} (hB : Fam w σ g B) : ∀ {s : List Sr}, (∀ x ∈ s, σ.On x.1) -> s.Pairwise okP -> (bks B s).Nodup
 | [], _, _ => List.nodup_nil
 | x :: s, ho, hp => by
  obtain ⟨p1, p2⟩ := List.pairwise_cons.1 hp
  unfold bks
  rw [List.flatMap_cons]
  refine List.nodup_append.2 ⟨hB.nodup x.1 x.2 (ho x (by simp)), zgw hR hB (fun y hy => ho y (by simp [hy])) p2, fun b hb b' hb' hbb => ?_⟩
  subst hbb
  obtain ⟨y, hy, hb'⟩ := List.mem_flatMap.1 hb'
  obtain ⟨e, p⟩ := x
  obtain ⟨e', p'⟩ := y
  have o1 := ho (e, p) (by simp)
  have o2 := ho (e', p') (by simp [hy])
  rcases p1 (e', p') hy with h | ⟨h1, h2, h3⟩
  ·exact hR.apart e e' o1 o2 h b (hB.sub e p b o1 hb) (hB.sub e' p' b o2 hb')
  ·by_cases hee : e = e'
   ·subst hee
    cases p with
    | none => exact h1 rfl
    | some p =>
     cases p' with
     | none => exact h2 rfl
     | some p' => exact hB.apart e p p' o1 (fun h => h3 (by rw [h])) b hb hb'
   ·exact hR.apart e e' o1 o2 hee b (hB.sub e p b o1 hb) (hB.sub e' p' b o2 hb')
theorem qb0 {σ : St} {e i j : Nat} {v : Value} {t : T} (h : onN (σ.ev e) i j v t) : σ.On e := by
 obtain ⟨x, hx, h2, _⟩ := zao h
 exact ⟨x, hx, h2⟩
section
variable {n0 : Nat -> Prop} {N : Nat} {σ : St} {g : Gh} {a : Act} {w : World} (hR : Rel n0 N σ g a w) {B : Sr -> List Nat} (hB : Fam w σ g B)
include hR hB
theorem zcj {K : List Sr -> List (Nat × Nat × Nat) -> Prop} : ∀ {cs : List C} {ts : List T} {u : List Sr} {ps : List (Nat × Nat × Nat)} {vs : List Value}, gvK σ K u ps cs ts -> CRs σ g w cs vs →
  ∃ s ps' tp, K (s.reverse ++ u) ps' /\ zsh w ts vs (bks B s) tp /\ (∀ x ∈ s, σ.On x.1) /\ (u.Pairwise okP -> (s.reverse ++ u).Pairwise okP)
 | [], [], u, ps, vs, h, hv => ⟨[], ps, [], h, ⟨hv, rfl, rfl⟩, by simp, fun h => h⟩
 | [], _ :: _, _, _, _, h, _ => by cases h
 | c :: cs, [], u, ps, vs, h, hv => by cases c <;> first | exact (show False from h).elim | (cases ps <;> exact (show False from h).elim)
 | c :: cs, t :: ts, u, ps, vs, h, hv => by
  obtain ⟨v, vs', rfl, h1, h2⟩ := hv
  unfold gvK at h
  split at h
  ·rename_i e1 e2; cases e1
  ·rename_i x cs' t' ts' e1 e2
   cases e1; cases e2
   unfold gvT at h
   split at h
   ·rename_i v0 y e i j ps0
    obtain ⟨rfl, hok, he, h⟩ := h
    obtain ⟨s, ps', tp, k1, k2, k3, k4⟩ := zcj h h2
    unfold CR zak at h1
    obtain ⟨rfl, _⟩ := h1
    have ho := hB.cell e i j v y he
    refine ⟨(e, some (i, j)) :: s, ps', zgb y (B (e, some (i, j))) ++ tp, by simpa using k1, ⟨v, vs', _, bks B s, tp, rfl, by unfold bks; rw [List.flatMap_cons], rfl, ho, k2⟩, fun x hx => ?_, fun hu => ?_⟩
    ·rcases List.mem_cons.1 hx with rfl | hx
     ·exact qb0 he
     ·exact k3 x hx
    ·have := k4 (List.pairwise_cons.2 ⟨zo1 hok, hu⟩)
     simpa using this
   obtain ⟨rfl, hf, h⟩ := h
   obtain ⟨s, ps', tp, k1, k2, k3, k4⟩ := zcj h h2
   have ho : zas w x v [] := by
    cases x <;> simp only [T.flat, Bool.false_eq_true] at hf <;> simp only [CR, zak] at h1 <;> unfold zas
    ·exact ⟨h1.1, h1.2.1, h1.2.2, rfl⟩
    ·exact ⟨h1, rfl⟩
    ·exact ⟨h1.1, h1.2, rfl⟩
    ·exact ⟨h1, rfl⟩
   exact ⟨s, ps', zgb x [] ++ tp, k1, ⟨v, vs', [], _, tp, rfl, rfl, rfl, ho, k2⟩, k3, k4⟩
  ·rename_i z cs' sz rows ts' e1 e2
   cases e1; cases e2
   obtain ⟨rfl, h⟩ := h
   obtain ⟨s, ps', tp, k1, k2, k3, k4⟩ := zcj h h2
   have ho : zas w (.sl sz []) v [] := by
    unfold zas
    exact ⟨none, 0, h1, by simp, by simp, Or.inl ⟨rfl, rfl, rfl, rfl⟩⟩
   exact ⟨s, ps', zgb (.sl sz []) [] ++ tp, k1, ⟨v, vs', [], _, tp, rfl, rfl, rfl, ho, k2⟩, k3, k4⟩
  ·rename_i e gn cs' sz rows ts' e1 e2
   cases e1; cases e2
   obtain ⟨hok, he, h⟩ := h
   obtain ⟨s, ps', tp, k1, k2, k3, k4⟩ := zcj h h2
   have hou := he
   obtain ⟨⟨dp, sz0, rows0, gn0, on0⟩, hev, rfl, rfl, hrows, rfl, rfl⟩ := zao hou
   have ho : zas w (.sl sz0 rows) (g.ψ e gn0) (g.φ e) := by
    rcases hrows with rfl | rfl
    ·exact zcz hR hev
    ·exact (zcz hR hev).unpins
   have h1 : v = g.ψ e gn0 /\ _ := h1
   rw [<- h1.1] at ho
   refine ⟨(e, none) :: s, ps', zgb (.sl _ _) (g.φ e) ++ tp, by simpa using k1, ⟨v, vs', g.φ e, bks B s, tp, rfl, by unfold bks; rw [List.flatMap_cons, hB.whole], rfl, ho, k2⟩, fun x hx => ?_, fun hu => ?_⟩
   ·rcases List.mem_cons.1 hx with rfl | hx
    ·exact ⟨_, hev, rfl⟩
    ·exact k3 x hx
   ·have := k4 (List.pairwise_cons.2 ⟨zo1 hok, hu⟩)
    simpa using this
  ·rename_i e i j ps0 v0 cs' t' ts' e1 e2
   cases e1; cases e2
   obtain ⟨hok, he, h⟩ := h
   obtain ⟨s, ps', tp, k1, k2, k3, k4⟩ := zcj h h2
   have h1 : v = v0 := h1
   subst h1
   have ho := hB.cell e i j v t he
   refine ⟨(e, some (i, j)) :: s, ps', zgb t (B (e, some (i, j))) ++ tp, by simpa using k1, ⟨v, vs', _, bks B s, tp, rfl, by unfold bks; rw [List.flatMap_cons], rfl, ho, k2⟩, fun x hx => ?_, fun hu => ?_⟩
   ·rcases List.mem_cons.1 hx with rfl | hx
    ·exact qb0 he
    ·exact k3 x hx
   ·have := k4 (List.pairwise_cons.2 ⟨zo1 hok, hu⟩)
    simpa using this
  ·exact h.elim
omit hB in
theorem ztu {FP : List Nat} (hFP : ∀ b ∈ FP, ∃ e, σ.On e /\ b ∈ g.φ e) {c : C} {t : T} {v : Value} (h : rdC c t) (hv : CR σ g w c v) : zak w (fun b => b < w.heap.size /\ b ∉ FP) t v := by
 unfold rdC at h
 split at h
 ·rename_i x
  obtain ⟨rfl, hn⟩ := h
  exact zhe (σ := σ) (g := g) (x := .one (.t x)) (d := .one x) ⟨rfl, hn⟩ hv _
 ·rename_i f f'
  subst h
  exact zhe (σ := σ) (g := g) (x := .one (.fn f [])) (d := .one (.fn f [])) rfl hv _
 ·subst h
  refine zak.keep (fun _ _ => rfl) (fun b hb => ⟨hb.1.2.2.1, fun hm => ?_⟩) _ v hv
  obtain ⟨e, ho, hm⟩ := hFP b hm
  exact hb.2 e ho hm
 ·obtain ⟨rfl, rfl⟩ := h
  obtain ⟨b, q, h1, h2, h3⟩ := hv
  have hk : ∀ b, zcg σ g w b -> b < w.heap.size /\ b ∉ FP := fun b hb => ⟨hb.1.2.2.1, fun hm => by obtain ⟨e, ho, hm⟩ := hFP b hm; exact hb.2 e ho hm⟩
  unfold zak
  exact ⟨b, q, h1, hk b h2, zaz.keep (fun _ _ => rfl) hk b rfl q _ h3⟩
 ·subst h
  rw [show v = .slice none 0 0 from hv]
  unfold zak
  exact ⟨none, 0, rfl, by simp, by simp, Or.inl rfl⟩
 ·exact h.elim
omit hB in
theorem zpa {FP : List Nat} (hFP : ∀ b ∈ FP, ∃ e, σ.On e /\ b ∈ g.φ e) : ∀ {cs : List C} {ts : List T} {vs : List Value}, rdCs cs ts -> CRs σ g w cs vs -> zac w (fun b => b < w.heap.size /\ b ∉ FP) ts vs
 | [], [], vs, _, hv => by unfold zac; exact hv
 | [], _ :: _, _, h, _ => h.elim
 | _ :: _, [], _, h, _ => h.elim
 | c :: cs, t :: ts, vs, h, hv => by
  obtain ⟨v, vs', rfl, h1, h2⟩ := hv
  unfold zac
  exact ⟨v, vs', rfl, ztu hR hFP h.1 h1, zpa hFP h.2 h2⟩
theorem zdp {K : List Sr -> Prop} : ∀ {xs : List V} {ds : List (Bool × D)} {u : List Sr} {ps : List (Nat × Nat × Nat)} {vs : List Value}, gvA σ K u ps xs ds -> VRl σ g w xs vs →
  ∃ s, K (s.reverse ++ u) /\ (∀ FP : List Nat, (∀ b ∈ FP, ∃ e, σ.On e /\ b ∈ g.φ e) -> ∃ tp, za2 w (fun b => b < w.heap.size /\ b ∉ FP) ds vs (bks B s) tp) /\ (∀ x ∈ s, σ.On x.1) /\ (u.Pairwise okP -> (s.reverse ++ u).Pairwise okP)
 | [], [], u, ps, vs, h, hv => ⟨[], h, fun _ _ => ⟨[], hv, rfl, rfl⟩, by simp, fun h => h⟩
 | [], _ :: _, _, _, _, h, _ => h.elim
 | x :: xs, [], _, _, _, h, _ => by cases x <;> exact h.elim
 | x :: xs, (false, d) :: ds, u, ps, vs, h, hv => by
  obtain ⟨v, vs', rfl, h1, h2⟩ := hv
  unfold gvA at h
  obtain ⟨hr, h⟩ := h
  obtain ⟨s, k1, k2, k3, k4⟩ := zdp h h2
  refine ⟨s, k1, fun FP hFP => ?_, k3, k4⟩
  obtain ⟨tp, k2⟩ := k2 FP hFP
  refine ⟨tp, v, vs', rfl, ?_, k2⟩
  unfold rdV at hr
  split at hr
  ·exact ztu hR hFP hr h1
  ·obtain ⟨b, e, h1⟩ := h1; exact ⟨b, e, zpa hR hFP hr h1⟩
  ·exact hr.elim
 | .one c :: xs, (true, .one t) :: ds, u, ps, vs, h, hv => by
  obtain ⟨v, vs', rfl, h1, h2⟩ := hv
  unfold gvA at h
  obtain ⟨s, ps', tp, k1, k2, k3, k4⟩ := zcj hR hB h (vs := [v]) ⟨v, [], rfl, h1, rfl⟩
  obtain ⟨s', j1, j2, j3, j4⟩ := zdp k1 h2
  obtain ⟨v0, vs0, f1, f2, t2, e0, e1, rfl, q1, q2⟩ := k2
  cases e0
  obtain ⟨_, rfl, rfl⟩ := q2
  rw [List.append_nil] at e1
  refine ⟨s ++ s', by simpa using j1, fun FP hFP => ?_, fun x hx => ?_, fun hu => by simpa using j4 (k4 hu)⟩
  ·obtain ⟨tp', j2⟩ := j2 FP hFP
   exact ⟨zgb t f1 ++ tp', v, vs', bks B s, bks B s', _, tp', rfl, by unfold bks; rw [List.flatMap_append], rfl, ⟨by rw [e1]; exact q1, by rw [e1]⟩, j2⟩
  ·rcases List.mem_append.1 hx with hx | hx
   ·exact k3 x hx
   ·exact j3 x hx
 | .agg cs :: xs, (true, .agg ts) :: ds, u, ps, vs, h, hv => by
  obtain ⟨v, vs', rfl, ⟨y, rfl, h1⟩, h2⟩ := hv
  unfold gvA at h
  obtain ⟨s, ps', tp, k1, k2, k3, k4⟩ := zcj hR hB h h1
  obtain ⟨s', j1, j2, j3, j4⟩ := zdp k1 h2
  refine ⟨s ++ s', by simpa using j1, fun FP hFP => ?_, fun x hx => ?_, fun hu => by simpa using j4 (k4 hu)⟩
  ·obtain ⟨tp', j2⟩ := j2 FP hFP
   exact ⟨tp ++ tp', _, vs', bks B s, bks B s', tp, tp', rfl, by unfold bks; rw [List.flatMap_append], rfl, ⟨y, rfl, k2⟩, j2⟩
  ·rcases List.mem_append.1 hx with hx | hx
   ·exact k3 x hx
   ·exact j3 x hx
 | .one _ :: _, (true, .agg _) :: _, _, _, _, h, _ => h.elim
 | .agg _ :: _, (true, .one _) :: _, _, _, _, h, _ => h.elim
 | .tup _ :: _, (true, d) :: _, _, _, _, h, _ => by cases d <;> exact h.elim
end
end Go.Proofs.YtnkagnjiljjpcaaGreat
namespace Go.Proofs.YtnkagnjiljjpcaaGreat
set_option linter.unusedSimpArgs false
set_option linter.unusedVariables false
set_option linter.unusedSectionVars false
set_option maxRecDepth 4000
open Go.RowKit
variable {P : Program}
def C.okU (τ : St) : C -> Prop
 | .t x => x.flat = true
 | .nl _ => True
 | .ow e g => zap (τ.ev e) fun x => g <= x.gen
 | .bx b _ => τ.bx b ≠ none
 | .el _ _ => False
 | .er _ _ => True
 | .eo e s _ _ _ => zap (τ.ev e) fun x => s <= x.gen
 | .fn _ caps => zrf τ caps
 | .cv _ => True
 | .any => True
 | .rn _ => True
def qbe (τ : St) : List C -> Prop
 | [] => True
 | c :: cs => c.okU τ /\ qbe τ cs
def okUt (τ : St) : List (Bool × List C) -> Prop
 | [] => True
 | x :: xs => qbe τ x.2 /\ okUt τ xs
def V.okU (τ : St) : V -> Prop
 | .one c => c.okU τ
 | .agg cs => qbe τ cs
 | .tup xs => okUt τ xs
structure Kept (σ τ : St) : Prop where
 sl : ∀ i, τ.sl i = .one .any \/ (τ.sl i = σ.sl i /\ (τ.sl i).okU τ)
 bx : ∀ b cs, τ.bx b = some cs -> σ.bx b = some cs /\ qbe τ cs
 ev : ∀ e x, τ.ev e = some x -> σ.ev e = some x /\ x.on = true /\ x.deep = true
section
variable {σ τ : St} {g g' : Gh} {w w' : World} {ev' : Nat -> Option Ev} (hβ : g'.β = g.β) (hψ : ∀ e, τ.ev e ≠ none -> ev' e = τ.ev e /\ g'.ψ e = g.ψ e) (hrn : ∀ b, zcg σ g w b -> w'.heap[b]? = w.heap[b]? /\ zcg ⟨τ.sl, τ.bx, ev'⟩ g' w' b)
include hβ hψ hrn
theorem zt5 {c : C} {v : Value} (hc : c.okU τ) (h : CR σ g w c v) : CR ⟨τ.sl, τ.bx, ev'⟩ g' w' c v := by
 have hh : ∀ {e n : Nat}, zap (τ.ev e) (fun x => n <= x.gen) -> g'.ψ e = g.ψ e /\ St.has ⟨τ.sl, τ.bx, ev'⟩ e n := fun {e n} ho => by
  obtain ⟨x, hx, hn⟩ := zao ho
  obtain ⟨k1, k2⟩ := hψ e (by rw [hx]; simp)
  exact ⟨k2, x, k1.trans hx, hn⟩
 cases c with
 | t x => exact zen hc h
 | nl s => exact h
 | ow e n => obtain ⟨k1, k2⟩ := hh hc; exact ⟨by rw [k1]; exact h.1, k2⟩
 | bx b o => exact ⟨by rw [hβ]; exact h.1, hc⟩
 | el cs o => exact hc.elim
 | eo e s sz i o => obtain ⟨k1, k2⟩ := hh hc; obtain ⟨b, n, c, q1, q2, q3, q4⟩ := h; exact ⟨b, n, c, by rw [k1]; exact q1, q2, q3, k2⟩
 | fn f caps => exact ⟨by rw [hβ]; exact h.1, fun b hb => zgv (show zrf τ caps from hc) b hb⟩
 | cv u => exact h
 | any => trivial
 | rn x => exact zak.keep (fun b hb => (hrn b hb).1) (fun b hb => (hrn b hb).2) x v h
 | er cs o => obtain ⟨b, q, h1, h2, h3⟩ := h; exact ⟨b, q, h1, (hrn b h2).2, zaz.keep (fun b hb => (hrn b hb).1) (fun b hb => (hrn b hb).2) b (hrn b h2).1 q cs h3⟩
theorem zkd : ∀ {cs : List C} {vs : List Value}, qbe τ cs -> CRs σ g w cs vs -> CRs ⟨τ.sl, τ.bx, ev'⟩ g' w' cs vs
 | [], _, _, h => h
 | c :: cs, vs, hc, h => by
  obtain ⟨v, vs', rfl, h1, h2⟩ := h
  exact ⟨v, vs', rfl, zt5 hβ hψ hrn hc.1 h1, zkd hc.2 h2⟩
theorem zud : ∀ {xs : List (Bool × List C)} {vs : List Value}, okUt τ xs -> CRt σ g w xs vs -> CRt ⟨τ.sl, τ.bx, ev'⟩ g' w' xs vs
 | [], _, _, h => h
 | x :: xs, vs, hc, h => by
  obtain ⟨v, vs', rfl, h1, h2⟩ := h
  refine ⟨v, vs', rfl, ?_, zud hc.2 h2⟩
  unfold CRx at h1 ⊢
  split at h1
  ·rw [if_pos ‹_›]; obtain ⟨a, k1, k2⟩ := h1; exact ⟨a, k1, zkd hβ hψ hrn hc.1 k2⟩
  ·rw [if_neg ‹_›]
   obtain ⟨c, k1, k2⟩ := h1
   refine ⟨c, k1, zt5 hβ hψ hrn ?_ k2⟩
   have := hc.1
   rw [k1] at this
   exact this.1
theorem okU_vr {x : V} {v : Value} (hc : x.okU τ) (h : VR σ g w x v) : VR ⟨τ.sl, τ.bx, ev'⟩ g' w' x v := by
 cases x with
 | one c => exact zt5 hβ hψ hrn hc h
 | agg cs => obtain ⟨a, k1, k2⟩ := h; exact ⟨a, k1, zkd hβ hψ hrn hc k2⟩
 | tup xs => obtain ⟨a, k1, k2⟩ := h; exact ⟨a, k1, zud hβ hψ hrn hc k2⟩
end
theorem Rel.given {n0 : Nat -> Prop} {N : Nat} {σ τ : St} {g g' : Gh} {a : Act} {w w' : World} (hR : Rel n0 N σ g a w) (hn0 : LtK n0 w) (hK : Kept σ τ) {fp : List Nat} (hfp : ∀ b ∈ fp, ∃ e, σ.On e /\ τ.ev e = none /\ b ∈ g.φ e) (hbk : Bk (fun k => k < w.heap.size /\ k ∉ fp) w w')
  {ev' : Nat -> Option Ev} {F : List Nat} (hn : New τ g (fun b => b ∈ fp \/ w.heap.size <= b) w' ev' g' F) : Rel n0 N ⟨τ.sl, τ.bx, ev'⟩ g' a w' := by
 have hOnσ : ∀ e, τ.On e -> σ.On e := fun e ⟨x, hx, ho⟩ => ⟨x, (hK.ev e x hx).1, ho⟩
 have hlt : ∀ e, σ.On e -> ∀ b ∈ g.φ e, b < w.heap.size := fun e ⟨x, hx, ho⟩ => (hR.evs e x hx ho).lt
 have hbne : ∀ b, τ.bx b ≠ none -> σ.bx b ≠ none := fun b hb => by
  obtain ⟨cs, hcs⟩ := Option.ne_none_iff_exists'.1 hb
  rw [(hK.bx b cs hcs).1]; simp
 have hfR : ∀ b ∈ fp, g.A0 b /\ g.R0 b /\ ¬ n0 b := fun b hb => by
  obtain ⟨e, ho, _, hm⟩ := hfp b hb
  obtain ⟨k1, k2⟩ := hR.ebase e ho b hm
  exact ⟨k1, k2, hR.etop e ho b hm⟩
 have hNB : ∀ b, (b ∈ fp \/ w.heap.size <= b) -> g.A0 b /\ g.R0 b /\ ¬ n0 b := fun b hb => by
  rcases hb with hb | hb
  ·exact hfR b hb
  ·have hnn := hn0.new hb
   exact ⟨(hR.anew b hnn).1, (hR.anew b hnn).2, hnn⟩
 have hβfp : ∀ b, τ.bx b ≠ none -> ¬ (g.β b ∈ fp \/ w.heap.size <= g.β b) := fun b hb h => by
  rcases h with h | h
  ·obtain ⟨e, ho, _, hm⟩ := hfp _ h
   exact hR.ebx e b ho (hbne b hb) hm
  ·have := hR.lt (hbne b hb); omega
 have hφfp : ∀ e, τ.On e -> ∀ b ∈ g.φ e, ¬ (b ∈ fp \/ w.heap.size <= b) := fun e ho b hb h => by
  rcases h with h | h
  ·obtain ⟨e', ho', hno, hm⟩ := hfp b h
   refine hR.apart e e' (hOnσ e ho) ho' (fun hee => ?_) b hb hm
   subst hee
   obtain ⟨x, hx, _⟩ := ho
   rw [hx] at hno; cases hno
  ·have := hlt e (hOnσ e ho) b hb; omega
 have hon : ∀ e, St.On ⟨τ.sl, τ.bx, ev'⟩ e -> τ.ev e ≠ none -> τ.On e := fun e ⟨x, hx, ho⟩ hee => ⟨x, (hn.old e hee).1.symm.trans hx, ho⟩
 have hkeep : ∀ b, b < w.heap.size -> b ∉ fp -> w'.heap[b]? = w.heap[b]? := fun b h1 h2 => hbk.block b ⟨h1, h2⟩
 have hrn : ∀ b, zcg σ g w b -> w'.heap[b]? = w.heap[b]? /\ zcg ⟨τ.sl, τ.bx, ev'⟩ g' w' b := fun b hb => by
  obtain ⟨hf, hr⟩ := hb
  have hnb : ∀ e, St.On ⟨τ.sl, τ.bx, ev'⟩ e -> b ∉ g'.φ e := fun e ho hm => by
   by_cases hee : τ.ev e = none
   ·obtain ⟨x, hx, _⟩ := ho
    rcases ((hn.new e x hee hx).2.2.1 b hm).1 with h | h
    ·obtain ⟨e', ho', _, hm'⟩ := hfp b h
     exact hr e' ho' hm'
    ·have := hf.2.2.1; omega
   ·rw [(hn.old e hee).2.2] at hm
    exact hr e (hOnσ e (hon e ho hee)) hm
  refine ⟨hkeep b hf.2.2.1 (fun hm => by obtain ⟨e', ho', _, hm'⟩ := hfp b hm; exact hr e' ho' hm'), ⟨fun k hk => by rw [hn.β]; exact hf.1 k (hbne k hk), fun e x hx hon' hh => hnb e ⟨x, hx, hon'⟩ (List.mem_of_mem_head? hh), Nat.lt_of_lt_of_le hf.2.2.1 hbk.size, by rw [hn.A0]; exact hf.2.2.2⟩, hnb⟩
 have hψ : ∀ e, τ.ev e ≠ none -> ev' e = τ.ev e /\ g'.ψ e = g.ψ e := fun e he => ⟨(hn.old e he).1, (hn.old e he).2.1⟩
 refine ⟨by rw [hR.defers], hR.size, by rw [hn.A0, hn.R0]; exact hR.anew, fun i => ?_, fun b cs hb => ?_, fun b hb => by rw [hn.β]; exact hR.base b (hbne b hb), fun b b' h1 h2 h3 => by rw [hn.β] at h3; exact hR.inj b b' (hbne b h1) (hbne b' h2) h3, fun e x he ho => ?_, fun e x he ho => ?_, hn.slc, fun e he b hb => ?_, fun e he b hb => ?_, fun e he => ?_, fun e e' h1 h2 hne b hb1 hb2 => ?_, fun e k he hk hm => ?_⟩
 ·rcases hK.sl i with h | ⟨h, hok⟩
  ·rw [show (⟨τ.sl, τ.bx, ev'⟩ : St).sl i = .one .any from h]; trivial
  ·rw [hn.R0]
   show VR _ g' w' (τ.sl i) _
   have hs := hR.slots i
   rw [<- h] at hs
   exact okU_vr hn.β hψ hrn hok hs
 ·obtain ⟨hb1, hb2⟩ := hK.bx b cs hb
  obtain ⟨vs, ty, k1, k2⟩ := hR.boxes b cs hb1
  have hne : τ.bx b ≠ none := by rw [show τ.bx b = some cs from hb]; simp
  have hnf := hβfp b hne
  exact ⟨vs, ty, by rw [hn.β, hkeep _ (hR.lt (hbne b hne)) (fun h => hnf (Or.inl h))]; exact k1, zkd hn.β hψ hrn hb2 k2⟩
 ·by_cases hee : τ.ev e = none
  ·obtain ⟨⟨k1, _, k0⟩, k2, k3, k4⟩ := hn.new e x hee he
   rw [k0]
   unfold zas at k2
   obtain ⟨ao, cap, j1, j2, j3, j4⟩ := k2
   refine ⟨ao, cap, j1, j2, j3, ?_⟩
   rcases j4 with j4 | ⟨b, cells, ty, fps, j4, j5, j6, j7, j8⟩
   ·exact Or.inl j4
   ·exact Or.inr ⟨b, cells, ty, fps, j4, j5, j6, j7, by rw [if_pos k1]; exact j8⟩
  ·obtain ⟨o1, o2, o3⟩ := hn.old e hee
   have hx : τ.ev e = some x := o1.symm.trans he
   obtain ⟨k1, k2, k3⟩ := hK.ev e x hx
   have hE := hR.evs e x k1 k2
   have hno := hφfp e ⟨x, hx, k2⟩
   have hl := hlt e ⟨x, k1, k2⟩
   have hkp : ∀ b ∈ g.φ e, w'.heap[b]? = w.heap[b]? := fun b hb => hkeep b (hl b hb) fun h => hno b hb (Or.inl h)
   rw [o2, o3]
   obtain ⟨ao, cap, r1, r2, r3, r4⟩ := hE
   refine ⟨ao, cap, r1, r2, r3, ?_⟩
   rcases r4 with r4 | ⟨b, cells, ty, fps, r4, r5, r6, r7, r8⟩
   ·exact Or.inl r4
   ·rw [if_pos k3] at r8
    exact Or.inr ⟨b, cells, ty, fps, r4, r5, by rw [hkp b (by rw [r5]; simp)]; exact r6, r7, by rw [if_pos k3]; exact zad.keep cells 0 x.sz x.rows fps r8 fun b' hb' => hkp b' (by rw [r5]; simp [hb'])⟩
 ·by_cases hee : τ.ev e = none
  ·rw [(hn.new e x hee he).1.2.1] at ho; cases ho
  ·have hx : τ.ev e = some x := (hn.old e hee).1.symm.trans he
   rw [(hK.ev e x hx).2.1] at ho; cases ho
 ·rw [hn.A0, hn.R0]
  by_cases hee : τ.ev e = none
  ·obtain ⟨x, hx, _⟩ := he
   have := hNB b ((hn.new e x hee hx).2.2.1 b hb).1
   exact ⟨this.1, this.2.1⟩
  ·rw [(hn.old e hee).2.2] at hb
   exact hR.ebase e (hOnσ e (hon e he hee)) b hb
 ·by_cases hee : τ.ev e = none
  ·obtain ⟨x, hx, _⟩ := he
   exact (hNB b ((hn.new e x hee hx).2.2.1 b hb).1).2.2
  ·rw [(hn.old e hee).2.2] at hb
   exact hR.etop e (hOnσ e (hon e he hee)) b hb
 ·by_cases hee : τ.ev e = none
  ·obtain ⟨x, hx, _⟩ := he
   exact (hn.new e x hee hx).2.2.2
  ·rw [(hn.old e hee).2.2]
   exact hR.nodup e (hOnσ e (hon e he hee))
 ·by_cases hee : τ.ev e = none
  ·obtain ⟨x, hx, _⟩ := h1
   by_cases hee' : τ.ev e' = none
   ·obtain ⟨x', hx', _⟩ := h2
    exact hn.apart e e' hee hee' (by rw [show ev' e = some x from hx]; simp) (by rw [show ev' e' = some x' from hx']; simp) hne b hb1 hb2
   ·rw [(hn.old e' hee').2.2] at hb2
    exact hφfp e' (hon e' h2 hee') b hb2 ((hn.new e x hee hx).2.2.1 b hb1).1
  ·rw [(hn.old e hee).2.2] at hb1
   by_cases hee' : τ.ev e' = none
   ·obtain ⟨x', hx', _⟩ := h2
    exact hφfp e (hon e h1 hee) b hb1 ((hn.new e' x' hee' hx').2.2.1 b hb2).1
   ·rw [(hn.old e' hee').2.2] at hb2
    exact hR.apart e e' (hOnσ e (hon e h1 hee)) (hOnσ e' (hon e' h2 hee')) hne b hb1 hb2
 ·rw [hn.β] at hm
  by_cases hee : τ.ev e = none
  ·obtain ⟨x, hx, _⟩ := he
   exact hβfp k hk ((hn.new e x hee hx).2.2.1 _ hm).1
  ·rw [(hn.old e hee).2.2] at hm
   exact hR.ebx e k (hOnσ e (hon e he hee)) (hbne k hk) hm
theorem zxf {o : Oper} {σ τ : St} {x : Operand} {asx : Array Operand} {ts : Array TypeId} {f : FuncId} {cvs : List V} {d : Nat} {ds : List (Bool × D)} {res : List D} {ps : List (Nat × Nat × Nat)} (ho : o.op = .call ⟨.value x, asx, ts⟩) (hd : o.dst = some d)
  (h : GC P f ds res) (hc : zav (σ.get P 0 x) = some (f, cvs)) (hK : Kept σ τ) (hv : gvA σ (fun u => ∀ s ∈ u, τ.ev s.1 = none) [] ps (σ.gets P asx ts ++ cvs) ds) (hf : zey d 0 (zaw res) τ.ev) : zae P o σ (τ.callF d res) := by
 intro n0 N g a w hR hn hdN
 obtain ⟨vs, h1, h2⟩ := zd1 hR ho hc h.1
 unfold Oper.wp
 rw [h1]
 obtain ⟨B, hB⟩ := hR.fam
 obtain ⟨s, k1, k2, k3, k4⟩ := zdp hR hB hv h2
 rw [List.append_nil] at k1 k4
 have hsp : s.Pairwise okP := by
  have := (List.pairwise_reverse.1 (k4 List.Pairwise.nil))
  exact this.imp fun h => h.symm
 have hnd := zgw hR hB k3 hsp
 have hfp : ∀ b ∈ bks B s, ∃ e, σ.On e /\ τ.ev e = none /\ b ∈ g.φ e := fun b hb => by
  obtain ⟨x, hx, hm⟩ := List.mem_flatMap.1 hb
  exact ⟨x.1, k3 x hx, k1 x (List.mem_reverse.2 hx), hB.sub x.1 x.2 b (k3 x hx) hm⟩
 obtain ⟨tp, k2⟩ := k2 (bks B s) fun b hb => by obtain ⟨e, h1, _, h3⟩ := hfp b hb; exact ⟨e, h1, h3⟩
 refine (h.2 w vs (bks B s) tp k2 hnd).mono ?_
 rintro e w' ⟨us, fp', tp', rfl, o1, o2, o3, hbk⟩
 have o1' := ze3.of_g o1
 obtain ⟨g', q1, q2, q3⟩ := New.cells (σ := τ) (g := g) (NB := fun b => b ∈ bks B s \/ w.heap.size <= b) (w' := w') d (zaw res) _ fp' 0 τ.ev g [] (New.refl _ _ _ _ hR.slc) (fun e h1 h2 => absurd h1 h2) hf o1'.cells o2 (fun b hb' => ⟨o3 b hb', by simp⟩)
 have hR' := hR.given hn hK hfp hbk q1
 have hBk : Bk n0 w w' := ⟨hbk.os, hbk.tape, hbk.output, hbk.size, fun k hk => hbk.block k ⟨hn k hk, fun hm => by
  obtain ⟨e, h1, _, h3⟩ := hfp k hm
  exact hR.etop e h1 k h3 hk⟩⟩
 refine ⟨g', ?_, hBk, q1.A0, q1.R0⟩
 have hp := hR'.put (some d) (x := zq9 (zsi d 0 res)) (v := zch us) (zez (zkb d 0 o1' (q3 _ _ rfl)) (zgj d res 0)) (fun i hi => by cases hi; exact hdN d hd)
 rw [hd]
 exact hp
def zro {α : Type} : List (Nat × α) -> Nat -> Prop
 | [], _ => True
 | p :: l, i => (i = p.1) = False /\ zro l i
def zeb {α β : Type} (l : List (Nat × β)) : List (Nat × α) -> Prop
 | [] => True
 | p :: la => zro l p.1 /\ zeb l la
def okL (τ : St) : List (Nat × V) -> Prop
 | [] => True
 | p :: l => p.2.okU τ /\ okL τ l
def okB (τ : St) : List (Nat × List C) -> Prop
 | [] => True
 | p :: l => qbe τ p.2 /\ okB τ l
def okE : List (Nat × Ev) -> Prop
 | [] => True
 | p :: l => p.2.on = true /\ p.2.deep = true /\ okE l
def zwb (el : List (Nat × Ev)) : List Sr -> Prop
 | [] => True
 | s :: u => zro el s.1 /\ zwb el u
theorem zhv {α : Type} : ∀ {l : List (Nat × α)} {i : Nat}, zro l i -> tbl l i = none
 | [], _, _ => rfl
 | (j, v) :: l, i, h => by unfold tbl; rw [if_neg (fun e => of_eq_false h.1 e), zhv h.2]
theorem zld {el : List (Nat × Ev)} : ∀ {u : List Sr}, zwb el u -> ∀ s ∈ u, tbl el s.1 = none
 | [], _, s, hs => by simp at hs
 | x :: u, h, s, hs => by
  rcases List.mem_cons.1 hs with rfl | hs
  ·exact zhv h.1
  ·exact zld h.2 s hs
theorem zir : ∀ {l : List (Nat × V)} {i : Nat}, zro l i -> zg4 l i = .one .any
 | [], _, _ => rfl
 | (j, v) :: l, i, h => by unfold zg4; rw [if_neg (fun e => of_eq_false h.1 e), zir h.2]
theorem zqc {l : List (Nat × V)} : ∀ {la : List (Nat × V)}, zeb l la -> ∀ i, zg4 l i = .one .any \/ zg4 l i = zg4 (la ++ l) i
 | [], _, i => Or.inr rfl
 | (j, v) :: la, h, i => by
  by_cases hij : i = j
  ·subst hij; exact Or.inl (zir h.1)
  ·rw [List.cons_append]
   show _ \/ zg4 l i = if i = j then v else zg4 (la ++ l) i
   rw [if_neg hij]
   exact zqc h.2 i
theorem znv {α : Type} {l : List (Nat × α)} : ∀ {la : List (Nat × α)}, zeb l la -> ∀ i x, tbl l i = some x -> tbl (la ++ l) i = some x
 | [], _, i, x, hx => hx
 | (j, v) :: la, h, i, x, hx => by
  by_cases hij : i = j
  ·subst hij; rw [zhv h.1] at hx; cases hx
  ·rw [List.cons_append]
   show (if i = j then some v else tbl (la ++ l) i) = some x
   rw [if_neg hij]
   exact znv h.2 i x hx
theorem zs5 {τ : St} : ∀ {l : List (Nat × V)}, okL τ l -> ∀ i, (zg4 l i).okU τ
 | [], _, _ => trivial
 | (j, v) :: l, h, i => by
  unfold zg4
  split
  ·exact h.1
  ·exact zs5 h.2 i
theorem zwn {τ : St} : ∀ {l : List (Nat × List C)}, okB τ l -> ∀ b cs, tbl l b = some cs -> qbe τ cs
 | [], _, _, _, h => by cases h
 | (j, v) :: l, h, b, cs, hb => by
  unfold tbl at hb
  split at hb
  ·cases hb; exact h.1
  ·exact zwn h.2 b cs hb
theorem zur : ∀ {l : List (Nat × Ev)}, okE l -> ∀ e x, tbl l e = some x -> x.on = true /\ x.deep = true
 | [], _, _, _, h => by cases h
 | (j, v) :: l, h, e, x, hb => by
  unfold tbl at hb
  split at hb
  ·cases hb; exact ⟨h.1, h.2.1⟩
  ·exact zur h.2.2 e x hb
section
variable {ks : List Fr} {Q : Exit -> St -> Prop} {σ : St} {ops : Array Oper} {os : List Oper} {ty : TypeId} {ps : String} {af : Array Edge} {d : Nat} {x : Operand} {asx : Array Operand} {ts : Array TypeId} {f : FuncId} {ds : List (Bool × D)} {res : List D}
theorem callG (la l : List (Nat × V)) (ba bl : List (Nat × List C)) (ea el : List (Nat × Ev)) (pl : List (Nat × Nat × Nat)) (h : GC P f ds res)
  (hw : wkL σ (hd (la ++ l) (ba ++ bl) (ea ++ el)) (la ++ l) /\ wkB σ (hd (la ++ l) (ba ++ bl) (ea ++ el)) (ba ++ bl) /\ wkE σ (ea ++ el))
  (hk : zeb l la /\ zeb bl ba /\ zeb el ea /\ okL (hd l bl el) l /\ okB (hd l bl el) bl /\ okE el)
  (hp : zap (zav ((hd (la ++ l) (ba ++ bl) (ea ++ el)).get P 0 x)) fun p => p.1 = f /\ gvA (hd (la ++ l) (ba ++ bl) (ea ++ el)) (zwb el) [] pl ((hd (la ++ l) (ba ++ bl) (ea ++ el)).gets P asx ts ++ p.2) ds) (hf : zey d 0 (zaw res) (hd l bl el).ev)
  (k : exo P ops os ks Q ((hd l bl el).callF d res)) : exo P ops (⟨some d, .call ⟨.value x, asx, ts⟩, ty, ps, af, none⟩ :: os) ks Q σ := by
 obtain ⟨⟨f', cvs⟩, h1, rfl, h2⟩ := zao hp
 obtain ⟨k1, k2, k3, k4, k5, k6⟩ := hk
 refine zcf rfl rfl (zae.pre (zab hw) (zxf (P := P) (o := ⟨some d, .call ⟨.value x, asx, ts⟩, ty, ps, af, none⟩) rfl rfl h h1 (τ := hd l bl el) ⟨fun i => ?_, fun b cs hb => ⟨znv k2 b cs hb, zwn k5 b cs hb⟩, fun e x he => ⟨znv k3 e x he, zur k6 e x he⟩⟩ (zgk (fun u hu => zld hu) h2) hf)) k
 rcases zqc k1 i with h | h
 ·exact Or.inl h
 ·exact Or.inr ⟨h, zs5 k4 i⟩
end
attribute [go_sem] gvT owU zed zln zro zeb okL okB okE zwb C.okU qbe okUt V.okU gvA gvK okS okQ rdV rdC rdCs
end Go.Proofs.YtnkagnjiljjpcaaGreat
namespace Go.Proofs.YtnkagnjiljjpcaaGreat
set_option linter.unusedSimpArgs false
set_option linter.unusedVariables false
set_option linter.unusedSectionVars false
set_option maxRecDepth 4000
open Go.RowKit
variable {P : Program}
def zy3 : Option (Nat × List (List C)) -> List (List C)
 | some p => p.2
 | none => []
def blK (d : Nat) : Option (Ev × List (Nat × Ev)) -> List (Nat × Ev)
 | some (x, cons) => (d * 32, x) :: zue cons
 | none => []
def apKs : Option (Prop × Nat × Ev × List (Nat × Ev)) -> List Ky
 | some (_, e, _, cons) => (2, e) :: cons.map (fun p => (2, p.1))
 | none => []
section
variable {ks : List Fr} {Q : Exit -> St -> Prop} {σ : St} {ops : Array Oper} {os : List Oper} {L : List (List Ky × List Ky)} {d : Nat} {t : TypeId} {ty : TypeId} {ps : String} {af : Array Edge} {len : Nat} {parts : Array (Nat × Operand)} {s y : Operand}
theorem zcm (h : zap (blD P σ t len parts) fun r => σ.ev (d * 32) = none /\ (r.2.map (·.1)).Nodup)
  (k : exd P ops os (L ++ [(zaq (parts.toList.map (·.2)) ++ (rK (zy3 (zh1 P (σ.get P) t len parts)) ++ [(2, d * 32)]), dK (some d) ++ eK (blK d (blD P σ t len parts)))]) ks Q ((σ.bl d (blD P σ t len parts)).put (some d) (.one (.ow (d * 32) 0)))) :
  exd P ops (⟨some d, .buildSlice t len parts, ty, ps, af, none⟩ :: os) L ks Q σ := by
 obtain ⟨⟨x, cons⟩, h1, h2, h3⟩ := zao h
 rw [h1] at k
 unfold blD at h1
 obtain ⟨p, e1, h1⟩ := Option.bind_eq_some_iff.1 h1
 obtain ⟨q, e2, h1⟩ := Option.map_eq_some_iff.1 h1
 simp only [Prod.mk.injEq] at h1
 obtain ⟨rfl, rfl⟩ := h1
 rw [e1] at k
 exact qd7 ⟨e1, e2, h2, h3⟩ k
theorem zkm (dp2 : Bool) (h : zap (apV P σ d t s y dp2) fun r => r.1) (k : exd P ops os (L ++ [(zaq [s, y] ++ apKs (apV P σ d t s y dp2), dK (some d) ++ apKs (apV P σ d t s y dp2))]) ks Q (σ.apV d (apV P σ d t s y dp2))) :
  exd P ops (⟨some d, .call ⟨.builtin .append, #[s, y], #[t, t]⟩, ty, ps, af, none⟩ :: os) L ks Q σ := by
 obtain ⟨⟨p, e, x, cons⟩, h1, h2⟩ := zao h
 rw [h1] at k
 unfold Go.Proofs.YtnkagnjiljjpcaaGreat.apV at h1
 split at h1
 ·rename_i e0 gn e2 gn2 hs hy
  obtain ⟨x0, k1, h3⟩ := Option.bind_eq_some_iff.1 h1
  obtain ⟨z, k2, h4⟩ := Option.bind_eq_some_iff.1 h3
  clear h1 h3
  by_cases hc : x0.gen = gn /\ x0.on = true /\ z.gen = gn2 /\ z.on = true /\ z.sz = x0.sz /\ e2 ≠ e0
  ·rw [if_pos hc] at h4
   obtain ⟨rfl, c2, rfl, c4, c5, c6⟩ := hc
   simp only [Option.some.injEq, Prod.mk.injEq] at h4
   obtain ⟨rfl, rfl, rfl, rfl⟩ := h4
   obtain ⟨dp, sz, rows, gn, on⟩ := x0
   obtain ⟨dp2, sz2, rows2, gn2, on2⟩ := z
   simp only at c2 c4 c5
   subst c2 c4 c5
   exact dApOO ⟨hs, zz7 hy, k1, k2, c6, rfl⟩ h2.1 h2.2 k
  ·rw [if_neg hc] at h4; cases h4
 ·rename_i e0 gn sz rows2 hs hy
  obtain ⟨x0, k1, h4⟩ := Option.bind_eq_some_iff.1 h1
  clear h1
  by_cases hc : x0.gen = gn /\ x0.on = true /\ sz = x0.sz
  ·rw [if_pos hc] at h4
   obtain ⟨rfl, c2, rfl⟩ := hc
   simp only [Option.some.injEq, Prod.mk.injEq] at h4
   obtain ⟨rfl, rfl, rfl, rfl⟩ := h4
   obtain ⟨dp, sz, rows, gn, on⟩ := x0
   simp only at c2
   subst c2
   exact dApOT dp2 ⟨hs, hy, k1⟩ (fun hd => zhq (h2.2.2 hd)) h2.1 h2.2.1 k
  ·rw [if_neg hc] at h4; cases h4
 ·rename_i z0 e2 gn2 hs hy
  obtain ⟨z, k2, h4⟩ := Option.bind_eq_some_iff.1 h1
  clear h1
  by_cases hc : z.gen = gn2 /\ z.on = true /\ e2 ≠ d * 32
  ·rw [if_pos hc] at h4
   obtain ⟨rfl, c2, c3⟩ := hc
   simp only [Option.some.injEq, Prod.mk.injEq] at h4
   obtain ⟨rfl, rfl, rfl, rfl⟩ := h4
   obtain ⟨dp2, sz2, rows2, gn2, on2⟩ := z
   simp only at c2
   subst c2
   exact dApNO ⟨hs, zz7 hy, h2.2.2, k2, c3⟩ h2.1 h2.2.1 k
  ·rw [if_neg hc] at h4; cases h4
 ·rename_i z0 sz rows2 hs hy
  simp only [Option.some.injEq, Prod.mk.injEq] at h1
  obtain ⟨rfl, rfl, rfl, rfl⟩ := h1
  exact dApNT dp2 ⟨hs, hy, h2.2.2.2⟩ (fun hd => zhq (h2.2.2.1 hd)) h2.1 h2.2.1 k
 ·cases h1
end
attribute [go_sem] zy3 blK apKs
end Go.Proofs.YtnkagnjiljjpcaaGreat
namespace Go.Proofs.YtnkagnjiljjpcaaGreat
set_option linter.unusedSimpArgs false
set_option linter.unusedVariables false
set_option linter.unusedSectionVars false
set_option maxRecDepth 4000
open Go.RowKit
variable {P : Program}
def PX (P : Program) (rs : List ResultVar) (res : List D) (σ : St) : Prop := ∃ pl, zap (zbs P σ rs) fun vs => gvA σ (fun _ => True) [] pl vs (res.map fun d => (true, d))
def PS (P : Program) (rs : List ResultVar) (res : List D) (e : Exit) (σ : St) : Prop := match e with
 | .normal => PF P rs res .normal σ \/ PX P rs res σ
 | .ret => PF P rs res .ret σ \/ PX P rs res σ
 | _ => False
theorem zfs {w : World} {A : Nat -> Prop} : ∀ {res : List D} {vs : List Value} {fp tp : List Nat}, za2 w A (res.map fun d => (true, d)) vs fp tp -> GDs w res vs fp tp
 | [], _, _, _, h => h
 | d :: ds, _, _, _, h => by
  obtain ⟨v, vs', f1, f2, t1, t2, rfl, rfl, rfl, h1, h2⟩ := h
  exact ⟨v, vs', f1, f2, t1, t2, rfl, rfl, rfl, h1, zfs h2⟩
theorem px_own {n0 : Nat -> Prop} {N : Nat} {σ : St} {g : Gh} {a : Act} {w : World} (hR : Rel n0 N σ g a w) {vs : List V} {res : List D} {pl : List (Nat × Nat × Nat)} (h : gvA σ (fun _ => True) [] pl vs (res.map fun d => (true, d))) {us : List Value} (hv : VRl σ g w vs us) :
  ∃ fp tp, GDs w res us fp tp /\ fp.Nodup /\ ∀ b ∈ fp, ∃ e, σ.On e /\ b ∈ g.φ e := by
 obtain ⟨B, hB⟩ := hR.fam
 obtain ⟨s, k1, k2, k3, k4⟩ := zdp hR hB h hv
 rw [List.append_nil] at k4
 have hsp : s.Pairwise okP := (List.pairwise_reverse.1 (k4 List.Pairwise.nil)).imp fun h => h.symm
 obtain ⟨tp, k2⟩ := k2 [] (by simp)
 refine ⟨_, tp, zfs k2, zgw hR hB k3 hsp, fun b hb => ?_⟩
 obtain ⟨x, hx, hm⟩ := List.mem_flatMap.1 hb
 exact ⟨x.1, k3 x hx, hB.sub x.1 x.2 b (k3 x hx) hm⟩
theorem qbi {f : FuncId} {fn : Func} {c : Code} {args : List (Bool × D)} {res : List D} (hc : zbe P f) (hf : P.funcs[f]? = some fn) (hb : fn.body = some c) (hd : zc8 fn.ntmps c = true) (hN : args.length <= fn.ntmps) (hs : zci args)
  (h : ∀ (w : World) (vs : List Value) (fp tp : List Nat), za2 w (fun b => b < w.heap.size /\ b ∉ fp) args vs fp tp -> ∀ (g : Gh) (a : Act), Rel (fun b => b < w.heap.size /\ b ∉ fp) fn.ntmps (zdt args) g a w -> (a.tmps = (⟨vs⟩ : Array Value) ++ Array.replicate (fn.ntmps - vs.length) undef /\ (g.A0, g.R0) = ((fun _ => True), RP.of fun b => b ∈ fp \/ w.heap.size <= b)) →
   ∃ σ0, ex P c [] (PS P fn.results.toList res) σ0 /\ Rel (fun b => b < w.heap.size /\ b ∉ fp) fn.ntmps σ0 g a w) : GC P f args res := by
 refine ⟨hc, fun w vs fp tp hv hn => ?_⟩
 refine calls_of_wp hf hb ?_
 have hv' : za2 w (fun b => b < w.heap.size /\ True /\ b ∉ fp) args vs fp tp := za2.keepA (fun b hb => ⟨hb.1, trivial, hb.2⟩) hv
 obtain ⟨g, hg, hR⟩ := Rel.start (A0 := fun _ => True) (R0 := RP.of fun b => b ∈ fp \/ w.heap.size <= b) (N := fn.ntmps) hv' hn hs hN (fun _ _ => trivial) (fun b hb => ⟨trivial, Or.inl hb⟩) (fun b hb => ⟨trivial, by
  by_cases hlt : b < w.heap.size
  ·exact Or.inl (Classical.byContradiction fun h => hb ⟨hlt, h⟩)
  ·exact Or.inr (by omega)⟩)
 obtain ⟨σ0, hex, hR0⟩ := h w vs fp tp hv g _ hR ⟨rfl, hg⟩
 refine wp_mono (zbh (w0 := w) c σ0 _ hd hex g _ w hR0 (fun k hk => hk.1) (Bk.refl _ _) hg) fun e a' w' hq => ?_
 obtain ⟨σ', g', h1, h2, h3, h4, h5⟩ := hq
 have fin : ∀ {us : List Value} {v : Value}, (results fn a'.tmps).run P w' = .ok v w' -> v = zch us -> (∃ fp' tp', GDs w' res us fp' tp' /\ fp'.Nodup /\ ∀ b ∈ fp', ∃ e, σ'.On e /\ b ∈ g'.φ e) -> ∃ v, (results fn a'.tmps).run P w' = .ok v w' /\ ∃ us fp' tp', Ending.returned v = .returned (zch us) /\ GDs w' res us fp' tp' /\ fp'.Nodup /\ (∀ b ∈ fp', b ∈ fp \/ w.heap.size <= b) /\ Bk (fun k => k < w.heap.size /\ k ∉ fp) w w' := fun {us v} r1 rv ⟨fp', tp', o1, o2, o3⟩ => by
  refine ⟨_, r1, us, fp', tp', by rw [rv], o1, o2, fun b hb => ?_, h4⟩
  obtain ⟨e, l, m⟩ := o3 b hb
  have := (h2.ebase e l b m).2
  rw [(Prod.mk.inj h5).2] at this
  exact this
 have key : (zap (zbs P σ' fn.results.toList) (fun vs => zu3 σ' [] vs res) \/ PX P fn.results.toList res σ') -> ∃ v, (results fn a'.tmps).run P w' = .ok v w' /\ ∃ us fp' tp', Ending.returned v = .returned (zch us) /\ GDs w' res us fp' tp' /\ fp'.Nodup /\ (∀ b ∈ fp', b ∈ fp \/ w.heap.size <= b) /\ Bk (fun k => k < w.heap.size /\ k ∉ fp) w w' := fun hk => by
  rcases hk with hk | ⟨pl, hk⟩
  ·obtain ⟨vs, hvs, hk⟩ := zao hk
   obtain ⟨us, r1, r2⟩ := zce h2 fn hvs
   obtain ⟨used, fp', tp', o1, o2⟩ := zct h2 hk r2
   exact fin r1 rfl ⟨fp', tp', o1, o2.1, fun b hb => by obtain ⟨e, _, _, l, m⟩ := o2.2.1 b hb; exact ⟨e, l, m⟩⟩
  ·obtain ⟨vs, hvs, hk⟩ := zao hk
   obtain ⟨us, r1, r2⟩ := zce h2 fn hvs
   exact fin r1 rfl (px_own h2 hk r2)
 cases e with
 | normal => exact ⟨h2.defers, key h1⟩
 | ret => exact ⟨h2.defers, key h1⟩
 | exit _ => exact h1.elim
 | goto _ => exact h1.elim
 | panic _ => exact h1.elim
 | outgrown => exact h1.elim
theorem zyy (p : Prop) : (True \/ p) = True := by simp
attribute [go_sem] Bool.false_and Bool.and_false Bool.and_self
attribute [go_sem] PS zyy
section
variable (A B : List (List T)) (r : List T)
theorem zx4 {k : Nat} (h : A.length = k) : (A ++ r :: B).getD k [] = r := by subst h; simp
theorem qdj {k : Nat} (h : A.length = k) : (A ++ r :: B)[k]? = some r := by subst h; simp
theorem zt4 {k : Nat} (h : A.length = k) (o : Nat) (ts : List T) : zc3 (A ++ r :: B) k o ts = A ++ setR r o ts :: B := by subst h; simp [zc3]
theorem znn {k : Nat} (h : A.length = k) (j : Nat) (t : T) : setCell (A ++ r :: B) k j t = A ++ r.set j t :: B := by subst h; simp [setCell]
end
theorem zrm (vs : Nat -> Nat -> Value) (i : Nat) (r : List T) (rs : List (List T)) : zde vs i (r :: rs) = zxt (vs i) 0 r :: zde vs (i + 1) rs := rfl
theorem zwh (us : Nat -> Value) (j : Nat) (c : T) (cs : List T) : zxt us j (c :: cs) = qb1 (us j) c :: zxt us (j + 1) cs := rfl
theorem zzt (us : Nat -> Value) (j : Nat) : zxt us j [] = [] := rfl
theorem qec (v : Value) (sz : Nat) (rows : List (List T)) : qb1 v (.sl sz rows) = .pin v (.sl sz rows) := rfl
theorem zys (v : Value) (k : IntKind) (n : Int) : qb1 v (.int k n) = .int k n := rfl
theorem zst (v : Value) (b : Bool) : qb1 v (.bool b) = .bool b := rfl
theorem zx9 (v : Value) (s : List UInt8) : qb1 v (.str s) = .str s := rfl
theorem zuj (vs : Nat -> Nat -> Value) (i : Nat) : zde vs i [] = [] := rfl
theorem znb (n m : Nat) : (n < n + (m + 1)) = True := by simp
attribute [go_sem] PI znb zuj zrm zwh zzt qec zys zst zx9 zeo List.length_append qdj zx4 zt4 znn
theorem qcy (n : Nat) : ((n : Int) < 0) = False := by simp
attribute [go_sem] qcy List.set_cons_succ List.set_cons_zero
end Go.Proofs.YtnkagnjiljjpcaaGreat
namespace Go.Proofs.YtnkagnjiljjpcaaGreat
set_option linter.unusedSimpArgs false
set_option linter.unusedVariables false
set_option linter.unusedSectionVars false
set_option maxRecDepth 4000
open Go.RowKit
variable {P : Program}
def D.toN : D -> V
 | .one t => .one t.toN
 | .agg ts => .agg (ts.map T.toN)
def zfu : Nat -> List D -> Nat -> V
 | _, [] => fun _ => .one .any
 | k, d :: ds => upd (zfu (k + 1) ds) k d.toN
def zka (args : List D) : St := ⟨zfu 0 args, fun _ => none, fun _ => none⟩
theorem zls : ∀ (ds : List D) (k i : Nat), zfu k ds (k + i) = match ds[i]? with | some d => d.toN | none => .one .any
 | [], k, i => by simp [zfu]
 | d :: ds, k, 0 => by simp [zfu, upd]
 | d :: ds, k, i + 1 => by
  unfold zfu
  rw [zal _ _ (by omega), show k + (i + 1) = k + 1 + i by omega, zls ds (k + 1) i]
  simp
theorem qb4 {σ : St} {g : Gh} {w : World} {A : Nat -> Prop} (hA : ∀ b, A b -> zcg σ g w b) {x : T} {v : Value} (h : zak w A x v) : CR σ g w x.toN v := by
 cases x <;> first | exact zak.keep (fun _ _ => rfl) (fun b hb => (hA b hb).1) _ v h | exact zak.keep (fun _ _ => rfl) hA _ v h
theorem zu1 {σ : St} {g : Gh} {w : World} {A : Nat -> Prop} (hA : ∀ b, A b -> zcg σ g w b) : ∀ {ts : List T} {vs : List Value}, zac w A ts vs -> CRs σ g w (ts.map T.toN) vs
 | [], vs, h => by unfold zac at h; exact h
 | t :: ts, vs, h => by
  unfold zac at h
  obtain ⟨v, vs', rfl, h1, h2⟩ := h
  exact ⟨v, vs', rfl, qb4 hA h1, zu1 hA h2⟩
theorem zvh {σ : St} {g : Gh} {w : World} {A : Nat -> Prop} (hA : ∀ b, A b -> zcg σ g w b) {d : D} {v : Value} (h : zt3 w A d v) : VR σ g w d.toN v := by
 cases d with
 | one t => exact qb4 hA h
 | agg ts => obtain ⟨a, h0, h1⟩ := h; exact ⟨a, h0, zu1 hA h1⟩
theorem za5.at {w : World} {A : Nat -> Prop} : ∀ {ds : List D} {vs : List Value}, za5 w A ds vs -> ∀ (i : Nat) d, ds[i]? = some d -> ∃ v, vs[i]? = some v /\ zt3 w A d v
 | [], _, _, i, d, h => by simp at h
 | d0 :: ds, vs, h, 0, d, hi => by
  obtain ⟨v, vs', rfl, h1, h2⟩ := h
  simp only [List.getElem?_cons_zero, Option.some.injEq] at hi
  subst hi; exact ⟨v, rfl, h1⟩
 | d0 :: ds, vs, h, i + 1, d, hi => by
  obtain ⟨v, vs', rfl, h1, h2⟩ := h
  simpa using za5.at h2 i d (by simpa using hi)
theorem zd6 {w : World} {A : Nat -> Prop} : ∀ {ds : List D} {vs : List Value} {fp tp : List Nat}, za2 w A (rd ds) vs fp tp -> za5 w A ds vs /\ fp = [] /\ tp = []
 | [], _, _, _, h => ⟨h.1, h.2.1, h.2.2⟩
 | d :: ds, _, _, _, h => by
  obtain ⟨v, vs', rfl, h1, h2⟩ := h
  obtain ⟨k1, k2, k3⟩ := zd6 h2
  exact ⟨⟨v, vs', rfl, h1, k1⟩, k2, k3⟩
theorem zup {args : List D} {w : World} {vs : List Value} {N : Nat} {g : Gh} {a : Act} (hr : za5 w (fun b => b < w.heap.size /\ b ∉ ([] : List Nat)) args vs) (hR : Rel (fun b => b < w.heap.size /\ b ∉ ([] : List Nat)) N (zdt (rd args)) g a w)
  (hg : a.tmps = (⟨vs⟩ : Array Value) ++ Array.replicate (N - vs.length) undef /\ (g.A0, g.R0) = ((fun _ => True), RP.of fun b => b ∈ ([] : List Nat) \/ w.heap.size <= b)) : Rel (fun b => b < w.heap.size /\ b ∉ ([] : List Nat)) N (zka args) g a w := by
 have hbx : ∀ (ds : List D) (k : Nat), zfa k (rd ds) = fun _ => none := fun ds => by
  induction ds with
  | nil => intro k; rfl
  | cons d ds ih => intro k; exact ih (k + 1)
 have hG : ∀ b, (b < w.heap.size /\ b ∉ ([] : List Nat)) -> zcg (zka args) g w b := fun b hb => by
  refine ⟨⟨fun k hk => absurd rfl hk, fun e x he _ => (by cases he), hb.1, by rw [(Prod.mk.inj hg.2).1]; trivial⟩, ?_⟩
  rintro e ⟨x, hx, _⟩
  cases hx
 refine hR.slots_of (σ' := zka args) rfl ?_ hR.defers hR.size fun i => ?_
 ·show (fun _ => none) = zfa 0 (rd args)
  rw [hbx]
 ·have hm : Mv (zka args) (zka args) g g w w := Mv.of_eq g w rfl rfl
  show VR (zdt (rd args)) g w (zfu 0 args i) _
  have hi := zls args 0 i
  rw [Nat.zero_add] at hi
  rw [hi]
  cases hd : args[i]? with
  | none => trivial
  | some d =>
   obtain ⟨v, hv1, hv2⟩ := za5.at hr i d hd
   have hlt : i < vs.length := (List.getElem?_eq_some_iff.1 hv1).1
   have e : a.tmps.getD i (g.R0.ξ i) = v := by
    rw [hg.1]
    rw [Array.getD_eq_getD_getElem?, Array.getElem?_append_left (by simpa using hlt)]
    simp [hv1]
   rw [e]
   have hx := zvh hG hv2
   exact (Mv.of_eq (σ := zka args) (σ' := zdt (rd args)) g w rfl (by show zfa 0 (rd args) = fun _ => none; rw [hbx])).vr hx
theorem zig {f : FuncId} {fn : Func} {c : Code} {args res : List D} (hc : zbe P f) (hf : P.funcs[f]? = some fn) (hb : fn.body = some c) (hd : zc8 fn.ntmps c = true) (hN : (rd args).length <= fn.ntmps)
  (h : ex P c [] (PS P fn.results.toList res) (zka args)) : FC P f args res := by
 refine qbi hc hf hb hd hN (zcy args) fun w vs fp tp hv g a hR hg => ?_
 obtain ⟨hr, rfl, rfl⟩ := zd6 hv
 exact ⟨zka args, h, zup hr hR hg⟩
attribute [go_sem] zka zfu D.toN T.toN
end Go.Proofs.YtnkagnjiljjpcaaGreat
namespace Go.Proofs.YtnkagnjiljjpcaaGreat
set_option linter.unusedSimpArgs false
set_option linter.unusedVariables false
set_option linter.unusedSectionVars false
set_option maxRecDepth 4000
open Go.RowKit
variable {P : Program}
theorem owK_rn (t : T) (A B : Prop) : owK (.one (.rn t)) A B = B := by simp [owK, isOw]
attribute [go_sem] owK_rn
end Go.Proofs.YtnkagnjiljjpcaaGreat
namespace Go.Proofs.YtnkagnjiljjpcaaGreat
set_option linter.unusedSimpArgs false
set_option linter.unusedVariables false
set_option linter.unusedSectionVars false
set_option maxRecDepth 4000
open Go.RowKit
variable {P : Program}
def swp (a b e : Nat) : Nat := if e = a then b else if e = b then a else e
theorem zb5 (a b e : Nat) : swp a b (swp a b e) = e := by unfold swp; split <;> (try split) <;> (try split) <;> omega
def C.ren (a b : Nat) : C -> C
 | .ow e g => .ow (swp a b e) g
 | .eo e g sz i o => .eo (swp a b e) g sz i o
 | c => c
def V.ren (a b : Nat) : V -> V
 | .one c => .one (c.ren a b)
 | .agg cs => .agg (cs.map (C.ren a b))
 | .tup xs => .tup (xs.map fun x => (x.1, x.2.map (C.ren a b)))
def St.ren (σ : St) (a b : Nat) : St := ⟨fun i => (σ.sl i).ren a b, fun k => (σ.bx k).map (·.map (C.ren a b)), fun e => σ.ev (swp a b e)⟩
def Gh.ren (g : Gh) (a b : Nat) : Gh := { g with ψ := fun e => g.ψ (swp a b e), φ := fun e => g.φ (swp a b e) }
theorem zft {σ : St} {a b k : Nat} : (σ.ren a b).bx k ≠ none ↔ σ.bx k ≠ none := by unfold St.ren; simp
theorem zvk {σ : St} {a b e n : Nat} (h : σ.has e n) : (σ.ren a b).has (swp a b e) n := by
 obtain ⟨x, h1, h2⟩ := h
 exact ⟨x, by show σ.ev (swp a b (swp a b e)) = _; rw [zb5]; exact h1, h2⟩
theorem zom {σ : St} {g : Gh} {w : World} {a b : Nat} : Fix (σ.ren a b) (g.ren a b) w = Fix σ g w := by
 funext q
 refine propext ⟨fun h => ⟨fun k hk => h.1 k (zft.2 hk), fun e x he ho => ?_, h.2.2⟩, fun h => ⟨fun k hk => h.1 k (zft.1 hk), fun e x he ho => h.2.1 (swp a b e) x he ho, h.2.2⟩⟩
 have := h.2.1 (swp a b e) x (by show σ.ev (swp a b (swp a b e)) = _; rw [zb5]; exact he) ho
 have e2 : (g.ren a b).φ (swp a b e) = g.φ e := by show g.φ (swp a b (swp a b e)) = _; rw [zb5]
 rwa [e2] at this
theorem zwu {σ : St} {g : Gh} {w : World} {a b : Nat} : zcg (σ.ren a b) (g.ren a b) w = zcg σ g w := by
 funext q
 unfold zcg
 rw [zom]
 refine propext ⟨fun h => ⟨h.1, fun e ho hm => h.2 (swp a b e) ?_ ?_⟩, fun h => ⟨h.1, fun e ho hm => h.2 (swp a b e) ho hm⟩⟩
 ·show σ.On (swp a b (swp a b e)); rw [zb5]; exact ho
 ·show q ∈ g.φ (swp a b (swp a b e)); rw [zb5]; exact hm
theorem zu2 {σ : St} {g : Gh} {w : World} {a b : Nat} {c : C} {v : Value} (h : CR σ g w c v) : CR (σ.ren a b) (g.ren a b) w (c.ren a b) v := by
 have hF := zom (σ := σ) (g := g) (w := w) (a := a) (b := b)
 have hψ : ∀ e, (g.ren a b).ψ (swp a b e) = g.ψ e := fun e => by show g.ψ (swp a b (swp a b e)) = _; rw [zb5]
 cases c with
 | t x => show zak _ _ _ _; rw [hF]; exact h
 | nl s => exact h
 | ow e n => exact ⟨by show v = (g.ren a b).ψ (swp a b e) n; rw [hψ]; exact h.1, zvk h.2⟩
 | bx q o => exact ⟨h.1, zft.2 h.2⟩
 | el cs o => obtain ⟨q, r, h1, h2, h3⟩ := h; exact ⟨q, r, h1, by rw [hF]; exact h2, by rw [hF]; exact h3⟩
 | eo e s sz i o => obtain ⟨q, n, c, h1, h2, h3, h4⟩ := h; exact ⟨q, n, c, by rw [hψ]; exact h1, h2, h3, zvk h4⟩
 | fn f caps => exact ⟨h.1, fun q hq => zft.2 (h.2 q hq)⟩
 | cv u => exact h
 | any => trivial
 | rn x => show zak _ _ _ _; rw [zwu]; exact h
 | er cs o => obtain ⟨q, r, h1, h2, h3⟩ := h; exact ⟨q, r, h1, by rw [zwu]; exact h2, by rw [zwu]; exact h3⟩
theorem zj2 {σ : St} {g : Gh} {w : World} {a b : Nat} : ∀ {cs : List C} {vs : List Value}, CRs σ g w cs vs -> CRs (σ.ren a b) (g.ren a b) w (cs.map (C.ren a b)) vs
 | [], _, h => h
 | c :: cs, _, h => by obtain ⟨v, vs', rfl, h1, h2⟩ := h; exact ⟨v, vs', rfl, zu2 h1, zj2 h2⟩
theorem zve {σ : St} {g : Gh} {w : World} {a b : Nat} : ∀ {xs : List (Bool × List C)} {vs : List Value}, CRt σ g w xs vs -> CRt (σ.ren a b) (g.ren a b) w (xs.map fun x => (x.1, x.2.map (C.ren a b))) vs
 | [], _, h => h
 | x :: xs, _, h => by
  obtain ⟨v, vs', rfl, h1, h2⟩ := h
  refine ⟨v, vs', rfl, ?_, zve h2⟩
  unfold CRx at h1 ⊢
  split at h1
  ·rw [if_pos ‹_›]; obtain ⟨q, h3, h4⟩ := h1; exact ⟨q, h3, zj2 h4⟩
  ·rw [if_neg ‹_›]; obtain ⟨c, h3, h4⟩ := h1; exact ⟨c.ren a b, by simp [h3], zu2 h4⟩
theorem vr_ren {σ : St} {g : Gh} {w : World} {a b : Nat} {x : V} {v : Value} (h : VR σ g w x v) : VR (σ.ren a b) (g.ren a b) w (x.ren a b) v := by
 cases x with
 | one c => exact zu2 h
 | agg cs => obtain ⟨q, h1, h2⟩ := h; exact ⟨q, h1, zj2 h2⟩
 | tup xs => obtain ⟨q, h1, h2⟩ := h; exact ⟨q, h1, zve h2⟩
theorem ziu {σ : St} {a b e : Nat} (h : (σ.ren a b).On e) : σ.On (swp a b e) := h
theorem Rel.ren {n0 : Nat -> Prop} {N : Nat} {σ : St} {g : Gh} {ac : Act} {w : World} (h : Rel n0 N σ g ac w) (a b : Nat) : Rel n0 N (σ.ren a b) (g.ren a b) ac w := by
 have hF := zom (σ := σ) (g := g) (w := w) (a := a) (b := b)
 refine ⟨h.defers, h.size, h.anew, fun i => vr_ren (h.slots i), fun k cs hk => ?_, fun k hk => h.base k (zft.1 hk), fun k k' h1 h2 => h.inj k k' (zft.1 h1) (zft.1 h2), fun e x he ho => ?_, fun e x he ho => ?_, fun e n => h.slc (swp a b e) n, fun e he => h.ebase _ (ziu he), fun e he => h.etop _ (ziu he), fun e he => h.nodup _ (ziu he), fun e e' he he' hne => h.apart _ _ (ziu he) (ziu he') (fun k => hne (by rw [<- zb5 a b e, k, zb5])), fun e k he hk => h.ebx _ k (ziu he) (zft.1 hk)⟩
 ·obtain ⟨cs0, h1, rfl⟩ := Option.map_eq_some_iff.1 hk
  obtain ⟨vs, ty, k1, k2⟩ := h.boxes k cs0 h1
  exact ⟨vs, ty, k1, zj2 k2⟩
 ·rw [hF]; exact h.evs (swp a b e) x he ho
 ·rw [hF]; exact h.offs (swp a b e) x he ho
theorem zqe (a b : Nat) : ∀ (l : List (Nat × V)) (i : Nat), (zg4 l i).ren a b = zg4 (l.map fun p => (p.1, p.2.ren a b)) i
 | [], i => rfl
 | (j, v) :: l, i => by
  simp only [List.map_cons, zg4]
  split
  ·rfl
  ·exact zqe a b l i
theorem zvf {α β : Type} (f : α -> β) : ∀ (l : List (Nat × α)) (i : Nat), (tbl l i).map f = tbl (l.map fun p => (p.1, f p.2)) i
 | [], i => rfl
 | (j, v) :: l, i => by
  simp only [List.map_cons, tbl]
  split
  ·rfl
  ·exact zvf f l i
theorem zw3 {α : Type} (a b : Nat) : ∀ (l : List (Nat × α)) (i : Nat), tbl l (swp a b i) = tbl (l.map fun p => (swp a b p.1, p.2)) i
 | [], i => rfl
 | (j, v) :: l, i => by
  simp only [List.map_cons, tbl]
  by_cases h : swp a b i = j
  ·rw [if_pos h, if_pos (by rw [<- h, zb5])]
  ·rw [if_neg h, if_neg (fun e => h (by rw [e, zb5]))]
   exact zw3 a b l i
theorem wk_ren (a b : Nat) (l : List (Nat × V)) (bl : List (Nat × List C)) (el : List (Nat × Ev)) : Wk (hd l bl el) (hd (l.map fun p => (p.1, p.2.ren a b)) (bl.map fun p => (p.1, p.2.map (C.ren a b))) (el.map fun p => (swp a b p.1, p.2))) := fun n0 N g ac w hR => by
 have e : (hd l bl el).ren a b = hd (l.map fun p => (p.1, p.2.ren a b)) (bl.map fun p => (p.1, p.2.map (C.ren a b))) (el.map fun p => (swp a b p.1, p.2)) := by
  unfold hd St.ren
  simp only [St.mk.injEq]
  exact ⟨funext fun i => zqe a b l i, funext fun k => zvf _ bl k, funext fun e => zw3 a b el e⟩
 exact ⟨g.ren a b, e ▸ hR.ren a b, rfl, rfl⟩
end Go.Proofs.YtnkagnjiljjpcaaGreat
namespace Go.Proofs.YtnkagnjiljjpcaaGreat
set_option linter.unusedSimpArgs false
set_option linter.unusedVariables false
set_option linter.unusedSectionVars false
set_option maxRecDepth 4000
open Go.RowKit
variable {P : Program}
def C.evs : C -> List Nat
 | .ow e _ => [e]
 | .eo e _ _ _ _ => [e]
 | _ => []
def C.bxs : C -> List Nat
 | .bx b _ => [b]
 | .fn _ caps => caps
 | _ => []
def V.alls : V -> List C
 | .one c => [c]
 | .agg cs => cs
 | .tup xs => xs.flatMap (·.2)
def ins (x : Nat) : List Nat -> List Nat
 | [] => [x]
 | y :: l => if x = y then y :: l else y :: ins x l
def zie : List Nat -> List Nat -> List Nat
 | [], l => l
 | x :: xs, l => zie xs (ins x l)
def noK (x : Nat) : List Nat -> Bool
 | [] => true
 | y :: l => if x = y then false else noK x l
def dif (l : List Nat) : List Nat -> List Nat
 | [] => []
 | x :: xs => if noK x l = true then x :: dif l xs else dif l xs
def zz4 : List C -> List Nat
 | [] => []
 | c :: cs => c.bxs ++ zz4 cs
def qar : List C -> List Nat
 | [] => []
 | c :: cs => c.evs ++ qar cs
def St.kb0 (σ : St) : List Nat -> List Nat
 | [] => []
 | i :: L => zie (zz4 (σ.sl i).alls) (σ.kb0 L)
def St.kb1 (σ : St) : List Nat -> List Nat
 | [] => []
 | b :: B => zie (b :: zz4 ((σ.bx b).getD [])) (σ.kb1 B)
def St.KB (σ : St) (L : List Nat) : List Nat := σ.kb1 (σ.kb0 L)
def St.ke0 (σ : St) : List Nat -> List Nat
 | [] => []
 | i :: L => zie (qar (σ.sl i).alls) (σ.ke0 L)
def St.ke1 (σ : St) (l : List Nat) : List Nat -> List Nat
 | [] => l
 | b :: B => zie (qar ((σ.bx b).getD [])) (σ.ke1 l B)
def St.KE (σ : St) (L : List Nat) : List Nat := σ.ke1 (σ.ke0 L) (σ.KB L)
def St.lL (σ : St) (L : List Nat) : List (Nat × V) := L.map fun i => (i, σ.sl i)
def St.lB (σ : St) (B : List Nat) : List (Nat × List C) := B.map fun b => (b, (σ.bx b).getD [])
def St.lE (σ : St) (E : List Nat) : List (Nat × Ev) := E.map fun e => (e, (σ.ev e).getD ⟨false, 0, [], 0, false⟩)
def St.hL (σ : St) (L : List Nat) : St := hd (σ.lL L) (σ.lB (σ.KB L)) (σ.lE (σ.KE L))
def wkK (σ : St) (L : List Nat) : Prop := wkL σ (σ.hL L) (σ.lL L) /\ wkB σ (σ.hL L) (σ.lB (σ.KB L)) /\ wkE σ (σ.lE (σ.KE L))
section
variable {ks : List Fr} {Q : Exit -> St -> Prop} {σ : St} {ops : Array Oper} {os : List Oper} {ty : TypeId} {ps : String} {af : Array Edge} {dst : Option Nat} {x : Operand} {asx : Array Operand} {ts : Array TypeId} {f : FuncId}
theorem zm0 {pre : List D} {d : D} {post : List D} {d' : D} {res : List D} (L : List Nat) (h : IC P f pre d post d' res) (hw : wkK σ L)
  (hd1 : ((σ.lL L).all fun p => p.2.mOk) = true) (hd2 : ((σ.lB (σ.KB L)).all fun p => p.2.all C.mOk) = true) (hd3 : ((σ.lE (σ.KE L)).all fun p => p.2.on && p.2.deep) = true)
  (hp : zap (zav ((σ.hL L).get P 0 x)) fun p => p.1 = f /\ spI ((σ.hL L).gets P asx ts ++ p.2) pre.length fun p1 gv p2 => zqw p1 pre /\ zqw p2 post /\ inG (σ.hL L) gv d d') (hr : res.all D.fl = true)
  (k : exo P ops os ks Q ((σ.hL L).cI P x asx ts pre.length dst d' res)) : exo P ops (⟨dst, .call ⟨.value x, asx, ts⟩, ty, ps, af, none⟩ :: os) ks Q σ :=
 callId h hw hd1 hd2 hd3 hp hr k
theorem zhl {d : Nat} {ds : List (Bool × D)} {res : List D} (L A : List Nat) (pl : List (Nat × Nat × Nat)) (h : GC P f ds res)
  (hw : wkL σ (hd (σ.lL A ++ σ.lL L) (σ.lB (dif (σ.KB L) (σ.KB A)) ++ σ.lB (σ.KB L)) (σ.lE (dif (σ.KE L) (σ.KE A)) ++ σ.lE (σ.KE L))) (σ.lL A ++ σ.lL L) /\ wkB σ (hd (σ.lL A ++ σ.lL L) (σ.lB (dif (σ.KB L) (σ.KB A)) ++ σ.lB (σ.KB L)) (σ.lE (dif (σ.KE L) (σ.KE A)) ++ σ.lE (σ.KE L))) (σ.lB (dif (σ.KB L) (σ.KB A)) ++ σ.lB (σ.KB L)) /\ wkE σ (σ.lE (dif (σ.KE L) (σ.KE A)) ++ σ.lE (σ.KE L)))
  (hk : zeb (σ.lL L) (σ.lL A) /\ zeb (σ.lB (σ.KB L)) (σ.lB (dif (σ.KB L) (σ.KB A))) /\ zeb (σ.lE (σ.KE L)) (σ.lE (dif (σ.KE L) (σ.KE A))) /\ okL (σ.hL L) (σ.lL L) /\ okB (σ.hL L) (σ.lB (σ.KB L)) /\ okE (σ.lE (σ.KE L)))
  (hp : zap (zav ((hd (σ.lL A ++ σ.lL L) (σ.lB (dif (σ.KB L) (σ.KB A)) ++ σ.lB (σ.KB L)) (σ.lE (dif (σ.KE L) (σ.KE A)) ++ σ.lE (σ.KE L))).get P 0 x)) fun p => p.1 = f /\ gvA (hd (σ.lL A ++ σ.lL L) (σ.lB (dif (σ.KB L) (σ.KB A)) ++ σ.lB (σ.KB L)) (σ.lE (dif (σ.KE L) (σ.KE A)) ++ σ.lE (σ.KE L))) (zwb (σ.lE (σ.KE L))) [] pl ((hd (σ.lL A ++ σ.lL L) (σ.lB (dif (σ.KB L) (σ.KB A)) ++ σ.lB (σ.KB L)) (σ.lE (dif (σ.KE L) (σ.KE A)) ++ σ.lE (σ.KE L))).gets P asx ts ++ p.2) ds)
  (hf : zey d 0 (zaw res) (σ.hL L).ev) (k : exo P ops os ks Q ((σ.hL L).callF d res)) : exo P ops (⟨some d, .call ⟨.value x, asx, ts⟩, ty, ps, af, none⟩ :: os) ks Q σ :=
 callG (σ.lL A) (σ.lL L) _ _ _ _ pl h hw hk hp hf k
theorem qd0 {σ : St} {g : Gh} {w : World} {d : D} {v : Value} (h : zt3 w (zcg σ g w) d v) : VR σ g w d.toN v := zvh (fun _ h => h) h
theorem za5.vrlN {σ : St} {g : Gh} {w : World} : ∀ {ds : List D} {us : List Value}, za5 w (zcg σ g w) ds us -> VRl σ g w (ds.map D.toN) us
 | [], us, h => h
 | d :: ds, us, h => by
  obtain ⟨u, us', rfl, h1, h2⟩ := h
  exact ⟨u, us', rfl, qd0 h1, za5.vrlN h2⟩
theorem zar.lt {w : World} : ∀ {cs : List T} {vs : List Value} {fps : List Nat}, zar w cs vs fps -> ∀ b ∈ fps, b < w.heap.size
 | [], _, _, h, b, hb => by rw [h.2] at hb; simp at hb
 | c :: cs, _, _, h, b, hb => by
  obtain ⟨v, vs', f1, f2, rfl, rfl, h1, h2⟩ := h
  rcases List.mem_append.1 hb with hb | hb
  ·exact zas.lt c v f1 h1 b hb
  ·exact zar.lt h2 b hb
theorem Rel.frNew {n0 : Nat -> Prop} {N : Nat} {σ : St} {g : Gh} {a : Act} {w w' : World} (hR : Rel n0 N σ g a w) (hn : LtK n0 w) {b : Nat} (h1 : w.heap.size <= b) (h2 : b < w'.heap.size) : zcg σ g w' b := by
 refine ⟨⟨fun k hk e => by have := hR.lt hk; omega, fun e x hx ho hh => ?_, h2, (hR.anew b (hn.new h1)).1⟩, fun e ⟨x, hx, ho⟩ hm => ?_⟩
 ·have := (hR.evs e x hx ho).lt b (List.mem_of_mem_head? hh); omega
 ·have := (hR.evs e x hx ho).lt b hm; omega
def St.callN (σ : St) (d : Option Nat) (res : List D) : St := σ.put d (zq9 (res.map D.toN))
theorem qdy (res : List D) : ∀ y ∈ res.map D.toN, y.isTup = false := fun y hy => by
 obtain ⟨d, _, rfl⟩ := List.mem_map.1 hy
 cases d <;> rfl
theorem qbu {g : Gh} {w : World} {c : C} {t : T} {v : Value} (h : rdC c t) (hv : CR σ g w c v) : zak w (zcg σ g w) t v := by
 unfold rdC at h
 split at h
 ·rename_i x
  obtain ⟨rfl, hn⟩ := h
  exact zhe (σ := σ) (g := g) (x := .one (.t x)) (d := .one x) ⟨rfl, hn⟩ hv _
 ·rename_i f f'
  subst h
  exact zhe (σ := σ) (g := g) (x := .one (.fn f [])) (d := .one (.fn f [])) rfl hv _
 ·subst h; exact hv
 ·obtain ⟨rfl, rfl⟩ := h
  obtain ⟨b, q, h1, h2, h3⟩ := hv
  unfold zak
  exact ⟨b, q, h1, h2, h3⟩
 ·subst h
  rw [show v = .slice none 0 0 from hv]
  unfold zak
  exact ⟨none, 0, rfl, by simp, by simp, Or.inl rfl⟩
 ·exact h.elim
theorem zwm {g : Gh} {w : World} : ∀ {cs : List C} {ts : List T} {vs : List Value}, rdCs cs ts -> CRs σ g w cs vs -> zac w (zcg σ g w) ts vs
 | [], [], vs, _, hv => by unfold zac; exact hv
 | [], _ :: _, _, h, _ => h.elim
 | _ :: _, [], _, h, _ => h.elim
 | c :: cs, t :: ts, vs, h, hv => by
  obtain ⟨v, vs', rfl, h1, h2⟩ := hv
  unfold zac
  exact ⟨v, vs', rfl, qbu h.1 h1, zwm h.2 h2⟩
theorem rdV_fr {g : Gh} {w : World} {x : V} {d : D} {v : Value} (h : rdV x d) (hv : VR σ g w x v) : zt3 w (zcg σ g w) d v := by
 unfold rdV at h
 split at h
 ·exact qbu h hv
 ·obtain ⟨b, e, hv⟩ := hv; exact ⟨b, e, zwm h hv⟩
 ·exact h.elim
def qbl : List V -> List D -> Prop
 | [], ds => ds = []
 | v :: vs, ds => ∃ d ds', ds = d :: ds' /\ rdV v d /\ qbl vs ds'
theorem zv0 (v : V) (vs : List V) (d : D) (ds : List D) : qbl (v :: vs) (d :: ds) = (rdV v d /\ qbl vs ds) := by
 refine propext ⟨fun ⟨_, _, e, h⟩ => ?_, fun h => ⟨d, ds, rfl, h⟩⟩
 cases e; exact h
theorem qad : qbl [] [] = True := by simp [qbl]
theorem zvo {g : Gh} {w : World} : ∀ {xs : List V} {ds : List D}, qbl xs ds -> ∀ {vs : List Value}, VRl σ g w xs vs -> za5 w (zcg σ g w) ds vs
 | [], ds, h, vs, hv => by rw [show ds = [] from h]; exact hv
 | x :: xs, ds, h, vs, hv => by
  obtain ⟨d, ds', rfl, h1, h2⟩ := h
  obtain ⟨v, vs', rfl, k1, k2⟩ := hv
  exact ⟨v, vs', rfl, rdV_fr h1 k1, zvo h2 k2⟩
theorem zr1 {o : Oper} {x : Operand} {asx : Array Operand} {ts : Array TypeId} {f : FuncId} {cvs : List V} {ds res : List D} (ho : o.op = .call ⟨.value x, asx, ts⟩)
  (h : RC P f ds res) (hc : zav (σ.get P 0 x) = some (f, cvs)) (hv : qbl (σ.gets P asx ts ++ cvs) ds) : zae P o σ (σ.callN o.dst res) := by
 intro n0 N g a w hR hn hdN
 obtain ⟨vs, h1, h2⟩ := zd1 hR ho hc h.1
 unfold Oper.wp
 rw [h1]
 have hargs := (zvo hv h2).keep (A' := fun b => b < w.heap.size /\ zcg σ g w b) (fun _ _ => rfl) fun b hb => ⟨hb.1.2.2.1, hb⟩
 refine (h.2 w vs (zcg σ g w) hargs).mono ?_
 rintro e w' ⟨us, rfl, o1, hb⟩
 have hR' : Rel n0 N σ g a w' := hR.after hn hb (New.refl σ g (w.heap.size <= ·) w' hR.slc)
 refine ⟨g, ?_, Bk.of_below hb hn, rfl, rfl⟩
 refine hR'.put o.dst (zez (za5.vrlN (o1.keep (fun _ _ => rfl) fun b hb' => ?_)) (qdy res)) hdN
 rcases hb'.2 with hf | hf
 ·exact ⟨⟨hf.1.1, hf.1.2.1, hb'.1, hf.1.2.2.2⟩, hf.2⟩
 ·exact hR.frNew hn hf hb'.1
theorem callRn {ds res : List D} (h : RC P f ds res) (hp : zap (zav (σ.get P 0 x)) fun p => p.1 = f /\ qbl (σ.gets P asx ts ++ p.2) ds)
  (k : exo P ops os ks Q (σ.callN dst res)) : exo P ops (⟨dst, .call ⟨.value x, asx, ts⟩, ty, ps, af, none⟩ :: os) ks Q σ := by
 obtain ⟨⟨f', cvs⟩, h1, rfl, h2⟩ := zao hp
 exact zcf rfl rfl (zr1 rfl h h1 h2) k
end
def gVN (k : Nat) : Bool × D -> V
 | (false, d) => d.toN
 | (true, d) => gV k (true, d)
def zfl : Nat -> List (Bool × D) -> Nat -> V
 | _, [] => fun _ => .one .any
 | k, d :: ds => upd (zfl (k + 1) ds) k (gVN k d)
def zfk (args : List (Bool × D)) : St := ⟨zfl 0 args, fun _ => none, zfa 0 args⟩
theorem zl8 : ∀ (ds : List (Bool × D)) (k i : Nat), zfl k ds (k + i) = match ds[i]? with | some d => gVN (k + i) d | none => .one .any
 | [], k, i => by simp [zfl]
 | d :: ds, k, 0 => by simp [zfl, upd]
 | d :: ds, k, i + 1 => by
  unfold zfl
  rw [zal _ _ (by omega), show k + (i + 1) = k + 1 + i by omega, zl8 ds (k + 1) i]
  simp
theorem za2.atR {w : World} {A : Nat -> Prop} : ∀ {ds : List (Bool × D)} {vs : List Value} {fp tp : List Nat}, za2 w A ds vs fp tp -> ∀ (i : Nat) d, ds[i]? = some (false, d) -> ∃ v, vs[i]? = some v /\ zt3 w A d v
 | [], _, _, _, _, i, d, h => by simp at h
 | (false, e) :: ds, _, _, _, h, 0, d, hi => by
  obtain ⟨v, vs', rfl, h1, _⟩ := h
  simp only [List.getElem?_cons_zero, Option.some.injEq, Prod.mk.injEq, true_and] at hi
  subst hi
  exact ⟨v, rfl, h1⟩
 | (true, e) :: ds, _, _, _, h, 0, d, hi => by simp at hi
 | (false, e) :: ds, _, _, _, h, i + 1, d, hi => by
  obtain ⟨v, vs', rfl, _, h2⟩ := h
  simpa using za2.atR h2 i d (by simpa using hi)
 | (true, e) :: ds, _, _, _, h, i + 1, d, hi => by
  obtain ⟨v, vs', f1, f2, t1, t2, rfl, rfl, rfl, _, h2⟩ := h
  simpa using za2.atR h2 i d (by simpa using hi)
theorem Rel.frOld {n0 : Nat -> Prop} {N : Nat} {σ : St} {g : Gh} {a : Act} {w : World} (h : Rel n0 N σ g a w) {b : Nat} (h1 : n0 b) (h2 : b < w.heap.size) (h3 : g.A0 b) : zcg σ g w b :=
 ⟨⟨fun k hk e => h.base k hk (e ▸ h1), fun e x hx ho hh => h.etop e ⟨x, hx, ho⟩ b (List.mem_of_mem_head? hh) h1, h2, h3⟩, fun e ho hm => h.etop e ho b hm h1⟩
theorem zre {args : List (Bool × D)} {w : World} {vs : List Value} {fp tp : List Nat} {N : Nat} {g : Gh} {a : Act} (hv : za2 w (fun b => b < w.heap.size /\ b ∉ fp) args vs fp tp) (hR : Rel (fun b => b < w.heap.size /\ b ∉ fp) N (zdt args) g a w)
  (ht : a.tmps = (⟨vs⟩ : Array Value) ++ Array.replicate (N - vs.length) undef) (hA : ∀ b, g.A0 b) : Rel (fun b => b < w.heap.size /\ b ∉ fp) N (zfk args) g a w := by
 have hm : Mv (zdt args) (zfk args) g g w w := Mv.of_eq g w rfl rfl
 refine hR.slots_of (σ' := zfk args) rfl rfl hR.defers hR.size fun i => ?_
 refine (Mv.of_eq (σ := zfk args) (σ' := zdt args) g w rfl rfl).vr (σ := zfk args) ?_
 have hi := zl8 args 0 i
 rw [Nat.zero_add] at hi
 show VR _ _ _ (zfl 0 args i) _
 rw [hi]
 cases hd : args[i]? with
 | none => trivial
 | some p =>
  obtain ⟨b, d⟩ := p
  cases b with
  | true =>
   have h0 := hm.vr (hR.slots i)
   have hj := zjt args 0 i
   rw [Nat.zero_add, hd] at hj
   have h0' : VR (zfk args) g w (ze8 0 args i) (a.tmps.getD i (g.R0.ξ i)) := h0
   rw [hj] at h0'
   exact h0'
  | false =>
   obtain ⟨v, hv1, hv2⟩ := za2.atR hv i d hd
   have hlt : i < vs.length := (List.getElem?_eq_some_iff.1 hv1).1
   have e : a.tmps.getD i (g.R0.ξ i) = v := by
    rw [ht, Array.getD_eq_getD_getElem?, Array.getElem?_append_left (by simpa using hlt)]
    simp [hv1]
   rw [e]
   exact hm.vr (zvh (fun b hb => hR.frOld hb hb.1 (hA b)) hv2)
theorem zv6 {f : FuncId} {fn : Func} {c : Code} {args : List (Bool × D)} {res : List D} (hc : zbe P f) (hf : P.funcs[f]? = some fn) (hb : fn.body = some c) (hd : zc8 fn.ntmps c = true) (hN : args.length <= fn.ntmps) (hs : zci args)
  (h : ex P c [] (PS P fn.results.toList res) (zfk args)) : GC P f args res :=
 qbi hc hf hb hd hN hs fun w vs fp tp hv g a hR hg => ⟨_, h, zre hv hR hg.1 fun b => by rw [(Prod.mk.inj hg.2).1]; trivial⟩
def renL (a b : Nat) (l : List (Nat × V)) : List (Nat × V) := l.map fun p => (p.1, p.2.ren a b)
def renB (a b : Nat) (l : List (Nat × List C)) : List (Nat × List C) := l.map fun p => (p.1, p.2.map (C.ren a b))
def renE (a b : Nat) (l : List (Nat × Ev)) : List (Nat × Ev) := l.map fun p => (swp a b p.1, p.2)
theorem zpp (a b : Nat) (c : C) : (c.ren a b).ren a b = c := by cases c <;> simp [C.ren, zb5]
theorem zjw (a b : Nat) (cs : List C) : (cs.map (C.ren a b)).map (C.ren a b) = cs := by
 rw [List.map_map]; exact (List.map_congr_left fun c _ => zpp a b c).trans (List.map_id cs)
theorem qae (a b : Nat) (v : V) : (v.ren a b).ren a b = v := by
 cases v with
 | one c => simp [V.ren, zpp]
 | agg cs => simp only [V.ren, zjw]
 | tup xs =>
  simp only [V.ren, List.map_map]
  congr 1
  exact (List.map_congr_left fun x _ => by simp only [Function.comp, zjw]; rfl).trans (List.map_id xs)
theorem zco (a b : Nat) {σ : St} {l : List (Nat × V)} {bl : List (Nat × List C)} {el : List (Nat × Ev)} (h : wkL σ (hd (renL a b l) (renB a b bl) (renE a b el)) (renL a b l) /\ wkB σ (hd (renL a b l) (renB a b bl) (renE a b el)) (renB a b bl) /\ wkE σ (renE a b el)) : Wk σ (hd l bl el) := by
 have h1 := (zab h).trans (wk_ren a b _ _ _)
 have e1 : (renL a b l).map (fun p => (p.1, p.2.ren a b)) = l := by
  unfold renL; rw [List.map_map]; exact (List.map_congr_left fun p _ => by simp only [Function.comp, qae]; rfl).trans (List.map_id l)
 have e2 : (renB a b bl).map (fun p => (p.1, p.2.map (C.ren a b))) = bl := by
  unfold renB; rw [List.map_map]; exact (List.map_congr_left fun p _ => by simp only [Function.comp, zjw]; rfl).trans (List.map_id bl)
 have e3 : (renE a b el).map (fun p => (swp a b p.1, p.2)) = el := by
  unfold renE; rw [List.map_map]; exact (List.map_congr_left fun p _ => by simp only [Function.comp, zb5]; rfl).trans (List.map_id el)
 rw [e1, e2, e3] at h1
 exact h1
attribute [go_sem] C.evs C.bxs V.alls ins zie noK dif zz4 qar St.kb0 St.kb1 St.KB St.ke0 St.ke1 St.KE St.lL St.lB St.lE St.hL wkK St.callN qad zv0 gVN zfl zfk renL renB renE C.ren V.ren swp
end Go.Proofs.YtnkagnjiljjpcaaGreat
namespace Go.Proofs.YtnkagnjiljjpcaaGreat
set_option linter.unusedSimpArgs false
set_option linter.unusedVariables false
set_option linter.unusedSectionVars false
set_option maxRecDepth 4000
open Go.RowKit
variable {P : Program}
theorem za2.append {w : World} {A : Nat -> Prop} : ∀ {d1 d2 : List (Bool × D)} {v1 v2 : List Value} {f1 f2 t1 t2 : List Nat}, za2 w A d1 v1 f1 t1 -> za2 w A d2 v2 f2 t2 -> za2 w A (d1 ++ d2) (v1 ++ v2) (f1 ++ f2) (t1 ++ t2)
 | [], _, _, _, _, _, _, _, h, k => by obtain ⟨rfl, rfl, rfl⟩ := h; exact k
 | (true, d) :: ds, _, _, _, _, _, _, _, h, k => by
  obtain ⟨v, vs', g1, g2, s1, s2, rfl, rfl, rfl, h1, h2⟩ := h
  exact ⟨v, _, g1, _, s1, _, rfl, by rw [List.append_assoc], by rw [List.append_assoc], h1, za2.append h2 k⟩
 | (false, d) :: ds, _, _, _, _, _, _, _, h, k => by
  obtain ⟨v, vs', rfl, h1, h2⟩ := h
  exact ⟨v, _, rfl, h1, za2.append h2 k⟩
def zq8 : List (Bool × D) -> List (Bool × T)
 | [] => []
 | (b, .one t) :: ds => (b, t) :: zq8 ds
 | (b, .agg ts) :: ds => ts.map (fun t => (b, t)) ++ zq8 ds
def bxA (box : List (Bool × T)) : List (Bool × D) := box.map fun p => (p.1, .one p.2)
theorem zsh.ones {w : World} {A : Nat -> Prop} : ∀ {ts : List T} {vs : List Value} {fp tp : List Nat}, zsh w ts vs fp tp -> za2 w A (bxA (ts.map fun t => (true, t))) vs fp tp
 | [], _, _, _, h => h
 | t :: ts, _, _, _, h => by
  obtain ⟨v, vs', f1, f2, t2, rfl, rfl, rfl, h1, h2⟩ := h
  exact ⟨v, vs', f1, f2, _, t2, rfl, rfl, rfl, ⟨h1, rfl⟩, zsh.ones h2⟩
theorem zac.ones {w : World} {A : Nat -> Prop} : ∀ {ts : List T} {vs : List Value}, zac w A ts vs -> za2 w A (bxA (ts.map fun t => (false, t))) vs [] []
 | [], _, h => by unfold zac at h; exact ⟨h, rfl, rfl⟩
 | t :: ts, _, h => by
  unfold zac at h
  obtain ⟨v, vs', rfl, h1, h2⟩ := h
  exact ⟨v, vs', rfl, h1, zac.ones h2⟩
theorem ziw (a b : List (Bool × T)) : bxA (a ++ b) = bxA a ++ bxA b := List.map_append
theorem zak.cells1 {w : World} {A : Nat -> Prop} {t : T} {v : Value} (h : zak w A t v) : v.cells = #[v] := (zak.one h).2
theorem za2.flat {w : World} {A : Nat -> Prop} : ∀ {ds : List (Bool × D)} {vs : List Value} {fp tp : List Nat}, za2 w A ds vs fp tp -> ∃ tp', za2 w A (bxA (zq8 ds)) (vs.flatMap fun u => u.cells.toList) fp tp'
 | [], _, _, _, h => by obtain ⟨rfl, rfl, rfl⟩ := h; exact ⟨[], rfl, rfl, rfl⟩
 | (true, .one t) :: ds, _, _, _, h => by
  obtain ⟨v, vs', f1, f2, t1, t2, rfl, rfl, rfl, h1, h2⟩ := h
  obtain ⟨tp', h2⟩ := za2.flat h2
  have e : (v :: vs').flatMap (fun u => u.cells.toList) = v :: vs'.flatMap fun u => u.cells.toList := by
   have h1' : zas w t v f1 := h1.1
   simp [h1'.one]
  exact ⟨t1 ++ tp', v, _, f1, f2, t1, tp', e, rfl, rfl, h1, h2⟩
 | (false, .one t) :: ds, _, _, _, h => by
  obtain ⟨v, vs', rfl, h1, h2⟩ := h
  obtain ⟨tp', h2⟩ := za2.flat h2
  have e : (v :: vs').flatMap (fun u => u.cells.toList) = v :: vs'.flatMap fun u => u.cells.toList := by
   have h1' : zak w A t v := h1
   simp [h1'.cells1]
  exact ⟨tp', v, _, e, h1, h2⟩
 | (true, .agg ts) :: ds, _, _, _, h => by
  obtain ⟨v, vs', f1, f2, t1, t2, rfl, rfl, rfl, ⟨a, rfl, h1⟩, h2⟩ := h
  obtain ⟨tp', h2⟩ := za2.flat h2
  refine ⟨t1 ++ tp', ?_⟩
  show za2 w A (bxA (ts.map (fun t => (true, t)) ++ zq8 ds)) (a ++ vs'.flatMap fun u => u.cells.toList) _ _
  rw [ziw]
  exact za2.append h1.ones h2
 | (false, .agg ts) :: ds, _, _, _, h => by
  obtain ⟨v, vs', rfl, ⟨a, rfl, h1⟩, h2⟩ := h
  obtain ⟨tp', h2⟩ := za2.flat h2
  refine ⟨[] ++ tp', ?_⟩
  show za2 w A (bxA (ts.map (fun t => (false, t)) ++ zq8 ds)) (a ++ vs'.flatMap fun u => u.cells.toList) _ _
  rw [ziw]
  exact za2.append h1.ones h2
attribute [go_sem] zq8 zyw qeb
end Go.Proofs.YtnkagnjiljjpcaaGreat
namespace Go.Proofs.YtnkagnjiljjpcaaGreat
set_option linter.unusedSimpArgs false
set_option linter.unusedVariables false
set_option linter.unusedSectionVars false
set_option maxRecDepth 4000
open Go.RowKit
variable {P : Program}
def C.fz (e : Nat) (x : Ev) : C -> C
 | .ow e' g => if e' = e then (if g = x.gen then .rn (.sl x.sz x.rows) else .any) else .ow e' g
 | .eo e' g sz i o => if e' = e then .any else .eo e' g sz i o
 | c => c
def fzS (f : Nat -> V) (e : Nat) (x : Ev) : Nat -> V := fun i => (f i).map (C.fz e x)
def fzB (f : Nat -> Option (List C)) (e : Nat) (x : Ev) : Nat -> Option (List C) := fun b => (f b).map fun cs => cs.map (C.fz e x)
def fzE (f : Nat -> Option Ev) (e : Nat) : Nat -> Option Ev := fun k => if k = e then none else f k
theorem fzS_at (f : Nat -> V) (e : Nat) (x : Ev) (i : Nat) : fzS f e x i = (f i).map (C.fz e x) := rfl
theorem zpe (f : Nat -> Option (List C)) (e : Nat) (x : Ev) (b : Nat) : fzB f e x b = (f b).map fun cs => cs.map (C.fz e x) := rfl
theorem fzE_at (f : Nat -> Option Ev) (e k : Nat) : fzE f e k = if k = e then none else f k := rfl
def St.fz (σ : St) (e : Nat) (x : Ev) : St := ⟨fzS σ.sl e x, fzB σ.bx e x, fzE σ.ev e⟩
theorem fz_wk {σ : St} {e : Nat} {x : Ev} (hx : σ.ev e = some x) (hd : x.deep = true) (ho : x.on = true) : Wk σ (σ.fz e x) := by
 intro n0 N g a w h
 have hev : ∀ e', e' ≠ e -> (σ.fz e x).ev e' = σ.ev e' := fun e' he => by show (if e' = e then none else σ.ev e') = _; rw [if_neg he]
 have hee : (σ.fz e x).ev e = none := by show (if e = e then none else σ.ev e) = _; rw [if_pos rfl]
 have hsome : ∀ e' z, (σ.fz e x).ev e' = some z -> e' ≠ e /\ σ.ev e' = some z := fun e' z hz => by
  by_cases he : e' = e
  ·subst he; rw [hee] at hz; cases hz
  ·exact ⟨he, by rw [<- hev e' he]; exact hz⟩
 have hon : ∀ e', (σ.fz e x).On e' -> e' ≠ e /\ σ.On e' := fun e' ⟨z, hz, h1⟩ => ⟨(hsome e' z hz).1, z, (hsome e' z hz).2, h1⟩
 have hbx : ∀ b, (σ.fz e x).bx b ≠ none ↔ σ.bx b ≠ none := fun b => by unfold St.fz; simp [zpe]
 have hOn : σ.On e := ⟨x, hx, ho⟩
 have hf : ∀ b, Fix σ g w b -> Fix (σ.fz e x) g w b := fun b hf => ⟨fun k hk => hf.1 k ((hbx k).1 hk), fun e' z hz h1 => hf.2.1 e' z (hsome e' z hz).2 h1, hf.2.2⟩
 have hfr : ∀ b, zcg σ g w b -> zcg (σ.fz e x) g w b := fun b hb => ⟨hf b hb.1, fun e' h' => hb.2 e' (hon e' h').2⟩
 have hgone : ∀ b ∈ g.φ e, b < w.heap.size -> zcg (σ.fz e x) g w b := fun b hb hl => by
  have hne : ∀ e', (σ.fz e x).On e' -> b ∉ g.φ e' := fun e' he' hm => h.apart e e' hOn (hon e' he').2 (Ne.symm (hon e' he').1) b hb hm
  exact ⟨⟨fun j hj hjb => h.ebx e j hOn ((hbx j).1 hj) (by rw [hjb]; exact hb), fun e' z hz h1 hh => hne e' ⟨z, hz, h1⟩ (List.mem_of_mem_head? hh), hl, (h.ebase e hOn b hb).1⟩, hne⟩
 have hhas : ∀ e' n, e' ≠ e -> σ.has e' n -> (σ.fz e x).has e' n := fun e' n he ⟨z, hz, h1⟩ => ⟨z, by rw [hev e' he]; exact hz, h1⟩
 have cr : ∀ c v, CR σ g w c v -> CR (σ.fz e x) g w (c.fz e x) v := fun c v hc => by
  cases c with
  | t y => exact zak.keep (fun _ _ => rfl) hf y v hc
  | nl s => exact hc
  | ow e' n =>
   show CR _ _ _ (if e' = e then (if n = x.gen then .rn (.sl x.sz x.rows) else .any) else .ow e' n) v
   by_cases he : e' = e
   ·subst he
    rw [if_pos rfl]
    by_cases hn : n = x.gen
    ·rw [if_pos hn]
     subst hn
     obtain ⟨ao, cap, e1, e2, e3, e4⟩ := h.evs _ x hx ho
     rw [<- hc.1] at e1
     show zak _ _ _ _
     unfold zak
     refine ⟨ao, cap, e1, e2, e3, ?_⟩
     rcases e4 with ⟨_, _, e4, _⟩ | ⟨b, cells, ty, fps, k1, k2, k3, k4, k5⟩
     ·exact Or.inl e4
     ·rw [if_pos hd] at k5
      have hl : ∀ b' ∈ fps, b' < w.heap.size := zad.lt cells 0 x.sz x.rows fps k5
      exact Or.inr ⟨b, 0, k1, hgone b (by rw [k2]; simp) (Array.getElem?_eq_some_iff.1 k3).1, zad.rep b cells ty k3 0 x.sz x.rows fps k5 fun b' hb' => hgone b' (by rw [k2]; simp [hb']) (hl b' hb')⟩
    ·rw [if_neg hn]; trivial
   ·rw [if_neg he]; exact ⟨hc.1, hhas e' n he hc.2⟩
  | bx b o => exact ⟨hc.1, (hbx b).2 hc.2⟩
  | el cs o => obtain ⟨b, q, h1, h2, h3⟩ := hc; exact ⟨b, q, h1, hf b h2, zaz.keep (fun _ _ => rfl) hf b rfl q cs h3⟩
  | eo e' s sz i o =>
   show CR _ _ _ (if e' = e then .any else .eo e' s sz i o) v
   by_cases he : e' = e
   ·rw [if_pos he]; trivial
   ·rw [if_neg he]; obtain ⟨b, n, c, h1, h2, h3, h4⟩ := hc; exact ⟨b, n, c, h1, h2, h3, hhas e' s he h4⟩
  | fn f caps => exact ⟨hc.1, fun b hb => (hbx b).2 (hc.2 b hb)⟩
  | cv u => exact hc
  | any => trivial
  | rn y => exact zak.keep (fun _ _ => rfl) hfr y v hc
  | er cs o => obtain ⟨b, q, h1, h2, h3⟩ := hc; exact ⟨b, q, h1, hfr b h2, zaz.keep (fun _ _ => rfl) hfr b rfl q cs h3⟩
 refine ⟨g, ⟨h.defers, h.size, h.anew, fun i => VR.map cr (h.slots i), fun b cs hb => ?_, fun b hb => h.base b ((hbx b).1 hb), fun b b' h1 h2 => h.inj b b' ((hbx b).1 h1) ((hbx b').1 h2), fun e' z hz h1 => ?_, fun e' z hz h1 => ?_, h.slc, fun e' h1 => h.ebase e' (hon e' h1).2, fun e' h1 => h.etop e' (hon e' h1).2, fun e' h1 => h.nodup e' (hon e' h1).2, fun e1 e2 h1 h2 => h.apart e1 e2 (hon e1 h1).2 (hon e2 h2).2, fun e' k h1 h2 => h.ebx e' k (hon e' h1).2 ((hbx k).1 h2)⟩, rfl, rfl⟩
 ·cases hc : σ.bx b with
  | none => unfold St.fz at hb; simp only [zpe, hc, Option.map_none] at hb; cases hb
  | some cs0 =>
   unfold St.fz at hb
   simp only [zpe, hc, Option.map_some, Option.some.injEq] at hb
   subst hb
   obtain ⟨vs, ty, k1, k2⟩ := h.boxes b cs0 hc
   exact ⟨vs, ty, k1, CRs.map cr k2⟩
 ·obtain ⟨ao, cap, e1, e2, e3, e4⟩ := h.evs e' z (hsome e' z hz).2 h1
  refine ⟨ao, cap, e1, e2, e3, ?_⟩
  rcases e4 with e4 | ⟨b, cells, ty, fps, k1, k2, k3, k4, k5⟩
  ·exact Or.inl e4
  ·refine Or.inr ⟨b, cells, ty, fps, k1, k2, k3, k4, ?_⟩
   split at k5
   ·rw [if_pos ‹_›]; exact k5
   ·rw [if_neg ‹_›]; exact ⟨k5.1, zaj.keep (fun _ _ => rfl) hf b rfl 0 z.sz z.rows k5.2⟩
 ·exact ⟨zak.keep (fun _ _ => rfl) hf _ _ (h.offs e' z (hsome e' z hz).2 h1).1, (h.offs e' z (hsome e' z hz).2 h1).2⟩
theorem zb2.pre {o : Oper} {σ σ' : St} {K : St -> Prop} (h : Wk σ σ') (k : zb2 P o σ' K) : zb2 P o σ K := fun n0 N g a w hR hn hd => by
 obtain ⟨g1, h1, h2, h3⟩ := h n0 N g a w hR
 have := k n0 N g1 a w h1 hn hd
 unfold Oper.wp at this ⊢
 revert this
 cases (execOp a.eval o).run P w <;> intro this <;> try exact this
 all_goals (revert this; rw [h2, h3]; exact id)
theorem zcs.pre {id : Nat} {ops : Array Oper} {σ σ' : St} {K : St -> Prop} (h : Wk σ σ') (k : zcs P id ops σ' K) : zcs P id ops σ K := fun n0 N g a w hR hn hd => by
 obtain ⟨g1, h1, h2, h3⟩ := h n0 N g a w hR
 have := k n0 N g1 a w h1 hn hd
 rw [h2, h3] at this
 exact this
section
variable {ks : List Fr} {Q : Exit -> St -> Prop} {σ : St} {ops : Array Oper} {os : List Oper} {o : Oper}
theorem qen {σ' : St} (h : Wk σ σ') (hg : o.guard = none) (hs : zwk o.op = true) (k : exo P ops (o :: os) ks Q σ') : exo P ops (o :: os) ks Q σ := by
 unfold exo zbr exG at k ⊢
 rw [hg] at k ⊢
 simp only at k ⊢
 unfold zbx zmz at k ⊢
 rw [if_pos (by rw [hs]; rfl)] at k ⊢
 exact k.pre h
theorem frzO (e : Nat) (hg : o.guard = none) (hs : zwk o.op = true) (k : zap (σ.ev e) fun x => x.deep = true /\ x.on = true /\ exo P ops (o :: os) ks Q (σ.fz e x)) : exo P ops (o :: os) ks Q σ := by
 obtain ⟨x, hx, h1, h2, h3⟩ := zao k
 exact qen (fz_wk hx h1 h2) hg hs h3
theorem frzD (e : Nat) {i : Nat} (k : zap (σ.ev e) fun x => x.deep = true /\ x.on = true /\ ex P (.region i ops true) ks Q (σ.fz e x)) : ex P (.region i ops true) ks Q σ := by
 obtain ⟨x, hx, h1, h2, h3⟩ := zao k
 exact zcs.pre (fz_wk hx h1 h2) h3
end
attribute [go_sem] C.fz St.fz V.map fzS_at zpe fzE_at
end Go.Proofs.YtnkagnjiljjpcaaGreat
namespace Go.Proofs.YtnkagnjiljjpcaaGreat
theorem ag_3 : zmm Tryz.prog 3 = some false := by kernel_rfl
theorem sz_3 : zbb Tryz.prog 3 = some 1 := by kernel_rfl
theorem in_3 : zxr Tryz.prog 3 = some .i64 := by kernel_rfl
theorem ze_3 : zcq Tryz.prog 3 = some [.t (.int .i64 0)] := by kernel_rfl
theorem ag_4 : zmm Tryz.prog 4 = some false := by kernel_rfl
theorem sz_4 : zbb Tryz.prog 4 = some 1 := by kernel_rfl
theorem bo_4 : zt6 Tryz.prog 4 = true := by kernel_rfl
theorem sz_5 : zbb Tryz.prog 5 = some 1 := by kernel_rfl
theorem in_5 : zxr Tryz.prog 5 = some .u8 := by kernel_rfl
theorem ze_5 : zcq Tryz.prog 5 = some [.t (.int .u8 0)] := by kernel_rfl
theorem ag_9 : zmm Tryz.prog 9 = some false := by kernel_rfl
theorem sz_9 : zbb Tryz.prog 9 = some 1 := by kernel_rfl
theorem in_9 : zxr Tryz.prog 9 = none := by kernel_rfl
theorem st_9 : zxp Tryz.prog 9 = true := by kernel_rfl
theorem ze_9 : zcq Tryz.prog 9 = some [.t (.str [])] := by kernel_rfl
theorem el_22 : elT Tryz.prog 22 = some 43 := by kernel_rfl
theorem nl_24 : nlT Tryz.prog 24 = 2 := by kernel_rfl
theorem ag_24 : zmm Tryz.prog 24 = some false := by kernel_rfl
theorem sz_24 : zbb Tryz.prog 24 = some 1 := by kernel_rfl
theorem el_24 : elT Tryz.prog 24 = some 58 := by kernel_rfl
theorem zqv : zcl Tryz.prog 58 = some 40 := by kernel_rfl
theorem nl_27 : nlT Tryz.prog 27 = 1 := by kernel_rfl
theorem el_27 : elT Tryz.prog 27 = some 51 := by kernel_rfl
theorem zpl : zcl Tryz.prog 51 = some 24 := by kernel_rfl
theorem nl_34 : nlT Tryz.prog 34 = 1 := by kernel_rfl
theorem el_34 : elT Tryz.prog 34 = some 72 := by kernel_rfl
theorem zpq : zcl Tryz.prog 72 = some 24 := by kernel_rfl
theorem ag_41 : zmm Tryz.prog 41 = some false := by kernel_rfl
theorem sz_41 : zbb Tryz.prog 41 = some 1 := by kernel_rfl
theorem el_41 : elT Tryz.prog 41 = some 129 := by kernel_rfl
theorem ag_43 : zmm Tryz.prog 43 = some true := by kernel_rfl
theorem sz_43 : zbb Tryz.prog 43 = some 1 := by kernel_rfl
theorem qc4 : zkq Tryz.prog 43 0 = some (0, 41) := by kernel_rfl
theorem ag_44 : zmm Tryz.prog 44 = some false := by kernel_rfl
theorem sz_44 : zbb Tryz.prog 44 = some 1 := by kernel_rfl
theorem el_44 : elT Tryz.prog 44 = some 95 := by kernel_rfl
theorem nl_49 : nlT Tryz.prog 49 = 3 := by kernel_rfl
theorem ag_49 : zmm Tryz.prog 49 = some false := by kernel_rfl
theorem sz_49 : zbb Tryz.prog 49 = some 1 := by kernel_rfl
theorem el_49 : elT Tryz.prog 49 = some 63 := by kernel_rfl
theorem zyg : zcl Tryz.prog 63 = some 48 := by kernel_rfl
theorem ag_51 : zmm Tryz.prog 51 = some true := by kernel_rfl
theorem sz_51 : zbb Tryz.prog 51 = some 1 := by kernel_rfl
theorem ze_51 : zcq Tryz.prog 51 = some [.nl 3] := by kernel_rfl
theorem qem : zkq Tryz.prog 51 0 = some (0, 49) := by kernel_rfl
theorem ag_58 : zmm Tryz.prog 58 = some true := by kernel_rfl
theorem sz_58 : zbb Tryz.prog 58 = some 2 := by kernel_rfl
theorem ze_58 : zcq Tryz.prog 58 = some [.t (.str []), .nl 2] := by kernel_rfl
theorem pl_58 : plsT Tryz.prog 58 = some [(0, 1), (1, 1)] := by kernel_rfl
theorem qcv : zkq Tryz.prog 58 0 = some (0, 9) := by kernel_rfl
theorem qc0 : zkq Tryz.prog 58 1 = some (1, 24) := by kernel_rfl
theorem ag_63 : zmm Tryz.prog 63 = some true := by kernel_rfl
theorem sz_63 : zbb Tryz.prog 63 = some 3 := by kernel_rfl
theorem ze_63 : zcq Tryz.prog 63 = some [.t (.bool false), .t (.str []), .nl 2] := by kernel_rfl
theorem qdp : zkq Tryz.prog 63 0 = some (0, 4) := by kernel_rfl
theorem qda : zkq Tryz.prog 63 1 = some (1, 58) := by kernel_rfl
theorem nl_72 : nlT Tryz.prog 72 = 1 := by kernel_rfl
theorem ag_72 : zmm Tryz.prog 72 = some false := by kernel_rfl
theorem sz_72 : zbb Tryz.prog 72 = some 1 := by kernel_rfl
theorem el_72 : elT Tryz.prog 72 = some 3 := by kernel_rfl
theorem zwq : zcl Tryz.prog 3 = some 8 := by kernel_rfl
theorem ze_72 : zcq Tryz.prog 72 = some [.nl 1] := by kernel_rfl
theorem ag_95 : zmm Tryz.prog 95 = some true := by kernel_rfl
theorem sz_95 : zbb Tryz.prog 95 = some 2 := by kernel_rfl
theorem qcl : zkq Tryz.prog 95 0 = some (0, 9) := by kernel_rfl
theorem qed : zkq Tryz.prog 95 1 = some (1, 44) := by kernel_rfl
theorem nl_99 : nlT Tryz.prog 99 = 1 := by kernel_rfl
theorem el_99 : elT Tryz.prog 99 = some 9 := by kernel_rfl
theorem ztn : zcl Tryz.prog 9 = some 16 := by kernel_rfl
theorem el_116 : elT Tryz.prog 116 = some 5 := by kernel_rfl
theorem us_116 : u8S Tryz.prog 116 = true := by kernel_rfl
theorem in_116 : zxr Tryz.prog 116 = none := by kernel_rfl
theorem ag_129 : zmm Tryz.prog 129 = some true := by kernel_rfl
theorem sz_129 : zbb Tryz.prog 129 = some 3 := by kernel_rfl
theorem qba : zkq Tryz.prog 129 0 = some (0, 4) := by kernel_rfl
theorem qa3 : zkq Tryz.prog 129 1 = some (1, 95) := by kernel_rfl
theorem ap_24 : apT Tryz.prog 24 2 := zk1 el_24 sz_58 zqv (by decide) ze_58 rfl
theorem ap_27 : apT Tryz.prog 27 1 := zk1 el_27 sz_51 zpl (by decide) ze_51 rfl
theorem ap_34 : apT Tryz.prog 34 1 := zk1 el_34 sz_72 zpq (by decide) ze_72 rfl
theorem ap_72 : apT Tryz.prog 72 1 := zk1 el_72 sz_3 zwq (by decide) ze_3 rfl
theorem ap_99 : apT Tryz.prog 99 1 := zk1 el_99 sz_9 ztn (by decide) ze_9 rfl
attribute [go_sem] ag_3 sz_3 in_3 ze_3 ag_4 sz_4 bo_4 sz_5 in_5 ze_5 ag_9 sz_9 in_9 st_9 ze_9 el_22 nl_24 ag_24 sz_24 el_24 zqv nl_27 el_27 zpl nl_34 el_34 zpq ag_41 sz_41 el_41 ag_43 sz_43 qc4 ag_44 sz_44 el_44 nl_49 ag_49 sz_49 el_49 zyg ag_51 sz_51 ze_51 qem ag_58 sz_58 ze_58 pl_58 qcv qc0 ag_63 sz_63 ze_63 qdp qda nl_72 ag_72 sz_72 el_72 zwq ze_72 ag_95 sz_95 qcl qed nl_99 el_99 ztn el_116 us_116 in_116 ag_129 sz_129 qba qa3 ap_24 ap_27 ap_34 ap_72 ap_99
attribute [go_sem] Nat.reduceEqDiff reduceIte reduceCtorEq Nat.reduceAdd Nat.reduceMul Int.reduceLE Int.reduceNeg Int.reduceToNat Nat.reduceLeDiff Nat.reduceSub Nat.reduceLT Nat.le_refl Int.cast_ofNat_Int Int.reduceLT Int.reduceGT Int.reduceGE Int.reduceEq Int.reduceBEq Nat.reduceBEq Int.reduceBNe Int.reduceAdd Int.reduceSub gt_iff_lt ge_iff_le
end Go.Proofs.YtnkagnjiljjpcaaGreat
namespace Go.Proofs.YtnkagnjiljjpcaaGreat
set_option linter.unusedSimpArgs false
set_option linter.unusedVariables false
set_option linter.unusedSectionVars false
set_option maxRecDepth 4000
open Go.RowKit
abbrev Str := List UInt8
inductive Tm where
 | mk (name : Str) (args : List Tm)
def Tm.name : Tm -> Str | .mk n _ => n
def Tm.args : Tm -> List Tm | .mk _ xs => xs
theorem Tm.eta : ∀ a : Tm, Tm.mk a.name a.args = a | .mk _ _ => rfl
mutual
theorem zbd {P : Tm -> Prop} (h : ∀ n xs, (∀ x ∈ xs, P x) -> P (.mk n xs)) : ∀ a, P a
 | .mk n xs => h n xs (zs9 h xs)
theorem zs9 {P : Tm -> Prop} (h : ∀ n xs, (∀ x ∈ xs, P x) -> P (.mk n xs)) : ∀ xs : List Tm, ∀ x ∈ xs, P x
 | [], x, hx => absurd hx (by simp)
 | a :: xs, x, hx => (List.mem_cons.1 hx).elim (fun e => e ▸ zbd h a) (zs9 h xs x)
end
mutual
def Tm.fold {α : Type} (f : Str -> List Tm -> List α -> α) : Tm -> α
 | .mk n xs => f n xs (Tm.folds f xs)
def Tm.folds {α : Type} (f : Str -> List Tm -> List α -> α) : List Tm -> List α
 | [] => []
 | a :: xs => Tm.fold f a :: Tm.folds f xs
end
theorem Tm.folds_map {α : Type} (f : Str -> List Tm -> List α -> α) (xs : List Tm) : Tm.folds f xs = xs.map (Tm.fold f) := by
 induction xs with
 | nil => rfl
 | cons a xs ih => rw [Tm.folds, ih]; rfl
theorem Tm.fold_eq {α : Type} (f : Str -> List Tm -> List α -> α) (a : Tm) : Tm.fold f a = f a.name a.args (a.args.map (Tm.fold f)) := by
 cases a; rw [Tm.fold, Tm.folds_map]; rfl
def tmC : Tm -> List T := Tm.fold fun n _ rs => [.str n, .sl 2 rs]
theorem zaa (a : Tm) : tmC a = [.str a.name, .sl 2 (a.args.map tmC)] := Tm.fold_eq _ a
abbrev tmD (a : Tm) : D := .agg (tmC a)
abbrev tmS (xs : List Tm) : T := .sl 2 (xs.map tmC)
abbrev iD (n : Int) : D := .one (.int .i64 n)
abbrev bD (b : Bool) : D := .one (.bool b)
abbrev sD (s : Str) : D := .one (.str s)
theorem zaf {α : Type} (f : α -> List T) (xs : List α) (k : Nat) (h : k < xs.length) : (xs.map f).getD k [] = f (xs[k]'h) := by simp [List.getD, h]
def Tm.wt : Tm -> Nat := Tm.fold fun n xs rs => n.length + xs.length + rs.sum
theorem Tm.wt_eq (a : Tm) : a.wt = a.name.length + a.args.length + (a.args.map Tm.wt).sum := Tm.fold_eq _ a
def zqx (xs : List Tm) : Nat := xs.length + (xs.map Tm.wt).sum
def szR (w : Nat) (left : Int) : Int := if (w : Int) <= left then left - w else -1
def zko {α : Type} (f : α -> Nat) (xs : List α) (k : Nat) : Nat := ((xs.take k).map f).sum
theorem zc1 {α : Type} (f : α -> Nat) (xs : List α) : zko f xs 0 = 0 := by simp [zko]
theorem zg0 {α : Type} (f : α -> Nat) (xs : List α) (k : Nat) (h : k < xs.length) : zko f xs (k + 1) = zko f xs k + f xs[k] := by
 unfold zko
 rw [List.take_succ_eq_append_getElem h, List.map_append, List.sum_append]; simp
theorem znt {α : Type} (f : α -> Nat) (xs : List α) (k : Nat) : zko f xs k <= (xs.map f).sum := by
 unfold zko
 conv => rhs; rw [<- List.take_append_drop k xs, List.map_append, List.sum_append]
 omega
theorem zja {α : Type} (f : α -> Nat) (xs : List α) (k : Nat) (h : xs.length <= k) : zko f xs k = (xs.map f).sum := by
 unfold zko
 rw [List.take_of_length_le h]
theorem zb8 {α : Type} (f : α -> Nat) (xs : List α) : ∀ x ∈ xs, f x <= (xs.map f).sum := by
 induction xs with
 | nil => simp
 | cons a xs ih =>
  intro x hx
  rcases List.mem_cons.1 hx with rfl | hx
  ·simp
  ·have := ih x hx; simp; omega
noncomputable def same {α : Type} (a b : α) : Bool := @decide (a = b) (Classical.propDecidable _)
theorem za1 {α : Type} {a b : α} : same a b = true ↔ a = b := by simp [same]
theorem zbc {α : Type} {a b : α} : same a b = false ↔ a ≠ b := by simp [same]
theorem zau {α : Type} (a : α) : same a a = true := by simp [same]
theorem zbl {α : Type} (a b : α) (xs ys : List α) : same (a :: xs) (b :: ys) = (same a b && same xs ys) := by
 rw [Bool.eq_iff_iff, Bool.and_eq_true, za1, za1, za1, List.cons.injEq]
theorem zd2 {α : Type} : same ([] : List α) [] = true := zau _
theorem zam {k : Nat} (h : k < 9223372036854775807) : IntKind.i64.wrap ((k : Int) + 1) = ((k + 1 : Nat) : Int) := zwc h
theorem ze0 {w : Nat} {l : Int} (h0 : 0 <= l) (h : szR w l < 0) : l < w := by unfold szR at h; split at h <;> omega
theorem zec {w : Nat} {l : Int} (h : ¬ szR w l < 0) : (w : Int) <= l /\ szR w l = l - w := by
 by_cases hh : (w : Int) <= l
 ·exact ⟨hh, if_pos hh⟩
 ·exact absurd (by rw [szR, if_neg hh]; omega) h
theorem zcp {w : Nat} {l : Int} (h : l < w) : szR w l = -1 := if_neg (by omega)
theorem zih {w : Nat} {l : Int} (h : (w : Int) <= l) : szR w l = l - w := if_pos h
theorem zlm {k : IntKind} {a b : Int} (h : a = b) : T.int k a = T.int k b := h ▸ rfl
theorem zeu (A : List (List T)) (n k : Nat) (z ts : List T) (hA : A.length = k) (hk : k < n) (hz : ts.length = z.length) : zc3 (A ++ List.replicate (n - k) z) k 0 ts = A ++ [ts] ++ List.replicate (n - (k + 1)) z := by
 subst hA
 have e : List.replicate (n - A.length) z = z :: List.replicate (n - (A.length + 1)) z := by
  rw [show n - A.length = (n - (A.length + 1)) + 1 by omega]; rfl
 unfold zc3
 rw [e]
 simp [zxg _ _ hz]
end Go.Proofs.YtnkagnjiljjpcaaGreat
namespace Go.Proofs.YtnkagnjiljjpcaaGreat
set_option linter.unusedSimpArgs false
set_option linter.unusedVariables false
set_option linter.unusedSectionVars false
set_option maxRecDepth 4000
open Go.RowKit
theorem zb3.cons {P : Program} {t : TypeId} {ts : List TypeId} {xs : List PD} (h : zb3 P (t :: ts) xs) : ∃ x xs', xs = x :: xs' /\ za6 P t x /\ zb3 P ts xs' := by
 cases xs with
 | nil => rw [zb3] at h; cases h
 | cons x xs =>
  rw [zb3] at h
  obtain ⟨t', ts', e, h1, h2⟩ := h
  cases e
  exact ⟨x, xs, rfl, h1, h2⟩
theorem zb3.nil {P : Program} {xs : List PD} (h : zb3 P [] xs) : xs = [] := by
 cases xs with
 | nil => rfl
 | cons x xs =>
  rw [zb3] at h
  obtain ⟨t', ts', e, _⟩ := h
  cases e
theorem zvs {Q : PD -> Prop} (h : ∀ d, (∀ d', SizeOf.sizeOf d' < SizeOf.sizeOf d -> Q d') -> Q d) (d : PD) : Q d := by
 have : ∀ n (d : PD), SizeOf.sizeOf d < n -> Q d := by
  intro n
  induction n with
  | zero => intro d hd; omega
  | succ n ih => intro d hd; exact h d fun d' hd' => ih d' (by omega)
 exact this _ d (Nat.lt_succ_self _)
theorem zdy {α : Type} (c : α -> List T) : ∀ (xs : List PD), (∀ x ∈ xs, ∃ a, x.cells = c a) -> ∃ l : List α, PD.rows xs = l.map c
 | [], _ => ⟨[], rfl⟩
 | x :: xs, h => by
  obtain ⟨a, ha⟩ := h x (by simp)
  obtain ⟨l, hl⟩ := zdy c xs fun y hy => h y (by simp [hy])
  exact ⟨a :: l, by rw [PD.rows, ha, hl]; rfl⟩
theorem qdt : ∀ d, za6 Tryz.prog 95 d -> ∃ a : Tm, d.cells = tmC a :=
 zvs fun d ih h => by
  obtain ⟨fs, rfl, hf⟩ := h.st Tryz.underlying95
  have hf : zb3 Tryz.prog [9, 44] fs := hf
  obtain ⟨x1, r1, rfl, h1, hf⟩ := hf.cons
  obtain ⟨x2, r2, rfl, h2, hf⟩ := hf.cons
  obtain rfl := hf.nil
  obtain ⟨n, rfl⟩ := h1.str Tryz.underlying9
  obtain ⟨xs, rfl, hx⟩ := h2.sl Tryz.underlying44
  obtain ⟨l, hl⟩ := zdy tmC xs fun x hx' => ih x (by have := List.sizeOf_lt_of_mem hx'; simp; omega) (hx x hx')
  exact ⟨.mk n l, by
   rw [zaa, PD.cells, PD.flat, PD.flat, PD.flat, PD.cells, PD.cells, hl, show Tryz.prog.cellsOf 95 = 2 from by kernel_rfl]; rfl⟩
end Go.Proofs.YtnkagnjiljjpcaaGreat
namespace Go.Proofs.YtnkagnjiljjpcaaGreat
set_option linter.unusedSimpArgs false
set_option linter.unusedVariables false
set_option linter.unusedSectionVars false
set_option maxRecDepth 4000
open Go.RowKit
structure Li where
 pos : Bool
 atom : Tm
structure Cq where
 lits : List Li
def liC (a : Li) : List T := [.bool a.pos, .str a.atom.name, .sl 2 (a.atom.args.map tmC)]
theorem zai (a : Li) : liC a = [.bool a.pos, .str a.atom.name, .sl 2 (a.atom.args.map tmC)] := rfl
def cqC (a : Cq) : List T := [.sl 3 (a.lits.map liC)]
theorem zat (a : Cq) : cqC a = [.sl 3 (a.lits.map liC)] := rfl
abbrev liD (a : Li) : D := .agg (liC a)
abbrev cqD (a : Cq) : D := .agg (cqC a)
abbrev liS (xs : List Li) : T := .sl 3 (xs.map liC)
abbrev cqS (xs : List Cq) : T := .sl 1 (xs.map cqC)
def Li.wt (a : Li) : Nat := a.atom.wt
theorem Li.wt_eq (a : Li) : a.wt = a.atom.wt := rfl
def zgf (xs : List Li) : Nat := xs.length + (xs.map Li.wt).sum
def Cq.wt (a : Cq) : Nat := zgf a.lits
theorem Cq.wt_eq (a : Cq) : a.wt = zgf a.lits := rfl
def zij (xs : List Cq) : Nat := xs.length + (xs.map Cq.wt).sum
end Go.Proofs.YtnkagnjiljjpcaaGreat
namespace Go.Proofs.YtnkagnjiljjpcaaGreat
set_option linter.unusedSimpArgs false
set_option linter.unusedVariables false
set_option linter.unusedSectionVars false
set_option maxRecDepth 4000
open Go.RowKit
abbrev cqsD (l : List Cq) : D := .one (cqS l)
theorem zrc {d : PD} (h : za6 Tryz.prog 129 d) : ∃ s : Li, d.cells = liC s := by
 obtain ⟨fs, rfl, hf⟩ := h.st Tryz.underlying129
 have hf : zb3 Tryz.prog [4, 95] fs := hf
 obtain ⟨x1, r1, rfl, h1, hf⟩ := hf.cons
 obtain ⟨x2, r2, rfl, h2, hf⟩ := hf.cons
 obtain rfl := hf.nil
 obtain ⟨b, rfl⟩ := h1.bool Tryz.underlying4
 obtain ⟨t, ht⟩ := qdt _ h2
 exact ⟨⟨b, t⟩, by
  rw [zai, PD.cells, PD.flat, PD.flat, PD.flat, PD.cells, ht, zaa]; rfl⟩
theorem zuo {d : PD} (h : za6 Tryz.prog 43 d) : ∃ s : Cq, d.cells = cqC s := by
 obtain ⟨fs, rfl, hf⟩ := h.st Tryz.underlying43
 have hf : zb3 Tryz.prog [41] fs := hf
 obtain ⟨x1, r1, rfl, h1, hf⟩ := hf.cons
 obtain rfl := hf.nil
 obtain ⟨xs, rfl, hx⟩ := h1.sl Tryz.underlying41
 obtain ⟨l, hl⟩ := zdy liC xs fun x hx' => zrc (hx x hx')
 exact ⟨⟨l⟩, by
  rw [zat, PD.cells, PD.flat, PD.flat, PD.cells, hl, show Tryz.prog.cellsOf 129 = 3 from by kernel_rfl]; rfl⟩
theorem zr3 {d : PD} (h : za6 Tryz.prog 22 d) : ∃ l : List Cq, d.cells = [cqS l] := by
 obtain ⟨xs, rfl, hx⟩ := h.sl Tryz.underlying22
 obtain ⟨l, hl⟩ := zdy cqC xs fun x hx' => zuo (hx x hx')
 exact ⟨l, by rw [PD.cells, hl, show Tryz.prog.cellsOf 43 = 1 from by kernel_rfl]⟩
end Go.Proofs.YtnkagnjiljjpcaaGreat
namespace Go.Proofs.YtnkagnjiljjpcaaGreat
set_option linter.unusedSimpArgs false
set_option linter.unusedVariables false
set_option linter.unusedSectionVars false
set_option maxRecDepth 4000
open Go.RowKit
def zdr (b : UInt8) : Bool := decide (97 <= (b.toNat : Int)) && decide ((b.toNat : Int) <= 122)
def zzz (b : UInt8) : Bool := decide (48 <= (b.toNat : Int)) && decide ((b.toNat : Int) <= 57)
def zfw (b : UInt8) : Bool := decide (65 <= (b.toNat : Int)) && decide ((b.toNat : Int) <= 90)
def zjz (b : UInt8) : Bool := zdr b || zzz b
abbrev uD (b : UInt8) : D := .one (.int .u8 b.toNat)
theorem zer (b : UInt8) : FC Tryz.prog 187 [uD b] [bD (zdr b)] := by
 unfold zdr
 refine zan Tryz.call187 Tryz.func187 rfl (by kernel_rfl) (za3 (by kernel_rfl)) ?_
 simp -implicitDefEqProofs only [go_sem, Tryz.results187]
 refine ⟨fun h => ?_, fun h => ?_⟩ <;> simp at h ⊢ <;> omega
theorem zmv (b : UInt8) : FC Tryz.prog 188 [uD b] [bD (zzz b)] := by
 unfold zzz
 refine zan Tryz.call188 Tryz.func188 rfl (by kernel_rfl) (za3 (by kernel_rfl)) ?_
 simp -implicitDefEqProofs only [go_sem, Tryz.results188]
 refine ⟨fun h => ?_, fun h => ?_⟩ <;> simp at h ⊢ <;> omega
theorem zmf (b : UInt8) : FC Tryz.prog 148 [uD b] [bD (zfw b)] := by
 unfold zfw
 refine zan Tryz.call148 Tryz.func148 rfl (by kernel_rfl) (za3 (by kernel_rfl)) ?_
 simp -implicitDefEqProofs only [go_sem, Tryz.results148]
 refine ⟨fun h => ?_, fun h => ?_⟩ <;> simp at h ⊢ <;> omega
def inB (n lo hi : Int) : Bool := decide (lo <= n) && decide (n <= hi)
theorem zo0 (n lo hi : Int) : FC Tryz.prog 57 [iD n, iD lo, iD hi] [bD (inB n lo hi)] := by
 unfold inB
 refine zan Tryz.call57 Tryz.func57 rfl (by kernel_rfl) (za3 (by kernel_rfl)) ?_
 simp -implicitDefEqProofs only [go_sem, Tryz.results57]
 refine ⟨fun h => ?_, fun h => ?_⟩ <;> simp at h ⊢ <;> omega
theorem qbp (n lo hi : Int) : FC Tryz.prog 50 [iD n, iD lo, iD hi] [bD (inB n lo hi)] := by
 unfold inB
 refine zan Tryz.call50 Tryz.func50 rfl (by kernel_rfl) (za3 (by kernel_rfl)) ?_
 simp -implicitDefEqProofs only [go_sem, Tryz.results50]
 refine ⟨fun h => ?_, fun h => ?_⟩ <;> simp at h ⊢ <;> omega
theorem qak (a b : Int) : FC Tryz.prog 101 [iD a, iD b] [iD (max a b)] := by
 refine zan Tryz.call101 Tryz.func101 rfl (by kernel_rfl) (za3 (by kernel_rfl)) ?_
 simp -implicitDefEqProofs only [go_sem, Tryz.results101]
 refine ⟨fun h => ?_, fun h => ?_⟩ <;> simp at h <;> exact zlm (by omega)
theorem zk0 (b : UInt8) : FC Tryz.prog 184 [uD b] [bD (zjz b)] := by
 unfold zjz zdr zzz
 refine zan Tryz.call184 Tryz.func184 rfl (by kernel_rfl) (za3 (by kernel_rfl)) ?_
 simp -implicitDefEqProofs only [go_sem, Tryz.results184]
 simp only [T.bool.injEq, decide_eq_true_eq, decide_eq_false_iff_not]
 refine ⟨fun h => ⟨fun h2 => ⟨fun h3 => ?_, fun h3 => ?_⟩, fun h2 => ?_⟩, fun h => ⟨fun h2 => ?_, fun h2 => ?_⟩⟩ <;> simp [h, h2] <;> omega
def znd : Str -> Bool
 | [] => true
 | c :: cs => zfw c && cs.all zjz
def za7 (s : Str) : Bool := znd s && inB s.length 1 4
theorem zmc (s : Str) : FC Tryz.prog 162 [sD s] [bD (za7 s)] := by
 refine zbw (fun hw => ?_) Tryz.call162
 have hl : s.length <= 9223372036854775807 := by simpa [zd3, wfT] using hw.1
 refine zan Tryz.call162 Tryz.func162 rfl (by kernel_rfl) (za3 (by kernel_rfl)) ?_
 simp -implicitDefEqProofs only [go_sem, Tryz.results162]
 refine zag (fun k : Nat => hd [(0, vT (.str s)), (5, vI s.length), (6, vI k)] [] []) (fun k => k <= s.length /\ znd s = if k = 0 then znd s else (s.drop k).all zjz) (fun k => s.length - k) 0 (zab ?_) ?_ ?_
 ·simp -implicitDefEqProofs only [go_sem]
 ·simp
 ·intro k ⟨hk, hr⟩
  by_cases hlt : k < s.length
  ·by_cases h0 : k = 0
   ·subst h0
    have hl0 : (0 : Int) < s.length := by omega
    have he : znd s = (zfw (s.getD 0 0) && (s.drop 1).all zjz) := by cases s; exact absurd hlt (by simp); rfl
    simp -implicitDefEqProofs only [go_sem, hlt, hl0]
    refine callF (zmf (s.getD 0 0)) (by simp -implicitDefEqProofs only [go_sem]) ?_
    simp -implicitDefEqProofs only [go_sem]
    refine ⟨fun h => ⟨1, ⟨hlt, ?_⟩, by omega, zab (by simp -implicitDefEqProofs only [go_sem]; rw [za4 (by omega) (by omega)])⟩, fun h => ?_⟩
    ·have : zfw (s.getD 0 0) = true := by simpa using h
     rw [he, this]; rfl
    ·have : zfw (s.getD 0 0) = false := by simpa using h
     rw [za7, he, this]; rfl
   ·have h1 : ((k : Int) == 0) = false := by simp; omega
    have h2 : (0 : Int) < k := by omega
    have hg : s.getD k 0 = s[k] := by simp [List.getD, hlt]
    rw [if_neg h0, List.drop_eq_getElem_cons hlt, List.all_cons] at hr
    simp -implicitDefEqProofs only [go_sem, hlt, h1, h2]
    refine callF (zer (s.getD k 0)) (by simp -implicitDefEqProofs only [go_sem]) ?_
    simp -implicitDefEqProofs only [go_sem]
    simp only [hg]
    refine ⟨fun h => ⟨hlt, ?_⟩, fun h => ?_⟩
    ·refine callF (zmv s[k]) (by simp -implicitDefEqProofs only [go_sem]) ?_
     simp -implicitDefEqProofs only [go_sem]
     refine ⟨fun h' => ?_, fun h' => ⟨k + 1, ⟨hlt, ?_⟩, by omega, zab (by simp -implicitDefEqProofs only [go_sem]; rw [zam (by omega)])⟩⟩
     ·have : zjz s[k] = false := by simp [zjz]; simp at h h'; exact ⟨h, h'⟩
      simp [za7, hr, this]
     ·have : zjz s[k] = true := by simp [zjz]; right; simpa using h'
      rw [hr, this]; simp
    ·refine ⟨k + 1, ⟨hlt, ?_⟩, by omega, zab (by simp -implicitDefEqProofs only [go_sem]; rw [zam (by omega)])⟩
     have : zjz s[k] = true := by simp [zjz]; left; simpa using h
     rw [hr, this]; simp
  ·simp -implicitDefEqProofs only [go_sem, hlt]
   refine callF (zo0 s.length 1 4) (by simp -implicitDefEqProofs only [go_sem]) ?_
   simp -implicitDefEqProofs only [go_sem]
   have : znd s = true := by
    by_cases h0 : k = 0
    ·have : s = [] := List.length_eq_zero_iff.1 (by omega)
     rw [this]; rfl
    ·rw [hr, if_neg h0, List.drop_of_length_le (by omega)]; rfl
   simp [za7, this]
end Go.Proofs.YtnkagnjiljjpcaaGreat
namespace Go.Proofs.YtnkagnjiljjpcaaGreat
set_option linter.unusedSimpArgs false
set_option linter.unusedVariables false
set_option linter.unusedSectionVars false
set_option maxRecDepth 4000
open Go.RowKit
abbrev zix (xs : List Str) : T := .sl 1 (xs.map fun s => [.str s])
theorem zwa {α : Type} [BEq α] [LawfulBEq α] {xs : List α} {s : α} {k : Nat} (hk : k < xs.length) (hn : s ∉ xs.take k) (e : xs[k] = s) : xs.idxOf s = k := by
 have h : xs = xs.take k ++ xs.drop k := (List.take_append_drop k xs).symm
 rw [List.drop_eq_getElem_cons hk] at h
 rw [h, List.idxOf_append, if_neg hn, e]
 rw [show (s :: xs.drop (k + 1)).idxOf s = 0 from List.idxOf_cons_self ..]
 simp; omega
theorem zj7 {α : Type} {xs : List α} {s : α} {k : Nat} (hk : k < xs.length) (hn : s ∉ xs.take k) (e : xs[k] ≠ s) : s ∉ xs.take (k + 1) := by
 rw [List.take_succ_eq_append_getElem hk]
 simp only [List.mem_append, List.mem_singleton, not_or]
 exact ⟨hn, fun h => e h.symm⟩
def idxS {α : Type} [BEq α] (xs : List α) (s : α) : Int := if xs.contains s then xs.idxOf s else -1
theorem zrs (xs : List Str) (s : Str) : FC Tryz.prog 191 [.one (zix xs), sD s] [iD (idxS xs s)] := by
 refine zbw (fun hw => ?_) Tryz.call191
 have hl : xs.length <= 9223372036854775807 := by simpa [zd3, wfT] using hw.1.1
 refine zan Tryz.call191 Tryz.func191 rfl (by kernel_rfl) (za3 (by kernel_rfl)) ?_
 simp -implicitDefEqProofs only [go_sem, Tryz.results191]
 refine zag (fun k : Nat => hd [(0, vT (zix xs)), (1, vT (.str s)), (7, vI xs.length), (8, vI k)] [] []) (fun k => k <= xs.length /\ s ∉ xs.take k) (fun k => xs.length - k) 0 (zab ?_) ?_ ?_
 ·simp -implicitDefEqProofs only [go_sem]
 ·simp
 ·intro k ⟨hk, hr⟩
  by_cases hlt : k < xs.length
  ·simp -implicitDefEqProofs only [go_sem, zaf, hlt]
   refine ⟨fun h => ?_, fun h => ?_⟩
   ·have e : xs[k] = s := (beq_iff_eq.1 h).symm
    have hm : s ∈ xs := e ▸ List.getElem_mem hlt
    rw [idxS, if_pos (by simpa using hm), zwa hlt hr e]
   ·have e : xs[k] ≠ s := fun e => by simp [e] at h
    exact ⟨k + 1, ⟨hlt, zj7 hlt hr e⟩, by omega, zab (by simp -implicitDefEqProofs only [go_sem]; rw [zam (by omega)])⟩
  ·simp -implicitDefEqProofs only [go_sem, hlt]
   rw [List.take_of_length_le (by omega)] at hr
   rw [idxS, if_neg (by simpa using hr)]
theorem zej (xs : List Str) (s : Str) : FC Tryz.prog 170 [.one (zix xs), sD s] [bD (xs.contains s)] := by
 refine zan Tryz.call170 Tryz.func170 rfl (by kernel_rfl) (za3 (by kernel_rfl)) ?_
 simp -implicitDefEqProofs only [go_sem, Tryz.results170]
 refine callF (zrs xs s) (by simp -implicitDefEqProofs only [go_sem]) ?_
 simp -implicitDefEqProofs only [go_sem]
 unfold idxS
 cases h : xs.contains s <;> simp
def zng : List Str := [[116, 114, 117, 101], [102, 97, 108, 115, 101], [116, 114, 117, 116, 104], [98, 111, 116, 104], [101, 105, 116, 104, 101, 114], [105, 102], [97, 108, 108], [115, 111, 109, 101]]
theorem zr6 : FC Tryz.prog 189 [] [.one (zix zng)] := by
 refine zan Tryz.call189 Tryz.func189 rfl (by kernel_rfl) (za3 (by kernel_rfl)) ?_
 simp -implicitDefEqProofs only [go_sem, Tryz.results189]
 refine zbt (by simp -implicitDefEqProofs only [go_sem]) ?_
 simp -implicitDefEqProofs only [go_sem]
 rfl
def zke (b : UInt8) : Bool := zjz b || b == 95
def zhw : Str -> Bool
 | [] => true
 | c :: cs => zdr c && cs.all zke
def zca (s : Str) : Bool := zhw s && inB s.length 1 6 && !zng.contains s
theorem qc8 {b : UInt8} {n : Nat} (hn : n < 256) : ((b.toNat : Int) == (n : Int)) = (b == UInt8.ofNat n) := by
 rw [Bool.eq_iff_iff]
 simp only [beq_iff_eq]
 constructor
 ·intro h
  apply UInt8.toNat_inj.1
  simp [UInt8.toNat_ofNat]
  omega
 ·intro h
  subst h
  simp [UInt8.toNat_ofNat]
  omega
theorem ziz (s : Str) : FC Tryz.prog 163 [sD s] [bD (zca s)] := by
 refine zbw (fun hw => ?_) Tryz.call163
 have hl : s.length <= 9223372036854775807 := by simpa [zd3, wfT] using hw.1
 refine zan Tryz.call163 Tryz.func163 rfl (by kernel_rfl) (za3 (by kernel_rfl)) ?_
 simp -implicitDefEqProofs only [go_sem, Tryz.results163]
 refine zag (fun k : Nat => hd [(0, vT (.str s)), (5, vI s.length), (6, vI k)] [] []) (fun k => k <= s.length /\ zhw s = if k = 0 then zhw s else (s.drop k).all zke) (fun k => s.length - k) 0 (zab ?_) ?_ ?_
 ·simp -implicitDefEqProofs only [go_sem]
 ·simp
 ·intro k ⟨hk, hr⟩
  by_cases hlt : k < s.length
  ·by_cases h0 : k = 0
   ·subst h0
    have hl0 : (0 : Int) < s.length := by omega
    have he : zhw s = (zdr (s.getD 0 0) && (s.drop 1).all zke) := by cases s; exact absurd hlt (by simp); rfl
    simp -implicitDefEqProofs only [go_sem, hlt, hl0]
    refine callF (zer (s.getD 0 0)) (by simp -implicitDefEqProofs only [go_sem]) ?_
    simp -implicitDefEqProofs only [go_sem]
    refine ⟨fun h => ⟨hl0, ?_⟩, fun h => ?_⟩
    ·have hi : zdr (s.getD 0 0) = true := by simpa using h
     refine callF (zer (s.getD 0 0)) (by simp -implicitDefEqProofs only [go_sem, hi]) ?_
     simp -implicitDefEqProofs only [go_sem, hi]
     refine ⟨1, ⟨hlt, ?_⟩, by omega, zab (by simp -implicitDefEqProofs only [go_sem]; rw [za4 (by omega) (by omega)])⟩
     rw [he, hi]; rfl
    ·have : zdr (s.getD 0 0) = false := by simpa using h
     rw [zca, he, this]; rfl
   ·have h1 : ((k : Int) == 0) = false := by simp; omega
    have h2 : (0 : Int) < k := by omega
    have hg : s.getD k 0 = s[k] := by simp [List.getD, hlt]
    rw [if_neg h0, List.drop_eq_getElem_cons hlt, List.all_cons] at hr
    simp -implicitDefEqProofs only [go_sem, hlt, h1, h2]
    refine callF (zer (s.getD k 0)) (by simp -implicitDefEqProofs only [go_sem]) ?_
    simp -implicitDefEqProofs only [go_sem]
    simp only [hg]
    refine ⟨fun h => ⟨hlt, ?_⟩, fun h => ?_⟩
    ·refine callF (zmv s[k]) (by simp -implicitDefEqProofs only [go_sem]) ?_
     simp -implicitDefEqProofs only [go_sem]
     simp only [hg]
     refine ⟨fun h' => ⟨hlt, fun h'' => ?_, fun h'' => ⟨k + 1, ⟨hlt, ?_⟩, by omega, zab (by simp -implicitDefEqProofs only [go_sem]; rw [zam (by omega)])⟩⟩, fun h' => ⟨k + 1, ⟨hlt, ?_⟩, by omega, zab (by simp -implicitDefEqProofs only [go_sem]; rw [zam (by omega)])⟩⟩
     ·have : zke s[k] = false := by
       have := qc8 (b := s[k]) (n := 95) (by omega)
       simp [zke, zjz] at h h' ⊢
       refine ⟨⟨h, h'⟩, fun e => ?_⟩
       rw [e] at h''
       simp at h''
      rw [zca, hr, this]; rfl
     ·have : zke s[k] = true := by
       have := qc8 (b := s[k]) (n := 95) (by omega)
       simp [zke] at h'' ⊢
       right
       simpa [h''] using this
      rw [hr, this]; rfl
     ·have : zke s[k] = true := by simp [zke, zjz]; simp at h'; simp [h']
      rw [hr, this]; rfl
    ·refine ⟨k + 1, ⟨hlt, ?_⟩, by omega, zab (by simp -implicitDefEqProofs only [go_sem]; rw [zam (by omega)])⟩
     have : zke s[k] = true := by simp [zke, zjz]; simp at h; simp [h]
     rw [hr, this]; rfl
  ·simp -implicitDefEqProofs only [go_sem, hlt]
   refine callF (zo0 s.length 1 6) (by simp -implicitDefEqProofs only [go_sem]) ?_
   simp -implicitDefEqProofs only [go_sem]
   have ha : zhw s = true := by
    by_cases h0 : k = 0
    ·have : s = [] := List.length_eq_zero_iff.1 (by omega)
     rw [this]; rfl
    ·rw [hr, if_neg h0, List.drop_of_length_le (by omega)]; rfl
   refine ⟨fun h => ?_, fun h => ?_⟩
   ·refine callF (zr6) (by simp -implicitDefEqProofs only [go_sem]) ?_
    simp -implicitDefEqProofs only [go_sem]
    refine callF (zej zng s) (by simp -implicitDefEqProofs only [go_sem]) ?_
    simp -implicitDefEqProofs only [go_sem]
    rw [zca, ha, h]; rfl
   ·rw [zca, ha, h]; rfl
end Go.Proofs.YtnkagnjiljjpcaaGreat
namespace Go.Proofs.YtnkagnjiljjpcaaGreat
set_option linter.unusedSimpArgs false
set_option linter.unusedVariables false
set_option linter.unusedSectionVars false
set_option maxRecDepth 4000
open Go.RowKit Go.Sort Go.Proofs
variable {P : Program}
abbrev zwp (ss : List Str) : List Str := ss.mergeSort leB
theorem zjb (a b : Str) : Op.bytesLess a b = decide (a < b) := bytesLess_eq a b
def Srt (xs : List Str) : Prop := xs.Pairwise (· < ·)
theorem zg3 (a : Str) : ¬ a < a := List.lt_irrefl a
theorem zk3 {xs : List Str} (h : Srt xs) : xs.Nodup := List.Pairwise.imp (fun {a b} (h : a < b) (e : a = b) => zg3 b (e ▸ h)) h
theorem qca {xs ys : List Str} (hx : Srt xs) (hy : Srt ys) (h : ∀ s, s ∈ xs ↔ s ∈ ys) : xs = ys := by
 have hp : xs.Perm ys := (List.perm_ext_iff_of_nodup (zk3 hx) (zk3 hy)).2 h
 exact hp.eq_of_pairwise (le := fun a b => a < b) (fun a b _ _ h1 h2 => absurd (List.lt_trans h1 h2) (zg3 a)) hx hy
theorem qbh {a b : Str} (h : a <= b) : a < b \/ a = b := by
 by_cases h1 : a < b
 ·exact Or.inl h1
 ·exact Or.inr (List.le_antisymm h (List.not_lt.1 h1))
theorem zt7 (xs : List Str) (s : Str) : s ∈ zwp xs ↔ s ∈ xs := (List.mergeSort_perm xs leB).mem_iff
theorem zwz {xs : List Str} (h : xs.Nodup) : Srt (zwp xs) := by
 have tr : ∀ a b c : List UInt8, leB a b = true -> leB b c = true -> leB a c = true := fun a b c h1 h2 => by simp only [leB, decide_eq_true_eq] at *; exact List.le_trans h1 h2
 have to : ∀ a b : List UInt8, (leB a b || leB b a) = true := fun a b => by simp only [leB, Bool.or_eq_true, decide_eq_true_eq]; exact List.le_total a b
 have hs := List.pairwise_mergeSort tr to xs
 have hn : (zwp xs).Nodup := (List.mergeSort_perm xs leB).nodup_iff.2 h
 refine (List.Pairwise.and hs hn).imp ?_
 rintro a b ⟨h1, h2⟩
 simp only [leB, decide_eq_true_eq] at h1
 exact (qbh h1).resolve_right h2
def zsf (l : List Str) (s : Str) : List Str := if (l.dropWhile fun x => Op.bytesLess x s).head? = some s then l else (l.takeWhile fun x => Op.bytesLess x s) ++ [s] ++ l.dropWhile fun x => Op.bytesLess x s
theorem zyz (l : List Str) (s x : Str) : x ∈ zsf l s ↔ x = s \/ x ∈ l := by
 have e : l = (l.takeWhile fun x => Op.bytesLess x s) ++ l.dropWhile fun x => Op.bytesLess x s := (List.takeWhile_append_dropWhile).symm
 unfold zsf
 split
 ·rename_i h
  have : s ∈ l := by rw [e]; exact List.mem_append_right _ (List.mem_of_mem_head? h)
  exact ⟨Or.inr, fun h => h.elim (fun e => e ▸ this) id⟩
 ·conv => rhs; rw [e]
  simp only [List.mem_append, List.mem_singleton, or_assoc]
  constructor
  ·rintro (h | h | h)
   ·exact Or.inr (Or.inl h)
   ·exact Or.inl h
   ·exact Or.inr (Or.inr h)
  ·rintro (h | h | h)
   ·exact Or.inr (Or.inl h)
   ·exact Or.inl h
   ·exact Or.inr (Or.inr h)
theorem zh4 {l : List Str} {p : Str -> Bool} {x : Str} (h : (l.dropWhile p).head? = some x) : p x = false := by
 induction l with
 | nil => simp at h
 | cons a l ih =>
  rw [List.dropWhile_cons] at h
  split at h
  ·exact ih h
  ·rename_i hp; simp only [List.head?_cons, Option.some.injEq] at h; subst h; simpa using hp
theorem zz2 {l : List Str} (h : Srt l) (s : Str) : Srt (zsf l s) := by
 unfold zsf
 split
 ·exact h
 ·rename_i hne
  have e : (l.takeWhile fun x => Op.bytesLess x s) ++ (l.dropWhile fun x => Op.bytesLess x s) = l := List.takeWhile_append_dropWhile
  have h' := h
  rw [<- e] at h'
  obtain ⟨h1, h2, h3⟩ := List.pairwise_append.1 h'
  have ht : ∀ a ∈ l.takeWhile fun x => Op.bytesLess x s, a < s := fun a ha => by
   have := List.all_takeWhile (l := l) (p := fun x => Op.bytesLess x s)
   have := List.all_eq_true.1 this a ha
   rw [zjb] at this
   exact of_decide_eq_true this
  have hd : ∀ a ∈ l.dropWhile fun x => Op.bytesLess x s, s < a := fun a ha => by
   cases hD : l.dropWhile fun x => Op.bytesLess x s with
   | nil => rw [hD] at ha; simp at ha
   | cons y ys =>
    have hy := zh4 (l := l) (p := fun x => Op.bytesLess x s) (x := y) (by rw [hD]; rfl)
    have hys : s < y := by
     have h0 : ¬ y < s := by rw [zjb] at hy; exact of_decide_eq_false hy
     rcases qbh (List.not_lt.1 h0) with h | h
     ·exact h
     ·exact absurd (by rw [hD, h]; rfl) hne
    rw [hD] at ha h2
    rcases List.mem_cons.1 ha with rfl | ha
    ·exact hys
    ·exact List.lt_trans hys ((List.pairwise_cons.1 h2).1 a ha)
  rw [List.append_assoc]
  refine List.pairwise_append.2 ⟨h1, ?_, fun a ha b hb => ?_⟩
  ·exact List.pairwise_cons.2 ⟨hd, h2⟩
  ·rcases List.mem_cons.1 hb with rfl | hb
   ·exact ht a ha
   ·exact h3 a ha b hb
end Go.Proofs.YtnkagnjiljjpcaaGreat
namespace Go.Proofs.YtnkagnjiljjpcaaGreat
set_option linter.unusedSimpArgs false
set_option linter.unusedVariables false
set_option linter.unusedSectionVars false
set_option maxRecDepth 4000
open Go.RowKit
theorem Tm.wt_args {a : Tm} {n : Nat} (h : a.wt <= n) : a.args.length <= n /\ ∀ x ∈ a.args, x.wt <= n := by
 have e := Tm.wt_eq a
 refine ⟨by omega, fun x hx => ?_⟩
 have := zb8 Tm.wt a.args x hx
 omega
set_option maxRecDepth 10000 in
theorem zmq (xs : List Tm) (H : ∀ x ∈ xs, FC Tryz.prog 87 [tmD x] [tmD x]) (hs : xs.length <= 1048576) :
  FC Tryz.prog 110 [.one (tmS xs)] [.one (tmS xs)] := by
 by_cases h0 : xs = []
 ·subst h0
  refine zan Tryz.call110 Tryz.func110 rfl (by kernel_rfl) (za3 (by kernel_rfl)) ?_
  simp -implicitDefEqProofs only [go_sem, Tryz.results110]
 ·have hp : ((xs.length : Int) == 0) = false := by
   have : 0 < xs.length := List.length_pos_iff.2 h0
   simp; omega
  refine zan Tryz.call110 Tryz.func110 rfl (by kernel_rfl) (za3 (by kernel_rfl)) ?_
  simp -implicitDefEqProofs only [go_sem, Tryz.results110, hp]
  refine zx3 (by simp -implicitDefEqProofs only [go_sem]; omega) ?_
  simp -implicitDefEqProofs only [go_sem]
  refine zag (fun k : Nat => hd [(12, vT (tmS xs)), (13, vI xs.length), (3, .one (.ow 352 0)), (14, vI k)] [] [(352, ⟨true, 2, (xs.take k).map tmC ++ List.replicate (xs.length - k) [T.str [], T.sl 2 []], 0, true⟩)]) (fun k => k <= xs.length) (fun k => xs.length - k) 0 (zab ?_) ?_ ?_
  ·simp -implicitDefEqProofs only [go_sem]
   simp
  ·simp
  ·intro k hk
   by_cases hlt : k < xs.length
   ·have hlen : ((xs.take k).map tmC ++ List.replicate (xs.length - k) [T.str [], T.sl 2 []]).length = xs.length := by simp; omega
    have hlt2 : k < k + (xs.length - k) := by omega
    simp -implicitDefEqProofs only [go_sem, List.length_map, zaf, hlt, zaa]
    refine callF (H xs[k] (List.getElem_mem hlt)) (by simp -implicitDefEqProofs only [go_sem, zaa, hlen, hlt, List.length_append, List.length_map, List.length_take, List.length_replicate, Nat.min_eq_left hk, hlt2]) ?_
    simp -implicitDefEqProofs only [go_sem, zaa, hlen, hlt, List.length_append, List.length_map, List.length_take, List.length_replicate, Nat.min_eq_left hk, hlt2]
    refine zfi (by simp -implicitDefEqProofs only [go_sem]; simp) ?_
    simp -implicitDefEqProofs only [go_sem]
    rw [zam (by omega)]
    refine ⟨k + 1, by omega, by omega, zab ?_⟩
    simp -implicitDefEqProofs only [go_sem]
    have hf := zeu ((xs.take k).map tmC) xs.length k [T.str [], T.sl 2 []] (tmC xs[k]) (by simp; omega) hlt (by simp [zaa])
    simp only [zaa] at hf
    rw [hf, List.take_succ_eq_append_getElem hlt, List.map_append, List.map_singleton]
    simp only [zaa]
   ·simp -implicitDefEqProofs only [go_sem, List.length_map, hlt]
    simp [List.take_of_length_le (show xs.length <= k by omega), show xs.length - k = 0 by omega]
theorem znz (a : Tm) (H : FC Tryz.prog 110 [.one (tmS a.args)] [.one (tmS a.args)]) : FC Tryz.prog 87 [tmD a] [tmD a] := by
 simp only [tmD, zaa a]
 refine zan Tryz.call87 Tryz.func87 rfl (by kernel_rfl) (za3 (by kernel_rfl)) ?_
 simp -implicitDefEqProofs only [go_sem, Tryz.results87]
 refine drawn (by kernel_rfl) ?_
 simp -implicitDefEqProofs only [go_sem]
 refine za0 (H) (by simp -implicitDefEqProofs only [go_sem]) ?_
 simp -implicitDefEqProofs only [go_sem]
 kernel_rfl
theorem zq3 : ∀ a : Tm, a.wt <= 1048576 -> FC Tryz.prog 87 [tmD a] [tmD a] :=
 zbd fun n xs ih hs => by
  obtain ⟨h1, h2⟩ := Tm.wt_args hs
  exact znz (.mk n xs) (zmq xs (fun x hx => ih x hx (h2 x hx)) h1)
end Go.Proofs.YtnkagnjiljjpcaaGreat
namespace Go.Proofs.YtnkagnjiljjpcaaGreat
set_option linter.unusedSimpArgs false
set_option linter.unusedVariables false
set_option linter.unusedSectionVars false
set_option maxRecDepth 4000
open Go.RowKit
abbrev ze7 (xs : List Int) : T := .sl 1 (xs.map fun s => [.int .i64 s])
end Go.Proofs.YtnkagnjiljjpcaaGreat
namespace Go.Proofs.YtnkagnjiljjpcaaGreat
set_option linter.unusedSimpArgs false
set_option linter.unusedVariables false
set_option linter.unusedSectionVars false
set_option maxRecDepth 4000
open Go.RowKit
theorem zjp {α : Type} {p : α -> Bool} : ∀ {l : List α} {k : Nat}, k <= l.length -> (∀ x ∈ l.take k, p x = true) -> (∀ h : k < l.length, p l[k] = false) -> l.takeWhile p = l.take k /\ l.dropWhile p = l.drop k
 | [], k, hk, _, _ => by simp
 | a :: l, 0, hk, _, h2 => by have := h2 (by simp); simp only [List.getElem_cons_zero] at this; simp [this]
 | a :: l, k + 1, hk, h1, h2 => by
  have ha := h1 a (by simp)
  obtain ⟨e1, e2⟩ := zjp (l := l) (k := k) (by simpa using hk) (fun x hx => h1 x (by simp [hx])) (fun h => h2 (by simpa using h))
  simp [ha, e1, e2]
theorem zt9 {l : List Str} {s : Str} {k : Nat} (hk : k <= l.length) (h1 : ∀ x ∈ l.take k, Op.bytesLess x s = true) (h2 : ∀ h : k < l.length, Op.bytesLess l[k] s = false) : zsf l s = if (l.drop k).head? = some s then l else l.take k ++ [s] ++ l.drop k := by
 obtain ⟨e1, e2⟩ := zjp (p := fun x => Op.bytesLess x s) hk h1 h2
 unfold zsf
 rw [e1, e2]
theorem flR_of {rows : List (List T)} (h : ∀ r ∈ rows, r.all T.flat = true) : flR rows = true := by
 induction rows with
 | nil => rfl
 | cons r rs ih => unfold flR; rw [h r (by simp), ih fun r hr => h r (by simp [hr])]; rfl
theorem zpo (l : List Str) : flR (l.map fun s => [T.str s]) = true := flR_of fun r hr => by obtain ⟨s, _, rfl⟩ := List.mem_map.1 hr; rfl
theorem zbg (k : Nat) (l : List Str) : flR ((l.map fun s => [T.str s]).take k) = true := by rw [<- List.map_take]; exact zpo _
theorem zbf (k : Nat) (l : List Str) : flR ((l.map fun s => [T.str s]).drop k) = true := by rw [<- List.map_drop]; exact zpo _
theorem zbj {α β : Type} (f : α -> β) (l : List α) : (l.map f).take l.length = l.map f := List.take_of_length_le (by simp)
theorem qd6 (l : List Str) (s : Str) (hl : l.length <= 2147483648) : GC Tryz.prog 178 [(true, .one (zix l)), (false, sD s)] [.one (zix (zsf l s))] := by
 refine GC_of Tryz.call178 Tryz.func178 rfl (by kernel_rfl) (by simp only [List.length_cons, List.length_nil, Tryz.ntmps178]; omega) (by simp [zci, T.isPin]) ?_
 simp -implicitDefEqProofs only [go_sem, Tryz.results178]
 refine zag (fun k : Nat => hd [(0, .one (.ow 0 0)), (1, vT (.str s)), (5, vI k)] [] [(0, ⟨true, 1, l.map fun s => [.str s], 0, true⟩)]) (fun k => k <= l.length /\ ∀ x ∈ l.take k, Op.bytesLess x s = true) (fun k => l.length - k) 0 (zab ?_) ?_ ?_
 ·simp -implicitDefEqProofs only [go_sem]
 ·simp
 ·intro k ⟨hk, hr⟩
  have hm1 : min k l.length <= 4294967296 := by omega
  have hm2 : min k l.length <= 4294967295 := by omega
  have hm3 : min k l.length + 1 + (l.length - k) <= 4294967296 := by omega
  by_cases hlt : k < l.length
  ·have hnx : ∀ {b}, Op.bytesLess l[k] s = b -> b = true -> ∀ x ∈ l.take (k + 1), Op.bytesLess x s = true := fun {b} e hb x hx => by
    rw [List.take_succ_eq_append_getElem hlt] at hx
    rcases List.mem_append.1 hx with hx | hx
    ·exact hr x hx
    ·rw [List.mem_singleton.1 hx, e, hb]
   simp -implicitDefEqProofs only [go_sem, zaf, hlt]
   refine ⟨fun h => ⟨k + 1, ⟨hlt, hnx rfl h⟩, by omega, zab (by simp -implicitDefEqProofs only [go_sem]; rw [zam (by omega)])⟩, fun h => ?_⟩
   have hp := zt9 hk hr (fun _ => h)
   have hh : (l.drop k).head? = some l[k] := by rw [List.head?_drop, List.getElem?_eq_getElem hlt]
   refine ⟨fun h2 => ?_, fun h2 => ?_⟩
   ·rw [hp, if_pos (by rw [hh]; simpa using h2)]
   ·rw [if_neg (by rw [hh]; simpa using h2)] at hp
    refine frzD 0 ?_
    simp -implicitDefEqProofs only [go_sem]
    refine drawn (by kernel_rfl) ?_
    simp -implicitDefEqProofs only [go_sem, hk]
    refine zcm (by simp -implicitDefEqProofs only [go_sem, hk]) ?_
    simp -implicitDefEqProofs only [go_sem, hk]
    refine zkm true (by simp -implicitDefEqProofs only [go_sem, hk, ne_eq, Nat.zero_add, hm1, hm2, hm3, zbg, zbf, zbj, List.length_drop, List.length_take, List.length_append, List.length_map]) ?_
    simp -implicitDefEqProofs only [go_sem, hk, ne_eq, Nat.zero_add, hm1, hm2, hm3, zbg, zbf, zbj, List.length_drop, List.length_take, List.length_append, List.length_map]
    refine zcm (by simp -implicitDefEqProofs only [go_sem, hk]) ?_
    simp -implicitDefEqProofs only [go_sem, hk]
    refine zkm true (by simp -implicitDefEqProofs only [go_sem, hk, ne_eq, Nat.zero_add, hm1, hm2, hm3, zbg, zbf, zbj, List.length_drop, List.length_take, List.length_append, List.length_map]) ?_
    simp -implicitDefEqProofs only [go_sem, hk, ne_eq, Nat.zero_add, hm1, hm2, hm3, zbg, zbf, zbj, List.length_drop, List.length_take, List.length_append, List.length_map]
    refine zkm true (by simp -implicitDefEqProofs only [go_sem, hk, ne_eq, Nat.zero_add, hm1, hm2, hm3, zbg, zbf, zbj, List.length_drop, List.length_take, List.length_append, List.length_map]) ?_
    simp -implicitDefEqProofs only [go_sem, hk, ne_eq, Nat.zero_add, hm1, hm2, hm3, zbg, zbf, zbj, List.length_drop, List.length_take, List.length_append, List.length_map]
    refine ⟨by kernel_rfl, ?_⟩
    rw [hp]; simp
  ·simp -implicitDefEqProofs only [go_sem, hlt]
   have hp := zt9 hk hr (fun h => absurd h hlt)
   rw [if_neg (by rw [List.drop_of_length_le (by omega)]; simp)] at hp
   refine frzD 0 ?_
   simp -implicitDefEqProofs only [go_sem]
   refine drawn (by kernel_rfl) ?_
   simp -implicitDefEqProofs only [go_sem, hk]
   refine zcm (by simp -implicitDefEqProofs only [go_sem, hk]) ?_
   simp -implicitDefEqProofs only [go_sem, hk]
   refine zkm true (by simp -implicitDefEqProofs only [go_sem, hk, ne_eq, Nat.zero_add, hm1, hm2, hm3, zbg, zbf, zbj, List.length_drop, List.length_take, List.length_append, List.length_map]) ?_
   simp -implicitDefEqProofs only [go_sem, hk, ne_eq, Nat.zero_add, hm1, hm2, hm3, zbg, zbf, zbj, List.length_drop, List.length_take, List.length_append, List.length_map]
   refine zcm (by simp -implicitDefEqProofs only [go_sem, hk]) ?_
   simp -implicitDefEqProofs only [go_sem, hk]
   refine zkm true (by simp -implicitDefEqProofs only [go_sem, hk, ne_eq, Nat.zero_add, hm1, hm2, hm3, zbg, zbf, zbj, List.length_drop, List.length_take, List.length_append, List.length_map]) ?_
   simp -implicitDefEqProofs only [go_sem, hk, ne_eq, Nat.zero_add, hm1, hm2, hm3, zbg, zbf, zbj, List.length_drop, List.length_take, List.length_append, List.length_map]
   refine zkm true (by simp -implicitDefEqProofs only [go_sem, hk, ne_eq, Nat.zero_add, hm1, hm2, hm3, zbg, zbf, zbj, List.length_drop, List.length_take, List.length_append, List.length_map]) ?_
   simp -implicitDefEqProofs only [go_sem, hk, ne_eq, Nat.zero_add, hm1, hm2, hm3, zbg, zbf, zbj, List.length_drop, List.length_take, List.length_append, List.length_map]
   refine ⟨by kernel_rfl, ?_⟩
   rw [hp]; simp
end Go.Proofs.YtnkagnjiljjpcaaGreat
namespace Go.Proofs.YtnkagnjiljjpcaaGreat
set_option linter.unusedSimpArgs false
set_option linter.unusedVariables false
set_option linter.unusedSectionVars false
set_option maxRecDepth 4000
open Go.RowKit
theorem qea {b : UInt8} (h1 : decide ((b.toNat : Int) < 65) = false) (h2 : decide ((90 : Int) < b.toNat) = false) : zfw b = true := by
 simp [zfw] at *; omega
theorem zzm {b : UInt8} (h1 : decide ((b.toNat : Int) < 65) = true) : zfw b = false := by
 simp [zfw] at *; omega
theorem zyk {b : UInt8} (h2 : decide ((90 : Int) < b.toNat) = true) : zfw b = false := by
 simp [zfw] at *; omega
theorem zzi {b : UInt8} (h1 : decide ((b.toNat : Int) < 97) = false) (h2 : decide ((122 : Int) < b.toNat) = false) : zdr b = true := by
 simp [zdr] at *; omega
theorem zut {b : UInt8} (h1 : decide ((b.toNat : Int) < 97) = true) : zdr b = false := by
 simp [zdr] at *; omega
theorem zxa {b : UInt8} (h2 : decide ((122 : Int) < b.toNat) = true) : zdr b = false := by
 simp [zdr] at *; omega
theorem zqh {s : Str} (h : 0 < s.length) : znd s = (zfw (s.getD 0 0) && (s.drop 1).all zjz) := by
 cases s
 ·exact absurd h (by simp)
 ·rfl
theorem zlq {s : Str} (h : 0 < s.length) : zhw s = (zdr (s.getD 0 0) && (s.drop 1).all zke) := by
 cases s
 ·exact absurd h (by simp)
 ·rfl
theorem zi5 (s : Str) : FC Tryz.prog 153 [sD s] [bD (za7 s)] := by
 refine zbw (fun hw => ?_) Tryz.call153
 have hl : s.length <= 9223372036854775807 := by simpa [zd3, wfT] using hw.1
 refine zan Tryz.call153 Tryz.func153 rfl (by kernel_rfl) (za3 (by kernel_rfl)) ?_
 simp -implicitDefEqProofs only [go_sem, Tryz.results153]
 refine callF (qbp s.length 1 4) (by simp -implicitDefEqProofs only [go_sem]) ?_
 simp -implicitDefEqProofs only [go_sem]
 by_cases hb : inB s.length 1 4 = true
 ·have hp : 0 < s.length := by simp [inB] at hb; omega
  have hp' : (0 : Int) < s.length := by omega
  have he := zqh hp
  refine ⟨fun h => ⟨hp', fun h1 => ⟨hp', fun h2 => ?_, fun h2 => ?_⟩, fun h1 => ?_⟩, fun h => by simp [hb] at h⟩
  ·rw [za7, he, zyk h2]; rfl
  ·rw [qea h1 h2, Bool.true_and] at he
   refine zag (fun k : Nat => hd [(0, vT (.str s)), (3, vI k)] [] []) (fun k => k <= s.length /\ znd s = (s.drop k).all zjz) (fun k => s.length - k) 1 (zab ?_) ?_ ?_
   ·simp -implicitDefEqProofs only [go_sem]
   ·exact ⟨hp, he⟩
   ·intro k ⟨hk, hr⟩
    by_cases hlt : k < s.length
    ·have hg : s.getD k 0 = s[k] := by simp [List.getD, hlt]
     rw [List.drop_eq_getElem_cons hlt, List.all_cons] at hr
     simp -implicitDefEqProofs only [go_sem, hlt]
     simp only [hg]
     refine callF (zk0 s[k]) (by simp -implicitDefEqProofs only [go_sem]) ?_
     simp -implicitDefEqProofs only [go_sem]
     refine ⟨fun h => ?_, fun h => ⟨k + 1, ⟨hlt, ?_⟩, by omega, zab (by simp -implicitDefEqProofs only [go_sem]; rw [zam (by omega)])⟩⟩
     ·have : zjz s[k] = false := by simpa using h
      rw [za7, hr, this]; rfl
     ·have : zjz s[k] = true := by simpa using h
      rw [hr, this]; rfl
    ·simp -implicitDefEqProofs only [go_sem, hlt]
     rw [za7, hr, List.drop_of_length_le (by omega), hb]; rfl
  ·rw [za7, he, zzm h1]; rfl
 ·have hb' : inB s.length 1 4 = false := by simpa using hb
  refine ⟨fun h => by simp [hb'] at h, fun h => ?_⟩
  rw [za7, hb', Bool.and_false]
set_option maxHeartbeats 1000000 in
theorem zii (s : Str) : FC Tryz.prog 157 [sD s] [bD (zca s)] := by
 refine zbw (fun hw => ?_) Tryz.call157
 have hl : s.length <= 9223372036854775807 := by simpa [zd3, wfT] using hw.1
 refine zan Tryz.call157 Tryz.func157 rfl (by kernel_rfl) (za3 (by kernel_rfl)) ?_
 simp -implicitDefEqProofs only [go_sem, Tryz.results157]
 refine callF (qbp s.length 1 6) (by simp -implicitDefEqProofs only [go_sem]) ?_
 simp -implicitDefEqProofs only [go_sem]
 by_cases hb : inB s.length 1 6 = true
 ·have hp : 0 < s.length := by simp [inB] at hb; omega
  have hp' : (0 : Int) < s.length := by omega
  have he := zlq hp
  refine ⟨fun h => ⟨hp', fun h1 => ⟨hp', fun h2 => ?_, fun h2 => ?_⟩, fun h1 => ?_⟩, fun h => by simp [hb] at h⟩
  ·rw [zca, he, zxa h2]; rfl
  ·rw [zzi h1 h2, Bool.true_and] at he
   have leaf : ∀ l, l ∈ zng -> (s == l) = true -> T.bool false = T.bool (zca s) := fun l hl e => by
    have : zng.contains s = true := by rw [List.contains_iff_mem, beq_iff_eq.1 e]; exact hl
    rw [zca, this, Bool.not_true, Bool.and_false]
   refine ⟨fun e => ⟨fun _ => leaf _ (by simp [zng]) e, fun e' => absurd (e.symm.trans e') (by simp)⟩, fun n1 => ?_⟩
   refine ⟨fun e => ⟨fun _ => leaf _ (by simp [zng]) e, fun e' => absurd (e.symm.trans e') (by simp)⟩, fun n2 => ?_⟩
   refine ⟨fun e => ⟨fun _ => leaf _ (by simp [zng]) e, fun e' => absurd (e.symm.trans e') (by simp)⟩, fun n3 => ?_⟩
   refine ⟨fun e => ⟨fun _ => leaf _ (by simp [zng]) e, fun e' => absurd (e.symm.trans e') (by simp)⟩, fun n4 => ?_⟩
   refine ⟨fun e => ⟨fun _ => leaf _ (by simp [zng]) e, fun e' => absurd (e.symm.trans e') (by simp)⟩, fun n5 => ?_⟩
   refine ⟨fun e => ⟨fun _ => leaf _ (by simp [zng]) e, fun e' => absurd (e.symm.trans e') (by simp)⟩, fun n6 => ?_⟩
   refine ⟨fun e => ⟨fun _ => leaf _ (by simp [zng]) e, fun e' => absurd (e.symm.trans e') (by simp)⟩, fun n7 => ?_⟩
   refine ⟨fun e => leaf _ (by simp [zng]) e, fun n8 => ?_⟩
   have hnc : zng.contains s = false := by
    simp only [beq_eq_false_iff_ne, ne_eq] at n1 n2 n3 n4 n5 n6 n7 n8
    rw [Bool.eq_false_iff, ne_eq, List.contains_iff_mem]
    simp only [zng, List.mem_cons, List.not_mem_nil, or_false, not_or]
    exact ⟨n1, n2, n3, n4, n5, n6, n7, n8⟩
   refine zag (fun k : Nat => hd [(0, vT (.str s)), (3, vI k)] [] []) (fun k => k <= s.length /\ zhw s = (s.drop k).all zke) (fun k => s.length - k) 1 (zab ?_) ?_ ?_
   ·simp -implicitDefEqProofs only [go_sem]
   ·exact ⟨hp, he⟩
   ·intro k ⟨hk, hr⟩
    by_cases hlt : k < s.length
    ·have hg : s.getD k 0 = s[k] := by simp [List.getD, hlt]
     rw [List.drop_eq_getElem_cons hlt, List.all_cons] at hr
     simp -implicitDefEqProofs only [go_sem, hlt]
     simp only [hg]
     refine callF (zk0 s[k]) (by simp -implicitDefEqProofs only [go_sem]) ?_
     simp -implicitDefEqProofs only [go_sem]
     simp only [hg]
     refine ⟨fun h => ⟨hlt, fun h' => ?_, fun h' => ⟨k + 1, ⟨hlt, ?_⟩, by omega, zab (by simp -implicitDefEqProofs only [go_sem]; rw [zam (by omega)])⟩⟩, fun h => ⟨k + 1, ⟨hlt, ?_⟩, by omega, zab (by simp -implicitDefEqProofs only [go_sem]; rw [zam (by omega)])⟩⟩
     ·have : zke s[k] = false := by
       simp [zke] at h ⊢
       refine ⟨h, fun e => ?_⟩
       rw [e] at h'
       simp at h'
      rw [zca, hr, this]; rfl
     ·have : zke s[k] = true := by
       have := qc8 (b := s[k]) (n := 95) (by omega)
       simp [zke] at h' ⊢
       right
       simpa [h'] using this
      rw [hr, this]; rfl
     ·have : zke s[k] = true := by simp [zke]; simp at h; simp [h]
      rw [hr, this]; rfl
    ·simp -implicitDefEqProofs only [go_sem, hlt]
     rw [zca, hr, List.drop_of_length_le (by omega), hb, hnc]; rfl
  ·rw [zca, he, zut h1]; rfl
 ·have hb' : inB s.length 1 6 = false := by simpa using hb
  refine ⟨fun h => by simp [hb'] at h, fun h => ?_⟩
  rw [zca, hb', Bool.and_false]; rfl
end Go.Proofs.YtnkagnjiljjpcaaGreat
