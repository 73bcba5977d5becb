/-
  The walk over plain data, and contracts of functions of the program and of its laws.
  Conditions: those that each theorem names.
-/
import Derived.Test.YtmhbmpbgpjljeaaGreatQT3
import Derived.RangeFuncNested
import Derived.RangeFuncLeaves
import Derived.Test.YtmhbmpbgpjljeaaGreatProg
import Derived.KernelRfl
import Derived.Test.YtmhbmpbgpjljeaaGreatQT1
namespace Go.Proofs.YtmhbmpbgpjljeaaGreat
set_option linter.unusedSimpArgs false
set_option linter.unusedVariables false
set_option linter.unusedSectionVars false
set_option maxRecDepth 4000
open Go.RowKit
variable {P : Program}
def qgz (v : Value) : T -> T
 | .sl sz rows => .pin v (.sl sz rows)
 | t => t
def qbb (us : Nat -> Value) : Nat -> List T -> List T
 | _, [] => []
 | j, c :: cs => qgz (us j) c :: qbb us (j + 1) cs
def zfa (vs : Nat -> Nat -> Value) : Nat -> List (List T) -> List (List T)
 | _, [] => []
 | i, r :: rs => qbb (vs i) 0 r :: zfa vs (i + 1) rs
theorem zrs (us : Nat -> Value) : ∀ (cs : List T) (j : Nat), (qbb us j cs).length = cs.length
 | [], _ => rfl
 | c :: cs, j => by simp [qbb, zrs us cs]
theorem zfx (vs : Nat -> Nat -> Value) : ∀ (rs : List (List T)) (i : Nat), (zfa vs i rs).length = rs.length
 | [], _ => rfl
 | c :: cs, j => by simp [zfa, zfx vs cs]
theorem zao.pin {w : World} {t : T} {v : Value} {fp : List Nat} (h : zao w t v fp) : zao w (qgz v t) v fp := by
 unfold qgz
 split
 ·unfold zao; exact ⟨rfl, h⟩
 ·exact h
theorem za2.pin {w : World} {cells : Array Value} {us : Nat -> Value} : ∀ {cs : List T} {o j : Nat} {fps : List Nat}, za2 w cells o cs fps -> (∀ i, us (j + i) = cells.getD (o + i) undef) -> za2 w cells o (qbb us j cs) fps
 | [], _, _, _, h, _ => h
 | c :: cs, o, j, fps, h, hu => by
  unfold za2 at h
  obtain ⟨v, f1, f2, h1, rfl, h2, h3⟩ := h
  unfold qbb za2
  have e : us j = v := by have := hu 0; rw [Nat.add_zero, Nat.add_zero] at this; rw [this, Array.getD_eq_getD_getElem?, h1]; rfl
  refine ⟨v, f1, f2, h1, rfl, by rw [e]; exact h2.pin, za2.pin h3 fun i => ?_⟩
  have := hu (i + 1)
  rwa [show j + (i + 1) = j + 1 + i by omega, show o + (i + 1) = o + 1 + i by omega] at this
theorem zah.pin {w : World} {cells : Array Value} {sz : Nat} : ∀ {rows : List (List T)} {i : Nat} {fps : List Nat}, zah w cells (i * sz) sz rows fps -> zah w cells (i * sz) sz (zfa (fun i j => cells.getD (i * sz + j) undef) i rows) fps
 | [], _, _, h => h
 | r :: rs, i, fps, h => by
  unfold zah at h
  obtain ⟨h1, f1, f2, rfl, h2, h3⟩ := h
  unfold zfa zah
  refine ⟨by rw [zrs]; exact h1, f1, f2, rfl, h2.pin fun j => by simp, ?_⟩
  rw [show i * sz + sz = (i + 1) * sz by rw [Nat.add_mul]; omega] at h3 ⊢
  exact zah.pin h3
theorem zao.pins {w : World} {sz : Nat} {rows : List (List T)} {v : Value} {fp : List Nat} (h : zao w (.sl sz rows) v fp) : ∃ vs, zao w (.sl sz (zfa vs 0 rows)) v fp := by
 unfold zao at h
 obtain ⟨ao, cap, h1, h2, h3, h4⟩ := h
 rcases h4 with ⟨k1, k2, rfl, k4⟩ | ⟨b, cells, ty, fps, k1, k2, k3, k4, k5⟩
 ·refine ⟨fun _ _ => undef, ?_⟩
  unfold zao
  exact ⟨ao, cap, h1, h2, h3, Or.inl ⟨k1, k2, rfl, k4⟩⟩
 ·refine ⟨fun i j => cells.getD (i * sz + j) undef, ?_⟩
  unfold zao
  have := zah.pin (i := 0) (by rw [Nat.zero_mul]; exact k5)
  rw [Nat.zero_mul] at this
  exact ⟨ao, cap, by rw [zfx]; exact h1, by rw [zfx]; exact h2, h3, Or.inr ⟨b, cells, ty, fps, k1, k2, k3, k4, this⟩⟩
def zno : T -> T
 | .pin _ t => t
 | t => t
def zfp (rs : List (List T)) : List (List T) := rs.map fun r => r.map zno
theorem zao.unpin {w : World} : ∀ {t : T} {v : Value} {fp : List Nat}, zao w t v fp -> zao w (zno t) v fp
 | .pin _ _, _, _, h => by unfold zao at h; exact h.2
 | .int _ _, _, _, h => h
 | .bool _, _, _, h => h
 | .str _, _, _, h => h
 | .sl _ _, _, _, h => h
 | .ptr _, _, _, h => h
 | .fn _ _, _, _, h => h
 | .mp _ _, _, _, h => h
 | .vs _ _ _, _, _, h => h
theorem za2.unpin {w : World} {cells : Array Value} : ∀ {cs : List T} {o : Nat} {fps : List Nat}, za2 w cells o cs fps -> za2 w cells o (cs.map zno) fps
 | [], _, _, h => h
 | c :: cs, o, fps, h => by
  unfold za2 at h
  obtain ⟨v, f1, f2, h1, rfl, h2, h3⟩ := h
  rw [List.map_cons]
  unfold za2
  exact ⟨v, f1, f2, h1, rfl, h2.unpin, h3.unpin⟩
theorem zah.unpin {w : World} {cells : Array Value} {sz : Nat} : ∀ {rows : List (List T)} {o : Nat} {fps : List Nat}, zah w cells o sz rows fps -> zah w cells o sz (zfp rows) fps
 | [], _, _, h => h
 | r :: rs, o, fps, h => by
  unfold zah at h
  obtain ⟨h1, f1, f2, rfl, h2, h3⟩ := h
  show zah w cells o sz (r.map zno :: zfp rs) (f1 ++ f2)
  unfold zah
  exact ⟨by simpa using h1, f1, f2, rfl, h2.unpin, h3.unpin⟩
theorem zao.unpins {w : World} {sz : Nat} {rows : List (List T)} {v : Value} {fp : List Nat} (h : zao w (.sl sz rows) v fp) : zao w (.sl sz (zfp rows)) v fp := by
 unfold zao at h ⊢
 have hl : (zfp rows).length = rows.length := by simp [zfp]
 obtain ⟨ao, cap, h1, h2, h3, h4⟩ := h
 refine ⟨ao, cap, by rw [hl]; exact h1, by rw [hl]; exact h2, h3, ?_⟩
 rcases h4 with ⟨k1, k2, rfl, k4⟩ | ⟨b, cells, ty, fps, k1, k2, k3, k4, k5⟩
 ·exact Or.inl ⟨k1, k2, rfl, k4⟩
 ·exact Or.inr ⟨b, cells, ty, fps, k1, k2, k3, k4, k5.unpin⟩
theorem Rel.reown {n0 : Nat -> Prop} {N : Nat} {σ : St} {g : Gh} {a : Act} {w : World} (hR : Rel n0 N σ g a w) (hn : LtK n0 w) {e sz gn : Nat} {rows rows' : List (List T)} (he : σ.ev e = some ⟨true, sz, rows, gn, true⟩) (h : zao w (.sl sz rows') (g.ψ e gn) (g.φ e)) :
  Rel n0 N (σ.inp [(e, rows')]) g a w := by
 have hOn : σ.On e := ⟨_, he, rfl⟩
 have hev : ∀ e', (∀ p ∈ [(e, rows')], p.1 ≠ e') -> (σ.inp [(e, rows')]).ev e' = σ.ev e' := fun e' h' => zf4 (by simpa using Ne.symm (h' (e, rows') (List.mem_singleton.2 rfl)))
 have m : Mv σ (σ.inp [(e, rows')]) g g w w := by
  refine ⟨fun b hf => rfl, fun b hf => ⟨hf.1, fun e' x hx hon => ?_, hf.2.2⟩, fun b hb => ⟨rfl, hb⟩, fun e n he => ⟨zgz he, rfl⟩, fun b hb => (zo3 hR (U := [(e, rows')]) (fp := g.φ e) (φ' := g.φ) (fun b hb => ⟨(e, rows'), List.mem_singleton.2 rfl, hb⟩) (fun p hp => by rw [List.mem_singleton.1 hp]; exact hOn) (Bk.refl _ _) (fun p hp b hb => Or.inl (by rw [List.mem_singleton.1 hp] at hb; exact hb)) (fun _ _ => rfl) b hb).2.2⟩
  by_cases h' : e' = e
  ·subst h'; exact hf.2.1 e' _ he rfl
  ·exact hf.2.1 e' x ((hev e' (by simpa using Ne.symm h')).symm.trans hx) hon
 exact hR.inp hn (fp := g.φ e) (fp' := g.φ e) (φ' := g.φ) (by simp) (by simp) (fun b hb => ⟨(e, rows'), List.mem_singleton.2 rfl, hb⟩) (Bk.refl _ _) (fun b hb => Or.inl hb) (fun _ _ => rfl)
  (fun p hp => by simp at hp; subst hp; exact ⟨sz, rows, gn, he, h, hR.nodup e hOn, fun b hb => hb⟩) (fun p hp q hq hne => by simp at hp hq; subst hp; subst hq; exact absurd rfl hne)
  (fun i v h => m.vr h) (fun b cs vs _ h => m.crs h) (fun e x _ _ _ v fpx hE hs => m.evr hE hs) (fun e x _ _ v h => m.rep h)
def qd9 (vs : Nat -> Nat -> Value) (sz : Nat) (rows : List (List T)) (post : List D) : St := (zva [] (.one (.sl sz rows)) post).inp [(0, zfa vs 0 rows)]
theorem qab {f : FuncId} {fn : Func} {c : Code} {sz : Nat} {rows rows' : List (List T)} {post : List D} {res : List D} (hc : za1 P f) (hf : P.funcs[f]? = some fn) (hb : fn.body = some c) (hd : zcf fn.ntmps c = true) (hN : (ze9 [] (.one (.sl sz rows)) post).length <= fn.ntmps) (hN2 : fn.ntmps <= 1000000)
  (h : ∀ vs, ex P c [] (PI P fn.results.toList (.one (.sl sz rows')) res) (qd9 vs sz rows post)) : IC P f [] (.one (.sl sz rows)) post (.one (.sl sz rows')) res := by
 have hs : ∀ ds : List D, zcj (ze9 [] (.one (.sl sz rows)) ds) := fun ds => ⟨rfl, zc6 ds⟩
 refine IC_ofW hc hf hb hd hN hN2 (hs _) trivial fun n0 N g a w hR hn => ?_
 have he : (zva [] (.one (.sl sz rows)) post).ev 0 = some ⟨true, sz, rows, 0, true⟩ := rfl
 have hO := zdp hR he
 obtain ⟨vs, hv⟩ := hO.pins
 exact ⟨_, h vs, hR.reown hn he hv⟩
theorem za2.cell {w : World} {cells : Array Value} : ∀ {cs : List T} {o j : Nat} {c : T} {fps : List Nat}, za2 w cells o cs fps -> cs[j]? = some c →
  ∃ f1 f f2 v, fps = f1 ++ (f ++ f2) /\ cells[o + j]? = some v /\ zao w c v f /\ ∀ (w' : World) (c' : T) (f' : List Nat), (∀ b, b ∈ f1 \/ b ∈ f2 -> w'.heap[b]? = w.heap[b]?) -> zao w' c' v f' -> za2 w' cells o (cs.set j c') (f1 ++ (f' ++ f2))
 | [], _, _, _, _, _, h => by simp at h
 | d :: cs, o, 0, c, fps, h, hc => by
  unfold za2 at h
  obtain ⟨v, f1, f2, h1, rfl, h2, h3⟩ := h
  simp only [List.getElem?_cons_zero, Option.some.injEq] at hc
  subst hc
  refine ⟨[], f1, f2, v, rfl, h1, h2, fun w' c' f' hk ho => ?_⟩
  show za2 w' cells o (c' :: cs) (f' ++ f2)
  unfold za2
  exact ⟨v, f', f2, h1, rfl, ho, za2.keep cells _ cs f2 h3 fun b hb => hk b (Or.inr hb)⟩
 | d :: cs, o, j + 1, c, fps, h, hc => by
  unfold za2 at h
  obtain ⟨v, f1, f2, h1, rfl, h2, h3⟩ := h
  obtain ⟨g1, g, g2, u, rfl, k1, k2, k3⟩ := za2.cell h3 (by simpa using hc)
  refine ⟨f1 ++ g1, g, g2, u, by simp, by rw [<- k1]; congr 1; omega, k2, fun w' c' f' hk ho => ?_⟩
  show za2 w' cells o (d :: cs.set j c') _
  unfold za2
  exact ⟨v, f1, g1 ++ (f' ++ g2), h1, by simp, zao.keep d v f1 h2 fun b hb => hk b (Or.inl (by simp [hb])), k3 w' c' f' (fun b hb => hk b (by rcases hb with hb | hb <;> simp [hb])) ho⟩
theorem zah.cell {w : World} {cells : Array Value} {sz : Nat} : ∀ {rows : List (List T)} {o i j : Nat} {r : List T} {c : T} {fps : List Nat}, zah w cells o sz rows fps -> rows[i]? = some r -> r[j]? = some c →
  ∃ f1 f f2 v, fps = f1 ++ (f ++ f2) /\ cells[o + i * sz + j]? = some v /\ zao w c v f /\ ∀ (w' : World) (c' : T) (f' : List Nat), (∀ b, b ∈ f1 \/ b ∈ f2 -> w'.heap[b]? = w.heap[b]?) -> zao w' c' v f' -> zah w' cells o sz (rows.set i (r.set j c')) (f1 ++ (f' ++ f2))
 | [], _, _, _, _, _, _, _, h, _ => by simp at h
 | d :: rows, o, 0, j, r, c, fps, h, hr, hc => by
  unfold zah at h
  obtain ⟨h1, f1, f2, rfl, h2, h3⟩ := h
  simp only [List.getElem?_cons_zero, Option.some.injEq] at hr
  subst hr
  obtain ⟨g1, g, g2, u, rfl, k1, k2, k3⟩ := za2.cell h2 hc
  refine ⟨g1, g, g2 ++ f2, u, by simp, by simpa using k1, k2, fun w' c' f' hk ho => ?_⟩
  show zah w' cells o sz (d.set j c' :: rows) _
  unfold zah
  exact ⟨by simp [h1], g1 ++ (f' ++ g2), f2, by simp, k3 w' c' f' (fun b hb => hk b (by rcases hb with hb | hb <;> simp [hb])) ho, zah.keep cells _ sz rows f2 h3 fun b hb => hk b (by simp [hb])⟩
 | d :: rows, o, i + 1, j, r, c, fps, h, hr, hc => by
  unfold zah at h
  obtain ⟨h1, f1, f2, rfl, h2, h3⟩ := h
  obtain ⟨g1, g, g2, u, rfl, k1, k2, k3⟩ := zah.cell h3 (by simpa using hr) hc
  refine ⟨f1 ++ g1, g, g2, u, by simp, by rw [<- k1]; congr 1; rw [Nat.add_mul]; omega, k2, fun w' c' f' hk ho => ?_⟩
  show zah w' cells o sz (d :: rows.set i (r.set j c')) _
  unfold zah
  exact ⟨h1, f1, g1 ++ (f' ++ g2), by simp, za2.keep cells o d f1 h2 fun b hb => hk b (Or.inl (by simp [hb])), k3 w' c' f' (fun b hb => hk b (by rcases hb with hb | hb <;> simp [hb])) ho⟩
theorem zy8 {o : Oper} {σ : St} {x : Operand} {asx : Array Operand} {ts : Array TypeId} {f : FuncId} {cvs : List V} {post : List D} {sz1 : Nat} {rows1 rows1' : List (List T)} {res : List D} {v : Value} {p2 : List V} {e i j sz gn : Nat} {rows : List (List T)} {r : List T} (ho : o.op = .call ⟨.value x, asx, ts⟩)
  (h : IC P f [] (.one (.sl sz1 rows1)) post (.one (.sl sz1 rows1')) res) (hc : zav (σ.get P 0 x) = some (f, cvs)) (hx : σ.gets P asx ts ++ cvs = .one (.cv v) :: p2) (h2 : zud p2 post) (he : σ.ev e = some ⟨true, sz, rows, gn, true⟩) (hr : rows[i]? = some r) (hcl : r[j]? = some (.pin v (.sl sz1 rows1)))
  (hres : res.all D.fl = true) (hD : Deep σ) : zae P o σ ((σ.inp [(e, rows.set i (r.set j (.sl sz1 rows1')))]).put o.dst (zqp (res.map D.toV))) := by
 intro n0 N g a w hR hn hdN
 obtain ⟨vs, hrun, hvl⟩ := zct hR ho hc h.1
 rw [hx] at hvl
 obtain ⟨v1, us2, rfl, rfl, v4⟩ := hvl
 have hOn : σ.On e := ⟨_, he, rfl⟩
 have hO := zdp hR he
 have hnd := hR.nodup e hOn
 have hO2 := hO
 unfold zao at hO
 obtain ⟨ao, cap, e1, e2, e3, e4⟩ := hO
 rcases e4 with ⟨_, _, rfl, _⟩ | ⟨b0, cells, ty, fps, k1, k2, k3, k4, k5⟩
 ·simp at hr
 obtain ⟨f1, ff, f2, u, rfl, c1, c2, c3⟩ := zah.cell k5 hr hcl
 unfold zao at c2
 obtain ⟨rfl, c2⟩ := c2
 have hsubf : ∀ b', b' ∈ ff -> b' ∈ g.φ e := fun b' hb => by rw [k2]; simp [hb]
 rw [k2] at hnd
 obtain ⟨nb, nd⟩ := List.nodup_cons.1 hnd
 obtain ⟨nd1, nd2, nd3⟩ := List.nodup_append.1 nd
 obtain ⟨nd4, nd5, nd6⟩ := List.nodup_append.1 nd2
 have hbf : ∀ b', (b' = b0 \/ b' ∈ f1 \/ b' ∈ f2) -> b' ∉ ff := fun b' h hm => by
  rcases h with rfl | h | h
  ·exact nb (by simp [hm])
  ·exact nd3 b' h b' (by simp [hm]) rfl
  ·exact nd6 b' hm b' h rfl
 have hlt : ∀ b' ∈ g.φ e, b' < w.heap.size := (hR.evs e _ he rfl).lt
 unfold Oper.wp
 rw [hrun]
 refine (h.2 w [] u us2 ff (zgx (.sl sz1 rows1) ff) rfl ⟨c2, rfl⟩ (zh7 _ h2 v4) nd4).mono ?_
 rintro ee w' ⟨us, fp', tp', rfl, q1, q2, q3, q4⟩
 obtain ⟨v0, us0, g1, g2, t1, t2, e0, rfl, rfl, q5, q6⟩ := q1
 cases e0
 obtain ⟨n1, n2, n3⟩ := List.nodup_append.1 q2
 have hnew : ∀ b', b' < w.heap.size -> b' ∈ g1 -> b' ∈ ff := fun b' h1 h2 => (q3 b' (List.mem_append_left _ h2)).resolve_right (by omega)
 have hsub : ∀ b' ∈ g1, b' ∈ ff \/ w.heap.size <= b' := fun b' hb => q3 b' (List.mem_append_left _ hb)
 have hblk : ∀ b', b' < w.heap.size -> b' ∉ ff -> w'.heap[b']? = w.heap[b']? := fun b' h1 h2 => q4.block b' ⟨h1, h2⟩
 have hrows := c3 w' (.sl sz1 rows1') g1 (fun b' hb => hblk b' (hlt b' (by rw [k2]; rcases hb with hb | hb <;> simp [hb])) (hbf b' (Or.inr hb))) q5.1
 have hown : zao w' (.sl sz (rows.set i (r.set j (.sl sz1 rows1')))) (g.ψ e gn) (b0 :: (f1 ++ (g1 ++ f2))) := by
  unfold zao
  exact ⟨ao, cap, by simpa using e1, by simpa using e2, e3, Or.inr ⟨b0, cells, ty, _, k1, rfl, by rw [hblk b0 (hlt b0 (by rw [k2]; simp)) (hbf b0 (Or.inl rfl))]; exact k3, k4, hrows⟩⟩
 have hnd' : (b0 :: (f1 ++ (g1 ++ f2))).Nodup := by
  refine List.nodup_cons.2 ⟨fun hm => ?_, List.nodup_append.2 ⟨nd1, List.nodup_append.2 ⟨n1, nd5, fun x hx y hy hxy => ?_⟩, fun x hx y hy hxy => ?_⟩⟩
  ·have hl := hlt b0 (by rw [k2]; simp)
   simp only [List.mem_append] at hm
   rcases hm with hm | hm | hm
   ·exact nb (by simp [hm])
   ·exact nb (by simp [hnew b0 hl hm])
   ·exact nb (by simp [hm])
  ·subst hxy
   exact nd6 x (hnew x (hlt x (by rw [k2]; simp [hy])) hx) x hy rfl
  ·subst hxy
   have hl := hlt x (by rw [k2]; simp [hx])
   rcases List.mem_append.1 hy with hy | hy
   ·exact nd3 x hx x (by simp [hnew x hl hy]) rfl
   ·exact nd3 x hx x (by simp [hy]) rfl
 have hBkf : Bk (fun k => k < w.heap.size /\ k ∉ g.φ e) w w' := ⟨q4.os, q4.tape, q4.output, q4.size, fun k hk => q4.block k ⟨hk.1, fun hm => hk.2 (hsubf k hm)⟩⟩
 have hBk : Bk n0 w w' := ⟨q4.os, q4.tape, q4.output, q4.size, fun k hk => q4.block k ⟨hn k hk, fun hm => hR.etop e hOn k (hsubf k hm) hk⟩⟩
 have hfp' : ∀ b' ∈ b0 :: (f1 ++ (g1 ++ f2)), b' ∈ g.φ e \/ w.heap.size <= b' := fun b' hb => by
  simp only [List.mem_cons, List.mem_append] at hb
  rw [k2]
  rcases hb with hb | hb | hb | hb
  ·left; simp [hb]
  ·left; simp [hb]
  ·rcases hsub b' hb with hb | hb
   ·left; simp [hb]
   ·exact Or.inr hb
  ·left; simp [hb]
 generalize hrw : rows.set i (r.set j (.sl sz1 rows1')) = rows' at hown ⊢
 have j1 : ∀ e', (∀ p ∈ [(e, rows')], p.1 ≠ e') -> upd g.φ e (b0 :: (f1 ++ (g1 ++ f2))) e' = g.φ e' := fun e' h' => zak _ _ (Ne.symm (h' (e, rows') (List.mem_singleton.2 rfl)))
 have hfpU : ∀ b' ∈ g.φ e, ∃ p ∈ [(e, rows')], b' ∈ g.φ p.1 := fun b' hb => ⟨(e, rows'), List.mem_singleton.2 rfl, hb⟩
 have hOU : ∀ p ∈ [(e, rows')], σ.On p.1 := fun p hp => by rw [List.mem_singleton.1 hp]; exact hOn
 have hb' : ∀ p ∈ [(e, rows')], ∀ b' ∈ upd g.φ e (b0 :: (f1 ++ (g1 ++ f2))) p.1, b' ∈ g.φ e \/ w.heap.size <= b' := fun p hp b' hb => by
  rw [List.mem_singleton.1 hp, zag] at hb
  exact hfp' b' hb
 obtain ⟨d1, d2, d3⟩ := hD
 have hrn := zo3 hR hfpU hOU hBkf hb' j1
 have hR' : Rel n0 N (σ.inp [(e, rows')]) { g with φ := upd g.φ e (b0 :: (f1 ++ (g1 ++ f2))) } a w' := by
  refine hR.inp hn (by simp) (fun p hp => by rw [List.mem_singleton.1 hp]; exact fun _ h => h) hfpU hBkf hfp' j1
   (fun p hp => by rw [List.mem_singleton.1 hp, zag]; exact ⟨sz, rows, gn, he, hown, hnd', fun _ h => h⟩) (fun p hp q hq hne => by rw [List.mem_singleton.1 hp, List.mem_singleton.1 hq] at hne; exact absurd rfl hne)
   (fun i v h => qgd (g := g) (g' := { g with φ := upd g.φ e (b0 :: (f1 ++ (g1 ++ f2))) }) rfl rfl (fun e n => zgz) hrn (d1 i) h) (fun b cs vs hb h => ziv (g := g) (g' := { g with φ := upd g.φ e (b0 :: (f1 ++ (g1 ++ f2))) }) rfl rfl (fun e n => zgz) hrn (d2 b cs hb) h) (fun e x he hx hon v fpx hE hs => ?_) (fun e x hx hon => ?_)
  ·obtain ⟨ao, cap, r1, r2, r3, r4⟩ := hE
   refine ⟨ao, cap, r1, r2, r3, ?_⟩
   rcases r4 with r4 | ⟨b, cells, ty, fps, r4, r5, r6, r7, r8⟩
   ·exact Or.inl r4
   ·subst r5
    rw [if_pos (d3 e x hx).2] at r8
    exact Or.inr ⟨b, cells, ty, fps, r4, rfl, by rw [hs b (by simp)]; exact r6, r7, by rw [if_pos (d3 e x hx).2]; exact zah.keep cells 0 x.sz x.rows fps r8 fun b' hb' => hs b' (by simp [hb'])⟩
  ·rw [(d3 e x hx).1] at hon; cases hon
 refine ⟨{ g with φ := upd g.φ e (b0 :: (f1 ++ (g1 ++ f2))) }, ?_, hBk, rfl, rfl⟩
 exact hR'.put o.dst (zep (zaz.vrl (zma hres q6)) (fun y hy => by
  obtain ⟨d, _, rfl⟩ := List.mem_map.1 hy
  cases d <;> rfl)) hdN
def setCell (rows : List (List T)) (i j : Nat) (t : T) : List (List T) := rows.set i ((rows.getD i []).set j t)
def evC (i j : Nat) (t : T) (x : Ev) : Ev := ⟨x.deep, x.sz, setCell x.rows i j t, x.gen, x.on⟩
def St.cN (σ : St) (e i j : Nat) (t : T) (dst : Option Nat) (res : List D) : St := St.put ⟨σ.sl, σ.bx, upd σ.ev e ((σ.ev e).map (evC i j t))⟩ dst (zqp (res.map D.toV))
def onN (x : Option Ev) (i j : Nat) (v : Value) (t : T) : Prop := zan x fun y => y.on = true /\ y.deep = true /\ y.rows[i]?.isSome = true /\ (y.rows.getD i [])[j]? = some (.pin v t)
def qgm (xs : List V) (K : Value -> List V -> Prop) : Prop := match xs with
 | .one (.cv v) :: p2 => K v p2
 | _ => False
section
variable {ks : List Fr} {Q : Exit -> St -> Prop} {σ : St} {ops : Array Oper} {os : List Oper} {ty : TypeId} {ps : String} {af : Array Edge} {dst : Option Nat} {x : Operand} {asx : Array Operand} {ts : Array TypeId} {f : FuncId} {post : List D} {res : List D}
theorem callN {l : List (Nat × V)} {bl : List (Nat × List C)} {el : List (Nat × Ev)} (e i j : Nat) {sz1 : Nat} {rows1 rows1' : List (List T)} (h : IC P f [] (.one (.sl sz1 rows1)) post (.one (.sl sz1 rows1')) res) (hw : wkL σ (hd l bl el) l /\ wkB σ (hd l bl el) bl /\ wkE σ el)
  (hd1 : (l.all fun p => p.2.mOk) = true) (hd2 : (bl.all fun p => p.2.all C.mOk) = true) (hd3 : (el.all fun p => p.2.on && p.2.deep) = true)
  (hp : zan (zav ((hd l bl el).get P 0 x)) fun p => p.1 = f /\ qgm ((hd l bl el).gets P asx ts ++ p.2) fun v p2 => zud p2 post /\ onN (tbl el e) i j v (.sl sz1 rows1)) (hr : res.all D.fl = true)
  (k : exo P ops os ks Q ((hd l bl el).cN e i j (.sl sz1 rows1') dst res)) : exo P ops (⟨dst, .call ⟨.value x, asx, ts⟩, ty, ps, af, none⟩ :: os) ks Q σ := by
 obtain ⟨⟨f', cvs⟩, h1, rfl, h2⟩ := zal hp
 unfold qgm at h2
 split at h2
 ·rename_i v p2 hx
  obtain ⟨h3, h4⟩ := h2
  obtain ⟨⟨dp, sz, rows, gn, on⟩, he, rfl, rfl, h5, h6⟩ := zal h4
  obtain ⟨r, hr'⟩ := Option.isSome_iff_exists.1 h5
  have hg : rows.getD i [] = r := by rw [List.getD_eq_getElem?_getD, hr']; rfl
  rw [hg] at h6
  have hs := zy8 (P := P) (o := ⟨dst, .call ⟨.value x, asx, ts⟩, ty, ps, af, none⟩) (σ := hd l bl el) rfl h h1 hx h3 (e := e) he hr' h6 hr (zy1 hd1 hd2 hd3)
  refine zce rfl rfl (σ' := (hd l bl el).cN e i j (.sl sz1 rows1') dst res) ?_ k
  have e0 : (hd l bl el).cN e i j (.sl sz1 rows1') dst res = ((hd l bl el).inp [(e, rows.set i (r.set j (.sl sz1 rows1')))]).put dst (zqp (res.map D.toV)) := by
   unfold St.cN St.inp zvv zvv
   rw [show (hd l bl el).ev e = _ from he]
   simp only [Option.map_some, setCell, evC, hg]
  rw [e0]
  exact zae.pre (zaa hw) hs
 ·exact h2.elim
end
attribute [go_sem] qgm onN St.cN evC
end Go.Proofs.YtmhbmpbgpjljeaaGreat
namespace Go.Proofs.YtmhbmpbgpjljeaaGreat
set_option linter.unusedSimpArgs false
set_option linter.unusedVariables false
set_option linter.unusedSectionVars false
set_option maxRecDepth 4000
open Go.RowKit
variable {P : Program}
abbrev Sr := Nat × Option (Nat × Nat)
def okQ : Option (Nat × Nat) -> Option (Nat × Nat) -> Bool
 | some a, some b => !(a.1 == b.1 && a.2 == b.2)
 | _, _ => false
def okS : List Sr -> Sr -> Bool
 | [], _ => true
 | (e, p) :: u, (e', p') => (if e = e' then okQ p p' else true) && okS u (e', p')
def owU (x : Option Ev) (sz : Nat) (rows : List (List T)) (g : Nat) : Prop := zan x fun y => y.deep = true /\ y.sz = sz /\ (y.rows = rows \/ zfp y.rows = rows) /\ y.gen = g /\ y.on = true
def gvT (σ : St) (K : List Sr -> List (Nat × Nat × Nat) -> Prop) (u : List Sr) (ps : List (Nat × Nat × Nat)) (x t : T) : Prop := match x, ps with
 | .pin v y, (e, i, j) :: ps => y = t /\ okS u (e, some (i, j)) = true /\ onN (σ.ev e) i j v t /\ K ((e, some (i, j)) :: u) ps
 | x, ps => x = t /\ t.flat = true /\ K u ps
theorem qed {σ : St} {K K' : List Sr -> List (Nat × Nat × Nat) -> Prop} (hK : ∀ u ps, K u ps -> K' u ps) {u : List Sr} {ps : List (Nat × Nat × Nat)} {x t : T} (h : gvT σ K u ps x t) : gvT σ K' u ps x t := by
 unfold gvT at h ⊢
 split at h
 ·exact ⟨h.1, h.2.1, h.2.2.1, hK _ _ h.2.2.2⟩
 ·exact ⟨h.1, h.2.1, hK _ _ h.2.2⟩
def gvK (σ : St) (K : List Sr -> List (Nat × Nat × Nat) -> Prop) : List Sr -> List (Nat × Nat × Nat) -> List C -> List T -> Prop
 | u, ps, [], [] => K u ps
 | u, ps, .t x :: cs, t :: ts => gvT σ (fun u ps => gvK σ K u ps cs ts) u ps x t
 | u, ps, .nl _ :: cs, .sl _ rows :: ts => rows = [] /\ gvK σ K u ps cs ts
 | u, ps, .ow e g :: cs, .sl sz rows :: ts => okS u (e, none) = true /\ owU (σ.ev e) sz rows g /\ gvK σ K ((e, none) :: u) ps cs ts
 | u, (e, i, j) :: ps, .cv v :: cs, t :: ts => okS u (e, some (i, j)) = true /\ onN (σ.ev e) i j v t /\ gvK σ K ((e, some (i, j)) :: u) ps cs ts
 | _, _, _, _ => False
def rdC : C -> T -> Prop
 | .t x, y => x = y /\ T.nm y = true
 | .fn f [], .fn g [] => f = g
 | .rn x, y => x = y
 | .er cs o, .ptr cs' => o = 0 /\ cs = cs'
 | .nl _, .sl _ rows => rows = []
 | _, _ => False
def rdCs : List C -> List T -> Prop
 | [], [] => True
 | c :: cs, t :: ts => rdC c t /\ rdCs cs ts
 | _, _ => False
def rdV : V -> D -> Prop
 | .one c, .one t => rdC c t
 | .agg cs, .agg ts => rdCs cs ts
 | _, _ => False
def gvA (σ : St) (K : List Sr -> Prop) : List Sr -> List (Nat × Nat × Nat) -> List V -> List (Bool × D) -> Prop
 | u, _, [], [] => K u
 | u, ps, v :: vs, (false, d) :: ds => rdV v d /\ gvA σ K u ps vs ds
 | u, ps, .one c :: vs, (true, .one t) :: ds => gvK σ (fun u ps => gvA σ K u ps vs ds) u ps [c] [t]
 | u, ps, .agg cs :: vs, (true, .agg ts) :: ds => gvK σ (fun u ps => gvA σ K u ps vs ds) u ps cs ts
 | _, _, _, _ => False
theorem zew {σ : St} {K K' : List Sr -> List (Nat × Nat × Nat) -> Prop} (hK : ∀ u ps, K u ps -> K' u ps) : ∀ {cs : List C} {ts : List T} {u : List Sr} {ps : List (Nat × Nat × Nat)}, gvK σ K u ps cs ts -> gvK σ K' u ps cs ts
 | [], [], _, _, h => hK _ _ h
 | [], _ :: _, _, _, h => by cases h
 | c :: cs, [], u, ps, h => by cases c <;> first | exact (show False from h).elim | (cases ps <;> exact (show False from h).elim)
 | c :: cs, t :: ts, u, ps, h => by
  unfold gvK at h ⊢
  split at h
  ·rename_i e1 e2; cases e1
  ·rename_i e1 e2; cases e1; cases e2; exact qed (fun u ps h => zew hK h) h
  ·rename_i e1 e2; cases e1; cases e2; exact ⟨h.1, zew hK h.2⟩
  ·rename_i e1 e2; cases e1; cases e2; exact ⟨h.1, h.2.1, zew hK h.2.2⟩
  ·rename_i e1 e2; cases e1; cases e2; exact ⟨h.1, h.2.1, zew hK h.2.2⟩
  ·exact h.elim
theorem zf1 {σ : St} {K K' : List Sr -> Prop} (hK : ∀ u, K u -> K' u) : ∀ {xs : List V} {ds : List (Bool × D)} {u : List Sr} {ps : List (Nat × Nat × Nat)}, gvA σ K u ps xs ds -> gvA σ K' u ps xs ds
 | [], [], _, _, h => hK _ h
 | [], _ :: _, _, _, h => h.elim
 | x :: xs, [], _, _, h => by cases x <;> exact h.elim
 | x :: xs, (false, d) :: ds, _, _, h => by unfold gvA at h ⊢; exact ⟨h.1, zf1 hK h.2⟩
 | .one c :: xs, (true, .one t) :: ds, _, _, h => by unfold gvA at h ⊢; exact zew (fun u ps hu => zf1 hK hu) h
 | .agg cs :: xs, (true, .agg ts) :: ds, _, _, h => by unfold gvA at h ⊢; exact zew (fun u ps hu => zf1 hK hu) h
 | .one _ :: _, (true, .agg _) :: _, _, _, h => h.elim
 | .agg _ :: _, (true, .one _) :: _, _, _, h => h.elim
 | .tup _ :: _, (true, d) :: _, _, _, h => by cases d <;> exact h.elim
theorem zas.fam {w : World} : ∀ {cs : List T} {vs : List Value} {fps : List Nat}, zas w cs vs fps -> ∃ F : Nat -> List Nat, (∀ k c, cs[k]? = some c -> ∃ v, vs[k]? = some v /\ zao w c v (F k)) /\ (∀ k b, b ∈ F k -> b ∈ fps) /\ (fps.Nodup -> (∀ k, (F k).Nodup) /\ ∀ k k', k ≠ k' -> ∀ b ∈ F k, b ∉ F k')
 | [], vs, fps, h => ⟨fun _ => [], fun k c hc => by simp at hc, by simp, fun _ => ⟨by simp, by simp⟩⟩
 | c :: cs, _, _, h => by
  obtain ⟨v, vs', f1, f2, rfl, rfl, h1, h2⟩ := h
  obtain ⟨F, k1, k2, k3⟩ := zas.fam h2
  refine ⟨fun k => match k with | 0 => f1 | k + 1 => F k, fun k c' hc => ?_, fun k b hb => ?_, fun hn => ?_⟩
  ·cases k with
   | zero => simp only [List.getElem?_cons_zero, Option.some.injEq] at hc; subst hc; exact ⟨v, rfl, h1⟩
   | succ k => exact k1 k c' (by simpa using hc)
  ·cases k with
   | zero => exact List.mem_append_left _ hb
   | succ k => exact List.mem_append_right _ (k2 k b hb)
  ·obtain ⟨n1, n2, n3⟩ := List.nodup_append.1 hn
   obtain ⟨m1, m2⟩ := k3 n2
   refine ⟨fun k => ?_, fun k k' hne b hb hb' => ?_⟩
   ·cases k with
    | zero => exact n1
    | succ k => exact m1 k
   ·cases k with
    | zero =>
     cases k' with
     | zero => exact hne rfl
     | succ k' => exact n3 b hb b (k2 k' b hb') rfl
    | succ k =>
     cases k' with
     | zero => exact n3 b hb' b (k2 k b hb) rfl
     | succ k' => exact m2 k k' (by omega) b hb hb'
theorem zwx {sz : Nat} : ∀ {rows : List (List T)} {i j : Nat} {r : List T} {c : T}, lens sz rows -> rows[i]? = some r -> r[j]? = some c -> rows.flatten[i * sz + j]? = some c
 | [], _, _, _, _, _, h, _ => by simp at h
 | d :: rows, 0, j, r, c, hl, hr, hc => by
  simp only [List.getElem?_cons_zero, Option.some.injEq] at hr
  subst hr
  have hj : j < d.length := by
   rcases Nat.lt_or_ge j d.length with h | h
   ·exact h
   ·rw [List.getElem?_eq_none h] at hc; cases hc
  rw [List.flatten_cons, List.getElem?_append_left (by omega)]
  simpa using hc
 | d :: rows, i + 1, j, r, c, hl, hr, hc => by
  have hd : d.length = sz := hl d (by simp)
  have := zwx (sz := sz) (rows := rows) (fun r hr => hl r (by simp [hr])) (by simpa using hr) hc
  rw [List.flatten_cons, List.getElem?_append_right (by rw [hd, Nat.add_mul]; omega)]
  rwa [show (i + 1) * sz + j - d.length = i * sz + j by rw [hd, Nat.add_mul]; omega]
structure Fam (w : World) (σ : St) (g : Gh) (B : Sr -> List Nat) : Prop where
 whole : ∀ e, B (e, none) = g.φ e
 cell : ∀ e i j v t, onN (σ.ev e) i j v t -> zao w t v (B (e, some (i, j)))
 sub : ∀ e p b, σ.On e -> b ∈ B (e, p) -> b ∈ g.φ e
 nodup : ∀ e p, σ.On e -> (B (e, p)).Nodup
 apart : ∀ e p p', σ.On e -> p ≠ p' -> ∀ b ∈ B (e, some p), b ∉ B (e, some p')
theorem Rel.fam {n0 : Nat -> Prop} {N : Nat} {σ : St} {g : Gh} {a : Act} {w : World} (hR : Rel n0 N σ g a w) : ∃ B, Fam w σ g B := by
 have h1 : ∀ e, ∃ F : Nat × Nat -> List Nat, ∀ dp sz rows gn, σ.ev e = some ⟨dp, sz, rows, gn, true⟩ -> ((dp = true -> ∀ i j v t, rows[i]?.isSome = true -> (rows.getD i [])[j]? = some (.pin v t) -> zao w t v (F (i, j))) /\ (∀ p b, b ∈ F p -> b ∈ g.φ e) /\ (∀ p, (F p).Nodup) /\ ∀ p p', p ≠ p' -> ∀ b ∈ F p, b ∉ F p') := by
  intro e
  by_cases hon : ∃ sz rows gn, σ.ev e = some ⟨true, sz, rows, gn, true⟩
  ·obtain ⟨sz, rows, gn, he⟩ := hon
   have hnd := hR.nodup e ⟨_, he, rfl⟩
   obtain ⟨ao, cap, vs, k1, k2, k3, k4, k5, k6, k7⟩ := hR.vals he rfl
   rcases k7 with ⟨_, _, k7, k8⟩ | ⟨b, cells, ty, fps, k7, k8, k9, k10, k11, k12, k13⟩
   ·refine ⟨fun _ => [], fun dp sz' rows' gn' he' => ?_⟩
    rw [he, Option.some.injEq] at he'
    cases he'
    have k7 : rows = [] := k7
    subst k7
    exact ⟨fun _ i j v t h => by simp at h, by simp, by simp, by simp⟩
   ·obtain ⟨F, f1, f2, f3⟩ := (k12 rfl).fam
    rw [k8] at hnd
    obtain ⟨m1, m2⟩ := f3 (List.nodup_cons.1 hnd).2
    refine ⟨fun p => if p.2 < sz /\ p.1 < rows.length then F (p.1 * sz + p.2) else [], fun dp sz' rows' gn' he' => ?_⟩
    rw [he, Option.some.injEq] at he'
    cases he'
    refine ⟨fun _ i j v t h1 h2 => ?_, fun p b hb => ?_, fun p => ?_, fun p p' hne b hb hb' => ?_⟩
    ·obtain ⟨r, hr⟩ := Option.isSome_iff_exists.1 h1
     have hg : rows.getD i [] = r := by rw [List.getD_eq_getElem?_getD, hr]; rfl
     rw [hg] at h2
     have hj : j < sz := by
      have : r.length = sz := k4 r (List.mem_of_getElem? hr)
      rcases Nat.lt_or_ge j r.length with h | h
      ·omega
      ·rw [List.getElem?_eq_none h] at h2; cases h2
     have hi : i < rows.length := (List.getElem?_eq_some_iff.1 hr).1
     obtain ⟨u, _, hu⟩ := f1 _ _ (zwx k4 hr h2)
     show zao w t v (if j < sz /\ i < rows.length then F (i * sz + j) else [])
     rw [if_pos ⟨hj, hi⟩]
     unfold zao at hu
     obtain ⟨rfl, hu⟩ := hu
     exact hu
    ·by_cases hp : p.2 < sz /\ p.1 < rows.length
     ·simp only [if_pos hp] at hb; rw [k8]; exact List.mem_cons_of_mem _ (f2 _ _ hb)
     ·simp only [if_neg hp] at hb; simp at hb
    ·by_cases hp : p.2 < sz /\ p.1 < rows.length
     ·simp only [if_pos hp]; exact m1 _
     ·simp only [if_neg hp]; simp
    ·by_cases hp : p.2 < sz /\ p.1 < rows.length
     ·by_cases hp' : p'.2 < sz /\ p'.1 < rows.length
      ·simp only [if_pos hp, if_pos hp'] at hb hb'
       refine m2 _ _ (fun heq => hne ?_) b hb hb'
       obtain ⟨i, j⟩ := p
       obtain ⟨i', j'⟩ := p'
       simp only at hp hp' heq
       have hii : i = i' := by
        rcases Nat.lt_trichotomy i i' with h | h | h
        ·have := Nat.mul_le_mul_right sz (show i + 1 <= i' by omega); rw [Nat.add_mul] at this; omega
        ·exact h
        ·have := Nat.mul_le_mul_right sz (show i' + 1 <= i by omega); rw [Nat.add_mul] at this; omega
       subst hii
       have : j = j' := by omega
       subst this; rfl
      ·simp only [if_neg hp'] at hb'; simp at hb'
     ·simp only [if_neg hp] at hb; simp at hb
  ·refine ⟨fun _ => [], fun dp sz rows gn he => ⟨fun hd => ?_, by simp, by simp, by simp⟩⟩
   subst hd
   exact absurd ⟨sz, rows, gn, he⟩ hon
 refine ⟨fun s => match s.2 with | none => g.φ s.1 | some p => Classical.choose (h1 s.1) p, ⟨fun e => rfl, fun e i j v t ho => ?_, fun e p b ho hb => ?_, fun e p ho => ?_, fun e p p' ho hne b hb => ?_⟩⟩
 ·obtain ⟨⟨dp, sz, rows, gn, on⟩, he, h2, h3, h4, h5⟩ := zal ho
  simp only at h2 h3
  subst h2 h3
  exact (Classical.choose_spec (h1 e) true sz rows gn he).1 rfl i j v t h4 h5
 ·cases p with
  | none => exact hb
  | some p =>
   obtain ⟨⟨dp, sz, rows, gn, on⟩, he, ho⟩ := ho
   simp only at ho
   subst ho
   exact (Classical.choose_spec (h1 e) dp sz rows gn he).2.1 p b hb
 ·cases p with
  | none => exact hR.nodup e ho
  | some p =>
   obtain ⟨⟨dp, sz, rows, gn, on⟩, he, ho⟩ := ho
   simp only at ho
   subst ho
   exact (Classical.choose_spec (h1 e) dp sz rows gn he).2.2.1 p
 ·obtain ⟨⟨dp, sz, rows, gn, on⟩, he, ho⟩ := ho
  simp only at ho
  subst ho
  exact (Classical.choose_spec (h1 e) dp sz rows gn he).2.2.2 p p' hne b hb
def bks (B : Sr -> List Nat) (u : List Sr) : List Nat := u.flatMap B
def okP (s s' : Sr) : Prop := s.1 ≠ s'.1 \/ (s.2 ≠ none /\ s'.2 ≠ none /\ s.2 ≠ s'.2)
theorem okP.symm {s s' : Sr} (h : okP s s') : okP s' s := h.imp (fun h => Ne.symm h) fun h => ⟨h.2.1, h.1, Ne.symm h.2.2⟩
theorem ztp : ∀ {u : List Sr} {s : Sr}, okS u s = true -> ∀ x ∈ u, okP s x
 | [], _, _, x, hx => by simp at hx
 | (e, p) :: u, (e', p'), h, x, hx => by
  unfold okS at h
  rw [Bool.and_eq_true] at h
  rcases List.mem_cons.1 hx with rfl | hx
  ·have h1 := h.1
   by_cases he : e = e'
   ·rw [if_pos he] at h1
    right
    unfold okQ at h1
    split at h1
    ·rename_i a b
     refine ⟨by simp, by simp, fun e => ?_⟩
     simp only [Option.some.injEq] at e
     subst e
     simp at h1
    ·cases h1
   ·left; exact Ne.symm he
  ·exact ztp h.2 x hx
theorem zdq {n0 : Nat -> Prop} {N : Nat} {σ : St} {g : Gh} {a : Act} {w : World} (hR : Rel n0 N σ g a w) {B : Sr -> List Nat} (hB : Fam w σ g B) : ∀ {s : List Sr}, (∀ x ∈ s, σ.On x.1) -> s.Pairwise okP -> (bks B s).Nodup
 | [], _, _ => List.nodup_nil
 | x :: s, ho, hp => by
  obtain ⟨p1, p2⟩ := List.pairwise_cons.1 hp
  unfold bks
  rw [List.flatMap_cons]
  refine List.nodup_append.2 ⟨hB.nodup x.1 x.2 (ho x (by simp)), zdq hR hB (fun y hy => ho y (by simp [hy])) p2, fun b hb b' hb' hbb => ?_⟩
  subst hbb
  obtain ⟨y, hy, hb'⟩ := List.mem_flatMap.1 hb'
  obtain ⟨e, p⟩ := x
  obtain ⟨e', p'⟩ := y
  have o1 := ho (e, p) (by simp)
  have o2 := ho (e', p') (by simp [hy])
  rcases p1 (e', p') hy with h | ⟨h1, h2, h3⟩
  ·exact hR.apart e e' o1 o2 h b (hB.sub e p b o1 hb) (hB.sub e' p' b o2 hb')
  ·by_cases hee : e = e'
   ·subst hee
    cases p with
    | none => exact h1 rfl
    | some p =>
     cases p' with
     | none => exact h2 rfl
     | some p' => exact hB.apart e p p' o1 (fun h => h3 (by rw [h])) b hb hb'
   ·exact hR.apart e e' o1 o2 hee b (hB.sub e p b o1 hb) (hB.sub e' p' b o2 hb')
theorem qfy {σ : St} {e i j : Nat} {v : Value} {t : T} (h : onN (σ.ev e) i j v t) : σ.On e := by
 obtain ⟨x, hx, h2, _⟩ := zal h
 exact ⟨x, hx, h2⟩
section
variable {n0 : Nat -> Prop} {N : Nat} {σ : St} {g : Gh} {a : Act} {w : World} (hR : Rel n0 N σ g a w) {B : Sr -> List Nat} (hB : Fam w σ g B)
include hR hB
theorem zb8 {K : List Sr -> List (Nat × Nat × Nat) -> Prop} : ∀ {cs : List C} {ts : List T} {u : List Sr} {ps : List (Nat × Nat × Nat)} {vs : List Value}, gvK σ K u ps cs ts -> CRs σ g w cs vs →
  ∃ s ps' tp, K (s.reverse ++ u) ps' /\ zvz w ts vs (bks B s) tp /\ (∀ x ∈ s, σ.On x.1) /\ (u.Pairwise okP -> (s.reverse ++ u).Pairwise okP)
 | [], [], u, ps, vs, h, hv => ⟨[], ps, [], h, ⟨hv, rfl, rfl⟩, by simp, fun h => h⟩
 | [], _ :: _, _, _, _, h, _ => by cases h
 | c :: cs, [], u, ps, vs, h, hv => by cases c <;> first | exact (show False from h).elim | (cases ps <;> exact (show False from h).elim)
 | c :: cs, t :: ts, u, ps, vs, h, hv => by
  obtain ⟨v, vs', rfl, h1, h2⟩ := hv
  unfold gvK at h
  split at h
  ·rename_i e1 e2; cases e1
  ·rename_i x cs' t' ts' e1 e2
   cases e1; cases e2
   unfold gvT at h
   split at h
   ·rename_i v0 y e i j ps0
    obtain ⟨rfl, hok, he, h⟩ := h
    obtain ⟨s, ps', tp, k1, k2, k3, k4⟩ := zb8 h h2
    unfold CR zai at h1
    obtain ⟨rfl, _⟩ := h1
    have ho := hB.cell e i j v y he
    refine ⟨(e, some (i, j)) :: s, ps', zgx y (B (e, some (i, j))) ++ tp, by simpa using k1, ⟨v, vs', _, bks B s, tp, rfl, by unfold bks; rw [List.flatMap_cons], rfl, ho, k2⟩, fun x hx => ?_, fun hu => ?_⟩
    ·rcases List.mem_cons.1 hx with rfl | hx
     ·exact qfy he
     ·exact k3 x hx
    ·have := k4 (List.pairwise_cons.2 ⟨ztp hok, hu⟩)
     simpa using this
   obtain ⟨rfl, hf, h⟩ := h
   obtain ⟨s, ps', tp, k1, k2, k3, k4⟩ := zb8 h h2
   have ho : zao w x v [] := by
    cases x <;> simp only [T.flat, Bool.false_eq_true] at hf <;> simp only [CR, zai] at h1 <;> unfold zao
    ·exact ⟨h1.1, h1.2.1, h1.2.2, rfl⟩
    ·exact ⟨h1, rfl⟩
    ·exact ⟨h1.1, h1.2, rfl⟩
    ·exact ⟨h1, rfl⟩
   exact ⟨s, ps', zgx x [] ++ tp, k1, ⟨v, vs', [], _, tp, rfl, rfl, rfl, ho, k2⟩, k3, k4⟩
  ·rename_i z cs' sz rows ts' e1 e2
   cases e1; cases e2
   obtain ⟨rfl, h⟩ := h
   obtain ⟨s, ps', tp, k1, k2, k3, k4⟩ := zb8 h h2
   have ho : zao w (.sl sz []) v [] := by
    unfold zao
    exact ⟨none, 0, h1, by simp, by simp, Or.inl ⟨rfl, rfl, rfl, rfl⟩⟩
   exact ⟨s, ps', zgx (.sl sz []) [] ++ tp, k1, ⟨v, vs', [], _, tp, rfl, rfl, rfl, ho, k2⟩, k3, k4⟩
  ·rename_i e gn cs' sz rows ts' e1 e2
   cases e1; cases e2
   obtain ⟨hok, he, h⟩ := h
   obtain ⟨s, ps', tp, k1, k2, k3, k4⟩ := zb8 h h2
   have hou := he
   obtain ⟨⟨dp, sz0, rows0, gn0, on0⟩, hev, rfl, rfl, hrows, rfl, rfl⟩ := zal hou
   have ho : zao w (.sl sz0 rows) (g.ψ e gn0) (g.φ e) := by
    rcases hrows with rfl | rfl
    ·exact zdp hR hev
    ·exact (zdp hR hev).unpins
   have h1 : v = g.ψ e gn0 /\ _ := h1
   rw [<- h1.1] at ho
   refine ⟨(e, none) :: s, ps', zgx (.sl _ _) (g.φ e) ++ tp, by simpa using k1, ⟨v, vs', g.φ e, bks B s, tp, rfl, by unfold bks; rw [List.flatMap_cons, hB.whole], rfl, ho, k2⟩, fun x hx => ?_, fun hu => ?_⟩
   ·rcases List.mem_cons.1 hx with rfl | hx
    ·exact ⟨_, hev, rfl⟩
    ·exact k3 x hx
   ·have := k4 (List.pairwise_cons.2 ⟨ztp hok, hu⟩)
    simpa using this
  ·rename_i e i j ps0 v0 cs' t' ts' e1 e2
   cases e1; cases e2
   obtain ⟨hok, he, h⟩ := h
   obtain ⟨s, ps', tp, k1, k2, k3, k4⟩ := zb8 h h2
   have h1 : v = v0 := h1
   subst h1
   have ho := hB.cell e i j v t he
   refine ⟨(e, some (i, j)) :: s, ps', zgx t (B (e, some (i, j))) ++ tp, by simpa using k1, ⟨v, vs', _, bks B s, tp, rfl, by unfold bks; rw [List.flatMap_cons], rfl, ho, k2⟩, fun x hx => ?_, fun hu => ?_⟩
   ·rcases List.mem_cons.1 hx with rfl | hx
    ·exact qfy he
    ·exact k3 x hx
   ·have := k4 (List.pairwise_cons.2 ⟨ztp hok, hu⟩)
    simpa using this
  ·exact h.elim
omit hB in
theorem qaz {FP : List Nat} (hFP : ∀ b ∈ FP, ∃ e, σ.On e /\ b ∈ g.φ e) {c : C} {t : T} {v : Value} (h : rdC c t) (hv : CR σ g w c v) : zai w (fun b => b < w.heap.size /\ b ∉ FP) t v := by
 unfold rdC at h
 split at h
 ·rename_i x
  obtain ⟨rfl, hn⟩ := h
  exact zjr (σ := σ) (g := g) (x := .one (.t x)) (d := .one x) ⟨rfl, hn⟩ hv _
 ·rename_i f f'
  subst h
  exact zjr (σ := σ) (g := g) (x := .one (.fn f [])) (d := .one (.fn f [])) rfl hv _
 ·subst h
  refine zai.keep (fun _ _ => rfl) (fun b hb => ⟨hb.1.2.2.1, fun hm => ?_⟩) _ v hv
  obtain ⟨e, ho, hm⟩ := hFP b hm
  exact hb.2 e ho hm
 ·obtain ⟨rfl, rfl⟩ := h
  obtain ⟨b, q, h1, h2, h3⟩ := hv
  have hk : ∀ b, zb0 σ g w b -> b < w.heap.size /\ b ∉ FP := fun b hb => ⟨hb.1.2.2.1, fun hm => by obtain ⟨e, ho, hm⟩ := hFP b hm; exact hb.2 e ho hm⟩
  unfold zai
  exact ⟨b, q, h1, hk b h2, za4.keep (fun _ _ => rfl) hk b rfl q _ h3⟩
 ·subst h
  rw [show v = .slice none 0 0 from hv]
  unfold zai
  exact ⟨none, 0, rfl, by simp, by simp, Or.inl rfl⟩
 ·exact h.elim
omit hB in
theorem zsy {FP : List Nat} (hFP : ∀ b ∈ FP, ∃ e, σ.On e /\ b ∈ g.φ e) : ∀ {cs : List C} {ts : List T} {vs : List Value}, rdCs cs ts -> CRs σ g w cs vs -> zac w (fun b => b < w.heap.size /\ b ∉ FP) ts vs
 | [], [], vs, _, hv => by unfold zac; exact hv
 | [], _ :: _, _, h, _ => h.elim
 | _ :: _, [], _, h, _ => h.elim
 | c :: cs, t :: ts, vs, h, hv => by
  obtain ⟨v, vs', rfl, h1, h2⟩ := hv
  unfold zac
  exact ⟨v, vs', rfl, qaz hR hFP h.1 h1, zsy hFP h.2 h2⟩
theorem zej {K : List Sr -> Prop} : ∀ {xs : List V} {ds : List (Bool × D)} {u : List Sr} {ps : List (Nat × Nat × Nat)} {vs : List Value}, gvA σ K u ps xs ds -> VRl σ g w xs vs →
  ∃ s, K (s.reverse ++ u) /\ (∀ FP : List Nat, (∀ b ∈ FP, ∃ e, σ.On e /\ b ∈ g.φ e) -> ∃ tp, zar w (fun b => b < w.heap.size /\ b ∉ FP) ds vs (bks B s) tp) /\ (∀ x ∈ s, σ.On x.1) /\ (u.Pairwise okP -> (s.reverse ++ u).Pairwise okP)
 | [], [], u, ps, vs, h, hv => ⟨[], h, fun _ _ => ⟨[], hv, rfl, rfl⟩, by simp, fun h => h⟩
 | [], _ :: _, _, _, _, h, _ => h.elim
 | x :: xs, [], _, _, _, h, _ => by cases x <;> exact h.elim
 | x :: xs, (false, d) :: ds, u, ps, vs, h, hv => by
  obtain ⟨v, vs', rfl, h1, h2⟩ := hv
  unfold gvA at h
  obtain ⟨hr, h⟩ := h
  obtain ⟨s, k1, k2, k3, k4⟩ := zej h h2
  refine ⟨s, k1, fun FP hFP => ?_, k3, k4⟩
  obtain ⟨tp, k2⟩ := k2 FP hFP
  refine ⟨tp, v, vs', rfl, ?_, k2⟩
  unfold rdV at hr
  split at hr
  ·exact qaz hR hFP hr h1
  ·obtain ⟨b, e, h1⟩ := h1; exact ⟨b, e, zsy hR hFP hr h1⟩
  ·exact hr.elim
 | .one c :: xs, (true, .one t) :: ds, u, ps, vs, h, hv => by
  obtain ⟨v, vs', rfl, h1, h2⟩ := hv
  unfold gvA at h
  obtain ⟨s, ps', tp, k1, k2, k3, k4⟩ := zb8 hR hB h (vs := [v]) ⟨v, [], rfl, h1, rfl⟩
  obtain ⟨s', j1, j2, j3, j4⟩ := zej k1 h2
  obtain ⟨v0, vs0, f1, f2, t2, e0, e1, rfl, q1, q2⟩ := k2
  cases e0
  obtain ⟨_, rfl, rfl⟩ := q2
  rw [List.append_nil] at e1
  refine ⟨s ++ s', by simpa using j1, fun FP hFP => ?_, fun x hx => ?_, fun hu => by simpa using j4 (k4 hu)⟩
  ·obtain ⟨tp', j2⟩ := j2 FP hFP
   exact ⟨zgx t f1 ++ tp', v, vs', bks B s, bks B s', _, tp', rfl, by unfold bks; rw [List.flatMap_append], rfl, ⟨by rw [e1]; exact q1, by rw [e1]⟩, j2⟩
  ·rcases List.mem_append.1 hx with hx | hx
   ·exact k3 x hx
   ·exact j3 x hx
 | .agg cs :: xs, (true, .agg ts) :: ds, u, ps, vs, h, hv => by
  obtain ⟨v, vs', rfl, ⟨y, rfl, h1⟩, h2⟩ := hv
  unfold gvA at h
  obtain ⟨s, ps', tp, k1, k2, k3, k4⟩ := zb8 hR hB h h1
  obtain ⟨s', j1, j2, j3, j4⟩ := zej k1 h2
  refine ⟨s ++ s', by simpa using j1, fun FP hFP => ?_, fun x hx => ?_, fun hu => by simpa using j4 (k4 hu)⟩
  ·obtain ⟨tp', j2⟩ := j2 FP hFP
   exact ⟨tp ++ tp', _, vs', bks B s, bks B s', tp, tp', rfl, by unfold bks; rw [List.flatMap_append], rfl, ⟨y, rfl, k2⟩, j2⟩
  ·rcases List.mem_append.1 hx with hx | hx
   ·exact k3 x hx
   ·exact j3 x hx
 | .one _ :: _, (true, .agg _) :: _, _, _, _, h, _ => h.elim
 | .agg _ :: _, (true, .one _) :: _, _, _, _, h, _ => h.elim
 | .tup _ :: _, (true, d) :: _, _, _, _, h, _ => by cases d <;> exact h.elim
end
end Go.Proofs.YtmhbmpbgpjljeaaGreat
namespace Go.Proofs.YtmhbmpbgpjljeaaGreat
set_option linter.unusedSimpArgs false
set_option linter.unusedVariables false
set_option linter.unusedSectionVars false
set_option maxRecDepth 4000
open Go.RowKit
variable {P : Program}
def C.okU (τ : St) : C -> Prop
 | .t x => x.flat = true
 | .nl _ => True
 | .ow e g => zan (τ.ev e) fun x => g <= x.gen
 | .bx b _ => τ.bx b ≠ none
 | .el _ _ => False
 | .er _ _ => True
 | .eo e s _ _ _ => zan (τ.ev e) fun x => s <= x.gen
 | .vw e s _ _ => zan (τ.ev e) fun x => s <= x.gen
 | .fn _ caps => zvl τ caps
 | .cv _ => True
 | .any => True
 | .rn _ => True
def qe7 (τ : St) : List C -> Prop
 | [] => True
 | c :: cs => c.okU τ /\ qe7 τ cs
def okUt (τ : St) : List (Bool × List C) -> Prop
 | [] => True
 | x :: xs => qe7 τ x.2 /\ okUt τ xs
def V.okU (τ : St) : V -> Prop
 | .one c => c.okU τ
 | .agg cs => qe7 τ cs
 | .tup xs => okUt τ xs
structure Kept (σ τ : St) : Prop where
 sl : ∀ i, τ.sl i = .one .any \/ (τ.sl i = σ.sl i /\ (τ.sl i).okU τ)
 bx : ∀ b cs, τ.bx b = some cs -> σ.bx b = some cs /\ qe7 τ cs
 ev : ∀ e x, τ.ev e = some x -> σ.ev e = some x /\ x.on = true /\ x.deep = true
section
variable {σ τ : St} {g g' : Gh} {w w' : World} {ev' : Nat -> Option Ev} (hβ : g'.β = g.β) (hψ : ∀ e, τ.ev e ≠ none -> ev' e = τ.ev e /\ g'.ψ e = g.ψ e) (hrn : ∀ b, zb0 σ g w b -> w'.heap[b]? = w.heap[b]? /\ zb0 ⟨τ.sl, τ.bx, ev'⟩ g' w' b)
include hβ hψ hrn
theorem zv5 {c : C} {v : Value} (hc : c.okU τ) (h : CR σ g w c v) : CR ⟨τ.sl, τ.bx, ev'⟩ g' w' c v := by
 have hh : ∀ {e n : Nat}, zan (τ.ev e) (fun x => n <= x.gen) -> g'.ψ e = g.ψ e /\ St.has ⟨τ.sl, τ.bx, ev'⟩ e n := fun {e n} ho => by
  obtain ⟨x, hx, hn⟩ := zal ho
  obtain ⟨k1, k2⟩ := hψ e (by rw [hx]; simp)
  exact ⟨k2, x, k1.trans hx, hn⟩
 cases c with
 | t x => exact ze4 hc h
 | nl s => exact h
 | ow e n => obtain ⟨k1, k2⟩ := hh hc; exact ⟨by rw [k1]; exact h.1, k2⟩
 | bx b o => exact ⟨by rw [hβ]; exact h.1, hc⟩
 | el cs o => exact hc.elim
 | eo e s sz i o => obtain ⟨k1, k2⟩ := hh hc; obtain ⟨b, n, c, q1, q2, q3, q4⟩ := h; exact ⟨b, n, c, by rw [k1]; exact q1, q2, q3, k2⟩
 | vw e s sz i => obtain ⟨k1, k2⟩ := hh hc; obtain ⟨b, n, c, q1, q2, q3, q4⟩ := h; exact ⟨b, n, c, by rw [k1]; exact q1, q2, q3, k2⟩
 | fn f caps => exact ⟨by rw [hβ]; exact h.1, fun b hb => zi7 (show zvl τ caps from hc) b hb⟩
 | cv u => exact h
 | any => trivial
 | rn x => exact zai.keep (fun b hb => (hrn b hb).1) (fun b hb => (hrn b hb).2) x v h
 | er cs o => obtain ⟨b, q, h1, h2, h3⟩ := h; exact ⟨b, q, h1, (hrn b h2).2, za4.keep (fun b hb => (hrn b hb).1) (fun b hb => (hrn b hb).2) b (hrn b h2).1 q cs h3⟩
theorem zi5 : ∀ {cs : List C} {vs : List Value}, qe7 τ cs -> CRs σ g w cs vs -> CRs ⟨τ.sl, τ.bx, ev'⟩ g' w' cs vs
 | [], _, _, h => h
 | c :: cs, vs, hc, h => by
  obtain ⟨v, vs', rfl, h1, h2⟩ := h
  exact ⟨v, vs', rfl, zv5 hβ hψ hrn hc.1 h1, zi5 hc.2 h2⟩
theorem zwl : ∀ {xs : List (Bool × List C)} {vs : List Value}, okUt τ xs -> CRt σ g w xs vs -> CRt ⟨τ.sl, τ.bx, ev'⟩ g' w' xs vs
 | [], _, _, h => h
 | x :: xs, vs, hc, h => by
  obtain ⟨v, vs', rfl, h1, h2⟩ := h
  refine ⟨v, vs', rfl, ?_, zwl hc.2 h2⟩
  unfold CRx at h1 ⊢
  split at h1
  ·rw [if_pos ‹_›]; obtain ⟨a, k1, k2⟩ := h1; exact ⟨a, k1, zi5 hβ hψ hrn hc.1 k2⟩
  ·rw [if_neg ‹_›]
   obtain ⟨c, k1, k2⟩ := h1
   refine ⟨c, k1, zv5 hβ hψ hrn ?_ k2⟩
   have := hc.1
   rw [k1] at this
   exact this.1
theorem qga {x : V} {v : Value} (hc : x.okU τ) (h : VR σ g w x v) : VR ⟨τ.sl, τ.bx, ev'⟩ g' w' x v := by
 cases x with
 | one c => exact zv5 hβ hψ hrn hc h
 | agg cs => obtain ⟨a, k1, k2⟩ := h; exact ⟨a, k1, zi5 hβ hψ hrn hc k2⟩
 | tup xs => obtain ⟨a, k1, k2⟩ := h; exact ⟨a, k1, zwl hβ hψ hrn hc k2⟩
end
theorem Rel.given {n0 : Nat -> Prop} {N : Nat} {σ τ : St} {g g' : Gh} {a : Act} {w w' : World} (hR : Rel n0 N σ g a w) (hn0 : LtK n0 w) (hK : Kept σ τ) {fp : List Nat} (hfp : ∀ b ∈ fp, ∃ e, σ.On e /\ τ.ev e = none /\ b ∈ g.φ e) (hbk : Bk (fun k => k < w.heap.size /\ k ∉ fp) w w')
  {ev' : Nat -> Option Ev} {F : List Nat} (hn : New τ g (fun b => b ∈ fp \/ w.heap.size <= b) w' ev' g' F) : Rel n0 N ⟨τ.sl, τ.bx, ev'⟩ g' a w' := by
 have hOnσ : ∀ e, τ.On e -> σ.On e := fun e ⟨x, hx, ho⟩ => ⟨x, (hK.ev e x hx).1, ho⟩
 have hlt : ∀ e, σ.On e -> ∀ b ∈ g.φ e, b < w.heap.size := fun e ⟨x, hx, ho⟩ => (hR.evs e x hx ho).lt
 have hbne : ∀ b, τ.bx b ≠ none -> σ.bx b ≠ none := fun b hb => by
  obtain ⟨cs, hcs⟩ := Option.ne_none_iff_exists'.1 hb
  rw [(hK.bx b cs hcs).1]; simp
 have hfR : ∀ b ∈ fp, g.A0 b /\ g.R0 b /\ ¬ n0 b := fun b hb => by
  obtain ⟨e, ho, _, hm⟩ := hfp b hb
  obtain ⟨k1, k2⟩ := hR.ebase e ho b hm
  exact ⟨k1, k2, hR.etop e ho b hm⟩
 have hNB : ∀ b, (b ∈ fp \/ w.heap.size <= b) -> g.A0 b /\ g.R0 b /\ ¬ n0 b := fun b hb => by
  rcases hb with hb | hb
  ·exact hfR b hb
  ·have hnn := hn0.new hb
   exact ⟨(hR.anew b hnn).1, (hR.anew b hnn).2, hnn⟩
 have hβfp : ∀ b, τ.bx b ≠ none -> ¬ (g.β b ∈ fp \/ w.heap.size <= g.β b) := fun b hb h => by
  rcases h with h | h
  ·obtain ⟨e, ho, _, hm⟩ := hfp _ h
   exact hR.ebx e b ho (hbne b hb) hm
  ·have := hR.lt (hbne b hb); omega
 have hφfp : ∀ e, τ.On e -> ∀ b ∈ g.φ e, ¬ (b ∈ fp \/ w.heap.size <= b) := fun e ho b hb h => by
  rcases h with h | h
  ·obtain ⟨e', ho', hno, hm⟩ := hfp b h
   refine hR.apart e e' (hOnσ e ho) ho' (fun hee => ?_) b hb hm
   subst hee
   obtain ⟨x, hx, _⟩ := ho
   rw [hx] at hno; cases hno
  ·have := hlt e (hOnσ e ho) b hb; omega
 have hon : ∀ e, St.On ⟨τ.sl, τ.bx, ev'⟩ e -> τ.ev e ≠ none -> τ.On e := fun e ⟨x, hx, ho⟩ hee => ⟨x, (hn.old e hee).1.symm.trans hx, ho⟩
 have hkeep : ∀ b, b < w.heap.size -> b ∉ fp -> w'.heap[b]? = w.heap[b]? := fun b h1 h2 => hbk.block b ⟨h1, h2⟩
 have hrn : ∀ b, zb0 σ g w b -> w'.heap[b]? = w.heap[b]? /\ zb0 ⟨τ.sl, τ.bx, ev'⟩ g' w' b := fun b hb => by
  obtain ⟨hf, hr⟩ := hb
  have hnb : ∀ e, St.On ⟨τ.sl, τ.bx, ev'⟩ e -> b ∉ g'.φ e := fun e ho hm => by
   by_cases hee : τ.ev e = none
   ·obtain ⟨x, hx, _⟩ := ho
    rcases ((hn.new e x hee hx).2.2.1 b hm).1 with h | h
    ·obtain ⟨e', ho', _, hm'⟩ := hfp b h
     exact hr e' ho' hm'
    ·have := hf.2.2.1; omega
   ·rw [(hn.old e hee).2.2] at hm
    exact hr e (hOnσ e (hon e ho hee)) hm
  refine ⟨hkeep b hf.2.2.1 (fun hm => by obtain ⟨e', ho', _, hm'⟩ := hfp b hm; exact hr e' ho' hm'), ⟨fun k hk => by rw [hn.β]; exact hf.1 k (hbne k hk), fun e x hx hon' hh => hnb e ⟨x, hx, hon'⟩ (List.mem_of_mem_head? hh), Nat.lt_of_lt_of_le hf.2.2.1 hbk.size, by rw [hn.A0]; exact hf.2.2.2⟩, hnb⟩
 have hψ : ∀ e, τ.ev e ≠ none -> ev' e = τ.ev e /\ g'.ψ e = g.ψ e := fun e he => ⟨(hn.old e he).1, (hn.old e he).2.1⟩
 refine ⟨by rw [hR.defers], hR.size, by rw [hn.A0, hn.R0]; exact hR.anew, fun i => ?_, fun b cs hb => ?_, fun b hb => by rw [hn.β]; exact hR.base b (hbne b hb), fun b b' h1 h2 h3 => by rw [hn.β] at h3; exact hR.inj b b' (hbne b h1) (hbne b' h2) h3, fun e x he ho => ?_, fun e x he ho => ?_, hn.slc, fun e he b hb => ?_, fun e he b hb => ?_, fun e he => ?_, fun e e' h1 h2 hne b hb1 hb2 => ?_, fun e k he hk hm => ?_⟩
 ·rcases hK.sl i with h | ⟨h, hok⟩
  ·rw [show (⟨τ.sl, τ.bx, ev'⟩ : St).sl i = .one .any from h]; trivial
  ·rw [hn.R0]
   show VR _ g' w' (τ.sl i) _
   have hs := hR.slots i
   rw [<- h] at hs
   exact qga hn.β hψ hrn hok hs
 ·obtain ⟨hb1, hb2⟩ := hK.bx b cs hb
  obtain ⟨vs, ty, k1, k2⟩ := hR.boxes b cs hb1
  have hne : τ.bx b ≠ none := by rw [show τ.bx b = some cs from hb]; simp
  have hnf := hβfp b hne
  exact ⟨vs, ty, by rw [hn.β, hkeep _ (hR.lt (hbne b hne)) (fun h => hnf (Or.inl h))]; exact k1, zi5 hn.β hψ hrn hb2 k2⟩
 ·by_cases hee : τ.ev e = none
  ·obtain ⟨⟨k1, _, k0⟩, k2, k3, k4⟩ := hn.new e x hee he
   rw [k0]
   unfold zao at k2
   obtain ⟨ao, cap, j1, j2, j3, j4⟩ := k2
   refine ⟨ao, cap, j1, j2, j3, ?_⟩
   rcases j4 with j4 | ⟨b, cells, ty, fps, j4, j5, j6, j7, j8⟩
   ·exact Or.inl j4
   ·exact Or.inr ⟨b, cells, ty, fps, j4, j5, j6, j7, by rw [if_pos k1]; exact j8⟩
  ·obtain ⟨o1, o2, o3⟩ := hn.old e hee
   have hx : τ.ev e = some x := o1.symm.trans he
   obtain ⟨k1, k2, k3⟩ := hK.ev e x hx
   have hE := hR.evs e x k1 k2
   have hno := hφfp e ⟨x, hx, k2⟩
   have hl := hlt e ⟨x, k1, k2⟩
   have hkp : ∀ b ∈ g.φ e, w'.heap[b]? = w.heap[b]? := fun b hb => hkeep b (hl b hb) fun h => hno b hb (Or.inl h)
   rw [o2, o3]
   obtain ⟨ao, cap, r1, r2, r3, r4⟩ := hE
   refine ⟨ao, cap, r1, r2, r3, ?_⟩
   rcases r4 with r4 | ⟨b, cells, ty, fps, r4, r5, r6, r7, r8⟩
   ·exact Or.inl r4
   ·rw [if_pos k3] at r8
    exact Or.inr ⟨b, cells, ty, fps, r4, r5, by rw [hkp b (by rw [r5]; simp)]; exact r6, r7, by rw [if_pos k3]; exact zah.keep cells 0 x.sz x.rows fps r8 fun b' hb' => hkp b' (by rw [r5]; simp [hb'])⟩
 ·by_cases hee : τ.ev e = none
  ·rw [(hn.new e x hee he).1.2.1] at ho; cases ho
  ·have hx : τ.ev e = some x := (hn.old e hee).1.symm.trans he
   rw [(hK.ev e x hx).2.1] at ho; cases ho
 ·rw [hn.A0, hn.R0]
  by_cases hee : τ.ev e = none
  ·obtain ⟨x, hx, _⟩ := he
   have := hNB b ((hn.new e x hee hx).2.2.1 b hb).1
   exact ⟨this.1, this.2.1⟩
  ·rw [(hn.old e hee).2.2] at hb
   exact hR.ebase e (hOnσ e (hon e he hee)) b hb
 ·by_cases hee : τ.ev e = none
  ·obtain ⟨x, hx, _⟩ := he
   exact (hNB b ((hn.new e x hee hx).2.2.1 b hb).1).2.2
  ·rw [(hn.old e hee).2.2] at hb
   exact hR.etop e (hOnσ e (hon e he hee)) b hb
 ·by_cases hee : τ.ev e = none
  ·obtain ⟨x, hx, _⟩ := he
   exact (hn.new e x hee hx).2.2.2
  ·rw [(hn.old e hee).2.2]
   exact hR.nodup e (hOnσ e (hon e he hee))
 ·by_cases hee : τ.ev e = none
  ·obtain ⟨x, hx, _⟩ := h1
   by_cases hee' : τ.ev e' = none
   ·obtain ⟨x', hx', _⟩ := h2
    exact hn.apart e e' hee hee' (by rw [show ev' e = some x from hx]; simp) (by rw [show ev' e' = some x' from hx']; simp) hne b hb1 hb2
   ·rw [(hn.old e' hee').2.2] at hb2
    exact hφfp e' (hon e' h2 hee') b hb2 ((hn.new e x hee hx).2.2.1 b hb1).1
  ·rw [(hn.old e hee).2.2] at hb1
   by_cases hee' : τ.ev e' = none
   ·obtain ⟨x', hx', _⟩ := h2
    exact hφfp e (hon e h1 hee) b hb1 ((hn.new e' x' hee' hx').2.2.1 b hb2).1
   ·rw [(hn.old e' hee').2.2] at hb2
    exact hR.apart e e' (hOnσ e (hon e h1 hee)) (hOnσ e' (hon e' h2 hee')) hne b hb1 hb2
 ·rw [hn.β] at hm
  by_cases hee : τ.ev e = none
  ·obtain ⟨x, hx, _⟩ := he
   exact hβfp k hk ((hn.new e x hee hx).2.2.1 _ hm).1
  ·rw [(hn.old e hee).2.2] at hm
   exact hR.ebx e k (hOnσ e (hon e he hee)) (hbne k hk) hm
theorem zwp {o : Oper} {σ τ : St} {x : Operand} {asx : Array Operand} {ts : Array TypeId} {f : FuncId} {cvs : List V} {d : Nat} {ds : List (Bool × D)} {res : List D} {ps : List (Nat × Nat × Nat)} (ho : o.op = .call ⟨.value x, asx, ts⟩) (hd : o.dst = some d)
  (h : GC P f ds res) (hc : zav (σ.get P 0 x) = some (f, cvs)) (hK : Kept σ τ) (hv : gvA σ (fun u => ∀ s ∈ u, τ.ev s.1 = none) [] ps (σ.gets P asx ts ++ cvs) ds) (hf : zgr d 0 (za0 res) τ.ev) : zae P o σ (τ.callF d res) := by
 intro n0 N g a w hR hn hdN
 obtain ⟨vs, h1, h2⟩ := zct hR ho hc h.1
 unfold Oper.wp
 rw [h1]
 obtain ⟨B, hB⟩ := hR.fam
 obtain ⟨s, k1, k2, k3, k4⟩ := zej hR hB hv h2
 rw [List.append_nil] at k1 k4
 have hsp : s.Pairwise okP := by
  have := (List.pairwise_reverse.1 (k4 List.Pairwise.nil))
  exact this.imp fun h => h.symm
 have hnd := zdq hR hB k3 hsp
 have hfp : ∀ b ∈ bks B s, ∃ e, σ.On e /\ τ.ev e = none /\ b ∈ g.φ e := fun b hb => by
  obtain ⟨x, hx, hm⟩ := List.mem_flatMap.1 hb
  exact ⟨x.1, k3 x hx, k1 x (List.mem_reverse.2 hx), hB.sub x.1 x.2 b (k3 x hx) hm⟩
 obtain ⟨tp, k2⟩ := k2 (bks B s) fun b hb => by obtain ⟨e, h1, _, h3⟩ := hfp b hb; exact ⟨e, h1, h3⟩
 refine (h.2 w vs (bks B s) tp k2 hnd).mono ?_
 rintro e w' ⟨us, fp', tp', rfl, o1, o2, o3, hbk⟩
 have o1' := zgm.of_g o1
 obtain ⟨g', q1, q2, q3⟩ := New.cells (σ := τ) (g := g) (NB := fun b => b ∈ bks B s \/ w.heap.size <= b) (w' := w') d (za0 res) _ fp' 0 τ.ev g [] (New.refl _ _ _ _ hR.slc) (fun e h1 h2 => absurd h1 h2) hf o1'.cells o2 (fun b hb' => ⟨o3 b hb', by simp⟩)
 have hR' := hR.given hn hK hfp hbk q1
 have hBk : Bk n0 w w' := ⟨hbk.os, hbk.tape, hbk.output, hbk.size, fun k hk => hbk.block k ⟨hn k hk, fun hm => by
  obtain ⟨e, h1, _, h3⟩ := hfp k hm
  exact hR.etop e h1 k h3 hk⟩⟩
 refine ⟨g', ?_, hBk, q1.A0, q1.R0⟩
 have hp := hR'.put (some d) (x := zqp (zv3 d 0 res)) (v := zbz us) (zep (zlg d 0 o1' (q3 _ _ rfl)) (zh2 d res 0)) (fun i hi => by cases hi; exact hdN d hd)
 rw [hd]
 exact hp
def zu9 {α : Type} : List (Nat × α) -> Nat -> Prop
 | [], _ => True
 | p :: l, i => (i = p.1) = False /\ zu9 l i
def zfd {α β : Type} (l : List (Nat × β)) : List (Nat × α) -> Prop
 | [] => True
 | p :: la => zu9 l p.1 /\ zfd l la
def okL (τ : St) : List (Nat × V) -> Prop
 | [] => True
 | p :: l => p.2.okU τ /\ okL τ l
def okB (τ : St) : List (Nat × List C) -> Prop
 | [] => True
 | p :: l => qe7 τ p.2 /\ okB τ l
def okE : List (Nat × Ev) -> Prop
 | [] => True
 | p :: l => p.2.on = true /\ p.2.deep = true /\ okE l
def zvj (el : List (Nat × Ev)) : List Sr -> Prop
 | [] => True
 | s :: u => zu9 el s.1 /\ zvj el u
theorem zjv {α : Type} : ∀ {l : List (Nat × α)} {i : Nat}, zu9 l i -> tbl l i = none
 | [], _, _ => rfl
 | (j, v) :: l, i, h => by unfold tbl; rw [if_neg (fun e => of_eq_false h.1 e), zjv h.2]
theorem zjq {el : List (Nat × Ev)} : ∀ {u : List Sr}, zvj el u -> ∀ s ∈ u, tbl el s.1 = none
 | [], _, s, hs => by simp at hs
 | x :: u, h, s, hs => by
  rcases List.mem_cons.1 hs with rfl | hs
  ·exact zjv h.1
  ·exact zjq h.2 s hs
theorem zkl : ∀ {l : List (Nat × V)} {i : Nat}, zu9 l i -> ze6 l i = .one .any
 | [], _, _ => rfl
 | (j, v) :: l, i, h => by unfold ze6; rw [if_neg (fun e => of_eq_false h.1 e), zkl h.2]
theorem ztb {l : List (Nat × V)} : ∀ {la : List (Nat × V)}, zfd l la -> ∀ i, ze6 l i = .one .any \/ ze6 l i = ze6 (la ++ l) i
 | [], _, i => Or.inr rfl
 | (j, v) :: la, h, i => by
  by_cases hij : i = j
  ·subst hij; exact Or.inl (zkl h.1)
  ·rw [List.cons_append]
   show _ \/ ze6 l i = if i = j then v else ze6 (la ++ l) i
   rw [if_neg hij]
   exact ztb h.2 i
theorem zpp {α : Type} {l : List (Nat × α)} : ∀ {la : List (Nat × α)}, zfd l la -> ∀ i x, tbl l i = some x -> tbl (la ++ l) i = some x
 | [], _, i, x, hx => hx
 | (j, v) :: la, h, i, x, hx => by
  by_cases hij : i = j
  ·subst hij; rw [zjv h.1] at hx; cases hx
  ·rw [List.cons_append]
   show (if i = j then some v else tbl (la ++ l) i) = some x
   rw [if_neg hij]
   exact zpp h.2 i x hx
theorem zqc {τ : St} : ∀ {l : List (Nat × V)}, okL τ l -> ∀ i, (ze6 l i).okU τ
 | [], _, _ => trivial
 | (j, v) :: l, h, i => by
  unfold ze6
  split
  ·exact h.1
  ·exact zqc h.2 i
theorem zqt {τ : St} : ∀ {l : List (Nat × List C)}, okB τ l -> ∀ b cs, tbl l b = some cs -> qe7 τ cs
 | [], _, _, _, h => by cases h
 | (j, v) :: l, h, b, cs, hb => by
  unfold tbl at hb
  split at hb
  ·cases hb; exact h.1
  ·exact zqt h.2 b cs hb
theorem zpl : ∀ {l : List (Nat × Ev)}, okE l -> ∀ e x, tbl l e = some x -> x.on = true /\ x.deep = true
 | [], _, _, _, h => by cases h
 | (j, v) :: l, h, e, x, hb => by
  unfold tbl at hb
  split at hb
  ·cases hb; exact ⟨h.1, h.2.1⟩
  ·exact zpl h.2.2 e x hb
section
variable {ks : List Fr} {Q : Exit -> St -> Prop} {σ : St} {ops : Array Oper} {os : List Oper} {ty : TypeId} {ps : String} {af : Array Edge} {d : Nat} {x : Operand} {asx : Array Operand} {ts : Array TypeId} {f : FuncId} {ds : List (Bool × D)} {res : List D}
theorem callG (la l : List (Nat × V)) (ba bl : List (Nat × List C)) (ea el : List (Nat × Ev)) (pl : List (Nat × Nat × Nat)) (h : GC P f ds res)
  (hw : wkL σ (hd (la ++ l) (ba ++ bl) (ea ++ el)) (la ++ l) /\ wkB σ (hd (la ++ l) (ba ++ bl) (ea ++ el)) (ba ++ bl) /\ wkE σ (ea ++ el))
  (hk : zfd l la /\ zfd bl ba /\ zfd el ea /\ okL (hd l bl el) l /\ okB (hd l bl el) bl /\ okE el)
  (hp : zan (zav ((hd (la ++ l) (ba ++ bl) (ea ++ el)).get P 0 x)) fun p => p.1 = f /\ gvA (hd (la ++ l) (ba ++ bl) (ea ++ el)) (zvj el) [] pl ((hd (la ++ l) (ba ++ bl) (ea ++ el)).gets P asx ts ++ p.2) ds) (hf : zgr d 0 (za0 res) (hd l bl el).ev)
  (k : exo P ops os ks Q ((hd l bl el).callF d res)) : exo P ops (⟨some d, .call ⟨.value x, asx, ts⟩, ty, ps, af, none⟩ :: os) ks Q σ := by
 obtain ⟨⟨f', cvs⟩, h1, rfl, h2⟩ := zal hp
 obtain ⟨k1, k2, k3, k4, k5, k6⟩ := hk
 refine zce rfl rfl (zae.pre (zaa hw) (zwp (P := P) (o := ⟨some d, .call ⟨.value x, asx, ts⟩, ty, ps, af, none⟩) rfl rfl h h1 (τ := hd l bl el) ⟨fun i => ?_, fun b cs hb => ⟨zpp k2 b cs hb, zqt k5 b cs hb⟩, fun e x he => ⟨zpp k3 e x he, zpl k6 e x he⟩⟩ (zf1 (fun u hu => zjq hu) h2) hf)) k
 rcases ztb k1 i with h | h
 ·exact Or.inl h
 ·exact Or.inr ⟨h, zqc k4 i⟩
end
attribute [go_sem] gvT owU zfp zno zu9 zfd okL okB okE zvj C.okU qe7 okUt V.okU gvA gvK okS okQ rdV rdC rdCs
end Go.Proofs.YtmhbmpbgpjljeaaGreat
namespace Go.Proofs.YtmhbmpbgpjljeaaGreat
set_option linter.unusedSimpArgs false
set_option linter.unusedVariables false
set_option linter.unusedSectionVars false
set_option maxRecDepth 4000
open Go.RowKit
variable {P : Program}
def qcg : Option (Nat × List (List C)) -> List (List C)
 | some p => p.2
 | none => []
def blK (d : Nat) : Option (Ev × List (Nat × Ev)) -> List (Nat × Ev)
 | some (x, cons) => (d * 32, x) :: zsr cons
 | none => []
def apKs : Option (Prop × Nat × Ev × List (Nat × Ev)) -> List Ky
 | some (_, e, _, cons) => (2, e) :: cons.map (fun p => (2, p.1))
 | none => []
section
variable {ks : List Fr} {Q : Exit -> St -> Prop} {σ : St} {ops : Array Oper} {os : List Oper} {L : List (List Ky × List Ky)} {d : Nat} {t : TypeId} {ty : TypeId} {ps : String} {af : Array Edge} {len : Nat} {parts : Array (Nat × Operand)} {s y : Operand}
theorem zc8 (h : zan (blD P σ t len parts) fun r => σ.ev (d * 32) = none /\ (r.2.map (·.1)).Nodup)
  (k : exd P ops os (L ++ [(zaq (parts.toList.map (·.2)) ++ (rK (qcg (zj1 P (σ.get P) t len parts)) ++ [(2, d * 32)]), dK (some d) ++ eK (blK d (blD P σ t len parts)))]) ks Q ((σ.bl d (blD P σ t len parts)).put (some d) (.one (.ow (d * 32) 0)))) :
  exd P ops (⟨some d, .buildSlice t len parts, ty, ps, af, none⟩ :: os) L ks Q σ := by
 obtain ⟨⟨x, cons⟩, h1, h2, h3⟩ := zal h
 rw [h1] at k
 unfold blD at h1
 obtain ⟨p, e1, h1⟩ := Option.bind_eq_some_iff.1 h1
 obtain ⟨q, e2, h1⟩ := Option.map_eq_some_iff.1 h1
 simp only [Prod.mk.injEq] at h1
 obtain ⟨rfl, rfl⟩ := h1
 rw [e1] at k
 exact qh2 ⟨e1, e2, h2, h3⟩ k
theorem zfs (dp2 : Bool) (h : zan (apV P σ d t s y dp2) fun r => r.1) (k : exd P ops os (L ++ [(zaq [s, y] ++ apKs (apV P σ d t s y dp2), dK (some d) ++ apKs (apV P σ d t s y dp2))]) ks Q (σ.apV d (apV P σ d t s y dp2))) :
  exd P ops (⟨some d, .call ⟨.builtin .append, #[s, y], #[t, t]⟩, ty, ps, af, none⟩ :: os) L ks Q σ := by
 obtain ⟨⟨p, e, x, cons⟩, h1, h2⟩ := zal h
 rw [h1] at k
 unfold Go.Proofs.YtmhbmpbgpjljeaaGreat.apV at h1
 split at h1
 ·rename_i e0 gn e2 gn2 hs hy
  obtain ⟨x0, k1, h3⟩ := Option.bind_eq_some_iff.1 h1
  obtain ⟨z, k2, h4⟩ := Option.bind_eq_some_iff.1 h3
  clear h1 h3
  by_cases hc : x0.gen = gn /\ x0.on = true /\ z.gen = gn2 /\ z.on = true /\ z.sz = x0.sz /\ e2 ≠ e0
  ·rw [if_pos hc] at h4
   obtain ⟨rfl, c2, rfl, c4, c5, c6⟩ := hc
   simp only [Option.some.injEq, Prod.mk.injEq] at h4
   obtain ⟨rfl, rfl, rfl, rfl⟩ := h4
   obtain ⟨dp, sz, rows, gn, on⟩ := x0
   obtain ⟨dp2, sz2, rows2, gn2, on2⟩ := z
   simp only at c2 c4 c5
   subst c2 c4 c5
   exact dApOO ⟨hs, qbg hy, k1, k2, c6, rfl⟩ h2.1 h2.2 k
  ·rw [if_neg hc] at h4; cases h4
 ·rename_i e0 gn sz rows2 hs hy
  obtain ⟨x0, k1, h4⟩ := Option.bind_eq_some_iff.1 h1
  clear h1
  by_cases hc : x0.gen = gn /\ x0.on = true /\ sz = x0.sz
  ·rw [if_pos hc] at h4
   obtain ⟨rfl, c2, rfl⟩ := hc
   simp only [Option.some.injEq, Prod.mk.injEq] at h4
   obtain ⟨rfl, rfl, rfl, rfl⟩ := h4
   obtain ⟨dp, sz, rows, gn, on⟩ := x0
   simp only at c2
   subst c2
   exact dApOT dp2 ⟨hs, hy, k1⟩ (fun hd => zii (h2.2.2 hd)) h2.1 h2.2.1 k
  ·rw [if_neg hc] at h4; cases h4
 ·rename_i z0 e2 gn2 hs hy
  obtain ⟨z, k2, h4⟩ := Option.bind_eq_some_iff.1 h1
  clear h1
  by_cases hc : z.gen = gn2 /\ z.on = true /\ e2 ≠ d * 32
  ·rw [if_pos hc] at h4
   obtain ⟨rfl, c2, c3⟩ := hc
   simp only [Option.some.injEq, Prod.mk.injEq] at h4
   obtain ⟨rfl, rfl, rfl, rfl⟩ := h4
   obtain ⟨dp2, sz2, rows2, gn2, on2⟩ := z
   simp only at c2
   subst c2
   exact dApNO ⟨hs, qbg hy, h2.2.2, k2, c3⟩ h2.1 h2.2.1 k
  ·rw [if_neg hc] at h4; cases h4
 ·rename_i z0 sz rows2 hs hy
  simp only [Option.some.injEq, Prod.mk.injEq] at h1
  obtain ⟨rfl, rfl, rfl, rfl⟩ := h1
  exact dApNT dp2 ⟨hs, hy, h2.2.2.2⟩ (fun hd => zii (h2.2.2.1 hd)) h2.1 h2.2.1 k
 ·cases h1
end
attribute [go_sem] qcg blK apKs
end Go.Proofs.YtmhbmpbgpjljeaaGreat
namespace Go.Proofs.YtmhbmpbgpjljeaaGreat
set_option linter.unusedSimpArgs false
set_option linter.unusedVariables false
set_option linter.unusedSectionVars false
set_option maxRecDepth 4000
open Go.RowKit
variable {P : Program}
theorem zrf {ops : Array Oper} {K : St -> Prop} {n0 : Nat -> Prop} {N : Nat} {Q : Exit -> Act -> World -> Prop} {K' : Act -> World -> Prop} {i : Nat} (hlt : i < ops.size) {σ : St} {g : Gh} {a : Act} {w : World} (h : exG P ops ops[i] σ K) (hr : Rel n0 N σ g a w) (hn : LtK n0 w) (hdi : ∀ d, ops[i].dst = some d -> d < N)
  (next : ∀ σ' a' w', (∃ g', Rel n0 N σ' g' a' w' /\ Bk n0 w w' /\ g'.A0 = g.A0 /\ g'.R0 = g.R0) -> K σ' -> K' a' w') : wpOp P ops Q i K' a w := by
 have ho : ops[i]? = some ops[i] := by simp [hlt]
 have run : ∀ σ0, σ0 = σ -> zbs P ops[i] σ0 K -> ops[i].wp P a w K' Q := fun σ0 e0 h1 => by
  subst e0
  exact zbt (fun a' w' ⟨σ', g', h0, hh⟩ => next σ' a' w' ⟨g', hh⟩ h0) (zd5 h1 n0 N g a w hr hn hdi)
 unfold wpOp
 simp only [ho]
 unfold exG at h
 split at h
 ·rename_i hg
  have : Region.wanted ops[i] (yielded ops a.tmps) = true := by simp [Region.wanted, hg]
  rw [if_pos this]
  exact Or.inl (run σ rfl h)
 ·rename_i j want hg
  split at h
  ·rename_i d hdj
   split at h
   ·rename_i c hc
    have hv := hr.slots d
    rw [hc] at hv
    simp only [VR, CR, zai] at hv
    have hy : yielded ops a.tmps j = some c := by
     unfold yielded
     rw [hdj]
     simp only [Option.bind_some]
     cases ht : a.tmps[d]? with
     | none => rw [Array.getD_eq_getD_getElem?, ht] at hv; exact absurd hv (g.R0.nb _ _)
     | some u => rw [Array.getD_eq_getD_getElem?, ht] at hv; simp only [Option.getD_some] at hv; subst hv; rfl
    have hw : Region.wanted ops[i] (yielded ops a.tmps) = (c == want) := by
     unfold Region.wanted
     rw [hg]
     simp only [hy]
     cases c <;> cases want <;> rfl
    rw [hw]
    by_cases hcw : c = want
    ·subst hcw
     simp only [beq_self_eq_true, if_true]
     exact Or.inl (run _ (ze3 hc) (h.1 rfl))
    ·have hne : (c == want) = false := by simpa using hcw
     rw [hne]
     simp only [Bool.false_eq_true, if_false]
     have hnot : c = !want := by cases c <;> cases want <;> simp_all
     have hh := h.2 hnot
     rw [<- hnot, ze3 hc] at hh
     exact next _ _ _ ⟨g, hr.put _ (x := .tup []) ⟨[], rfl, rfl⟩ hdi, Bk.refl _ _, rfl, rfl⟩ hh
   ·rename_i xs hc
    have hv := hr.slots d
    rw [hc] at hv
    obtain ⟨vs, hv, _⟩ := hv
    have hy : yielded ops a.tmps j = none := by
     unfold yielded
     rw [hdj]
     simp only [Option.bind_some]
     cases ht : a.tmps[d]? with
     | none => rfl
     | some u => rw [Array.getD_eq_getD_getElem?, ht] at hv; simp only [Option.getD_some] at hv; subst hv; rfl
    have hw : Region.wanted ops[i] (yielded ops a.tmps) = false := by
     unfold Region.wanted
     rw [hg]
     simp only [hy]
     rfl
    rw [hw]
    simp only [Bool.false_eq_true, if_false]
    exact next _ _ _ ⟨g, hr.put _ (x := .tup []) ⟨[], rfl, rfl⟩ hdi, Bk.refl _ _, rfl, rfl⟩ h
   ·exact h.elim
  ·exact h.elim
def zk3 (ops : Array Oper) (L : List (List Ky × List Ky)) (m : Nat) : Bool :=
 let b := Region.before ops
 decide (m <= ops.size) && (List.range ops.size).all fun j =>
  ((ops.getD j default).after.all fun e => !Region.binds .any e || decide (e.on < j)) &&
  ((List.range ops.size).all fun i => !(b.getD j 0).testBit i || (ops.getD j default).after.any fun e => Region.binds .any e && (e.on == i || (b.getD e.on 0).testBit i)) &&
  ((List.range j).all fun i => (b.getD j 0).testBit i || (decide (j < m) && ((L.getD i ([], [])).2.all fun k => !(L.getD j ([], [])).1.contains k && !(L.getD j ([], [])).2.contains k) && (L.getD i ([], [])).1.all fun k => !(L.getD j ([], [])).2.contains k))
theorem drawn_allT {ops : Array Oper} {σs : Nat -> St} {L : List (List Ky × List Ky)} {n0 : Nat -> Prop} {N : Nat} {w0 : World} {A0 : (Nat -> Prop) × RP} {Q : Exit -> Act -> World -> Prop} {K : St -> Prop} {m : Nat}
  (hL : ∀ i (h : i < ops.size), i < m -> Loc P ops ops[i] (L.getD i ([], [])).1 (L.getD i ([], [])).2 (σs i) (σs (i + 1))) (hord : zk3 ops L m = true) (hdst : ∀ o ∈ ops, ∀ d, o.dst = some d -> d < N)
  (hT : zbc P ops (ops.toList.drop m) (σs m) K) (hQ : ∀ σ g a w, K σ -> Rel n0 N σ g a w -> LtK n0 w -> Bk n0 w0 w -> (g.A0, g.R0) = A0 -> Q .normal a w) :
  ∀ (fuel : Nat) (listed : Array Bool) (g : Gh) (a : Act) (w : World), listed.size = ops.size -> cnt (fun i => listed.getD i false) ops.size = fuel →
   (∀ j (h : j < ops.size), listed.getD j false = true -> ∀ e ∈ ops[j].after, Region.binds .any e = true -> listed.getD e.on false = true) -> (∀ j, m <= j -> listed.getD j false = false) →
   Rel n0 N (Fp σs (fun i => L.getD i ([], [])) (fun i => listed.getD i false) m) g a w -> LtK n0 w -> Bk n0 w0 w -> (g.A0, g.R0) = A0 -> wpAny P .any ops Q fuel listed a w := by
 have hget : ∀ j (h : j < ops.size), ops.getD j default = ops[j] := fun j h => by simp [Array.getD, h]
 unfold zk3 at hord
 rw [Bool.and_eq_true] at hord
 obtain ⟨hm, hord⟩ := hord
 have hm : m <= ops.size := by simpa using hm
 have hok : ∀ i, i < m -> okK (L.getD i ([], [])).2 = true := fun i h => (hL i (by omega) h).1
 have hRk : ∀ i, i < m -> okK (L.getD i ([], [])).1 = true := fun i h => (hL i (by omega) h).2.1
 have hoff : ∀ i, i < m -> ∀ k : Ky, k.1 < 3 -> k ∉ (L.getD i ([], [])).2 -> zaw (σs i) (σs (i + 1)) k := fun i h => (hL i (by omega) h).2.2.1
 simp only [List.all_eq_true, List.mem_range, Bool.and_eq_true] at hord
 have hlt : ∀ j (h : j < ops.size), ∀ e ∈ ops[j].after, Region.binds .any e = true -> e.on < j := fun j h e he hb => by
  have := (hord j h).1.1
  rw [hget j h] at this
  have := (Array.all_eq_true_iff_forall_mem.1 this) e he
  simpa [hb] using this
 have hbef : ∀ j (h : j < ops.size), ∀ i, i < ops.size -> ((Region.before ops).getD j 0).testBit i = true -> ∃ e ∈ ops[j].after, Region.binds .any e = true /\ (e.on = i \/ ((Region.before ops).getD e.on 0).testBit i = true) := fun j h i hi hb => by
  have := (hord j h).1.2 i hi
  rw [hb, hget j h] at this
  simp only [Bool.not_true, Bool.false_or] at this
  obtain ⟨e, he, h1⟩ := Array.any_eq_true'.1 this
  simp only [Bool.and_eq_true, Bool.or_eq_true, beq_iff_eq] at h1
  exact ⟨e, he, h1.1, h1.2⟩
 have hdis : ∀ i j, i < j -> j < m -> ((Region.before ops).getD j 0).testBit i = false -> (∀ k ∈ (L.getD i ([], [])).2, k ∉ (L.getD j ([], [])).1 /\ k ∉ (L.getD j ([], [])).2) /\ ∀ k ∈ (L.getD i ([], [])).1, k ∉ (L.getD j ([], [])).2 := fun i j hij hj hb => by
  have := (hord j (by omega)).2 i hij
  rw [hb] at this
  simp only [Bool.false_or, Bool.and_eq_true, List.all_eq_true, Bool.not_eq_true', List.contains_eq_mem, decide_eq_false_iff_not] at this
  exact ⟨fun k hk => this.1.2 k hk, fun k hk => this.2 k hk⟩
 have hchain : ∀ i j, i < j -> j < ops.size -> m <= j -> ((Region.before ops).getD j 0).testBit i = true := fun i j hij hj hmj => by
  have := (hord j hj).2 i hij
  cases hb : ((Region.before ops).getD j 0).testBit i with
  | true => rfl
  | false =>
   rw [hb] at this
   simp only [Bool.false_or, Bool.and_eq_true, decide_eq_true_eq] at this
   omega
 have hclosed : ∀ listed : Array Bool, (∀ j (h : j < ops.size), listed.getD j false = true -> ∀ e ∈ ops[j].after, Region.binds .any e = true -> listed.getD e.on false = true) -> ∀ j (h : j < ops.size), listed.getD j false = true -> ∀ i, i < ops.size -> ((Region.before ops).getD j 0).testBit i = true -> listed.getD i false = true := by
  intro listed hcl j
  induction j using Nat.strongRecOn with
  | _ j ihj =>
   intro h hl i hi hbi
   obtain ⟨e, he, h1, h2⟩ := hbef j h i hi hbi
   have hle := hcl j h hl e he h1
   have hlt' := hlt j h e he h1
   rcases h2 with rfl | h2
   ·exact hle
   ·exact ihj e.on hlt' (by omega) hle i hi h2
 have hready : ∀ (listed : Array Bool), listed.size = ops.size -> ∀ i, i ∈ Region.ready .any ops listed -> ∃ hi : i < ops.size, listed.getD i false = false /\ ∀ e ∈ ops[i].after, Region.binds .any e = true -> listed.getD e.on false = true := fun listed hsz i hi => by
  unfold Region.ready at hi
  rw [List.mem_filter] at hi
  obtain ⟨hi1, hi2⟩ := hi
  have hi' := List.mem_range.1 hi1
  rw [Array.getElem?_eq_getElem hi'] at hi2
  simp only [Option.map_some, Option.getD_some, Bool.and_eq_true, Bool.not_eq_true'] at hi2
  obtain ⟨hl0, hafter⟩ := hi2
  refine ⟨hi', ?_, fun e he hbd => ?_⟩
  ·simp only [Array.getD_eq_getD_getElem?] at hl0 ⊢
   rw [Array.getElem?_eq_getElem (by omega)] at hl0 ⊢
   exact hl0
  ·have := (Array.all_eq_true_iff_forall_mem.1 hafter) e he
   simpa [hbd] using this
 have hsome : ∀ (listed : Array Bool), listed.size = ops.size -> Region.ready .any ops listed = [] -> cnt (fun i => listed.getD i false) ops.size = 0 := fun listed hsz hr => by
  have : ∀ j, j < ops.size -> listed.getD j false = true := by
   intro j
   induction j using Nat.strongRecOn with
   | _ j ihj =>
    intro hj
    cases hl : listed.getD j false with
    | true => rfl
    | false =>
     exfalso
     have hmem : j ∈ Region.ready .any ops listed := by
      unfold Region.ready
      rw [List.mem_filter]
      refine ⟨List.mem_range.2 hj, ?_⟩
      have hl' : listed.getD j true = false := by
       simp only [Array.getD_eq_getD_getElem?] at hl ⊢
       rw [Array.getElem?_eq_getElem (by omega)] at hl ⊢
       exact hl
      rw [hl', Array.getElem?_eq_getElem hj]
      simp only [Bool.not_false, Bool.true_and, Option.map_some, Option.getD_some]
      rw [Array.all_eq_true_iff_forall_mem]
      intro e he
      cases hbd : Region.binds .any e with
      | false => rfl
      | true => simpa using ihj e.on (hlt j hj e he hbd) (by have := hlt j hj e he hbd; omega)
     rw [hr] at hmem
     exact absurd hmem (by simp)
  have : ∀ k, k <= ops.size -> cnt (fun i => listed.getD i false) k = 0 := by
   intro k
   induction k with
   | zero => intro _; rfl
   | succ k ihk => intro hk; unfold cnt; rw [if_pos (this k (by omega)), ihk (by omega)]
  exact this _ (Nat.le_refl _)
 have hset : ∀ (listed : Array Bool) (i : Nat), i < listed.size -> ∀ j, (listed.setIfInBounds i true).getD j false = if j = i then true else listed.getD j false := fun listed i hi j => by
  simp only [Array.getD_eq_getD_getElem?, Array.getElem?_setIfInBounds]
  by_cases hji : j = i
  ·subst hji; rw [if_pos rfl, if_pos hi, if_pos rfl]; rfl
  ·rw [if_neg (fun h => hji h.symm), if_neg hji]
 have hnone : ∀ (listed : Array Bool), listed.size = ops.size -> (∀ j, j < ops.size -> listed.getD j false = true) -> Region.ready .any ops listed = [] := fun listed hsz hall => by
  unfold Region.ready
  rw [List.filter_eq_nil_iff]
  intro i hi
  have hi' := List.mem_range.1 hi
  have := hall i hi'
  simp only [Array.getD_eq_getD_getElem?] at this ⊢
  rw [Array.getElem?_eq_getElem (by omega)] at this ⊢
  simp only [Option.getD_some] at this ⊢
  simp [this]
 have tail : ∀ (k j : Nat) (listed : Array Bool) (σ : St) (g : Gh) (a : Act) (w : World), j + k = ops.size -> m <= j -> listed.size = ops.size -> (∀ i, i < ops.size -> listed.getD i false = decide (i < j)) -> zbc P ops (ops.toList.drop j) σ K -> Rel n0 N σ g a w -> LtK n0 w -> Bk n0 w0 w -> (g.A0, g.R0) = A0 -> wpAny P .any ops Q k listed a w := by
  intro k
  induction k with
  | zero =>
   intro j listed σ g a w hjk hmj hsz hls h hrel hn hb hA
   have : ops.toList.drop j = [] := List.drop_of_length_le (by simp; omega)
   rw [this] at h
   exact ⟨hnone listed hsz fun i hi => by rw [hls i hi]; simp; omega, hQ σ g a w h hrel hn hb hA⟩
  | succ k ih =>
   intro j listed σ g a w hjk hmj hsz hls h hrel hn hb hA
   have hj : j < ops.size := by omega
   refine ⟨fun hr => ?_, fun i hi => ?_⟩
   ·exfalso
    have hz : listed.getD j false = true := zdc _ (hsome listed hsz hr) j hj
    rw [hls j hj] at hz
    simp at hz
   ·obtain ⟨hi', hl, hdue⟩ := hready listed hsz i hi
    have hij : i = j := by
     rcases Nat.lt_trichotomy i j with h1 | h1 | h1
     ·rw [hls i hi'] at hl; simp at hl; omega
     ·exact h1
     ·exfalso
      obtain ⟨e, he, k1, k2⟩ := hbef i hi' j hj (hchain j i h1 hi' (by omega))
      have hle := hdue e he k1
      have hel := hlt i hi' e he k1
      rw [hls e.on (by omega)] at hle
      have hle : e.on < j := by simpa using hle
      rcases k2 with k2 | k2
      ·omega
      ·have : ∀ x, x < ops.size -> ∀ y, y < ops.size -> ((Region.before ops).getD x 0).testBit y = true -> y < x := by
        intro x
        induction x using Nat.strongRecOn with
        | _ x ihx =>
         intro hx y hy hbxy
         obtain ⟨e', he', q1, q2⟩ := hbef x hx y hy hbxy
         have := hlt x hx e' he' q1
         rcases q2 with rfl | q2
         ·exact this
         ·have := ihx e'.on this (by omega) y hy q2; omega
       have := this e.on (by omega) j hj k2
       omega
    subst hij
    have hcons : ops.toList.drop i = ops[i] :: ops.toList.drop (i + 1) := by
     rw [List.drop_eq_getElem_cons (by simpa using hi')]; rfl
    rw [hcons] at h
    refine zrf hi' (K := fun σ' => zbc P ops (ops.toList.drop (i + 1)) σ' K) h hrel hn (hdst _ (Array.getElem_mem hi')) fun σ' a' w' hh hK => ?_
    obtain ⟨g', k1, k2, k3, k4⟩ := hh
    refine ih (i + 1) _ σ' g' a' w' (by omega) (by omega) (by simpa using hsz) (fun x hx => ?_) hK k1 (hn.mono k2.size) (hb.trans k2) (by rw [k3, k4]; exact hA)
    rw [hset listed i (by omega), hls x hx]
    by_cases hxi : x = i
    ·subst hxi; simp
    ·rw [if_neg hxi]
     congr 1
     simp only [eq_iff_iff]
     omega
 intro fuel
 induction fuel with
 | zero =>
  intro listed g a w hsz hc hcl hno hrel hn hb hA
  have hall := zdc _ hc
  have hme : m = ops.size := by
   rcases Nat.lt_or_ge m ops.size with h | h
   ·have h1 := hall m h
    rw [hno m (Nat.le_refl _)] at h1; cases h1
   ·omega
  refine ⟨hnone listed hsz hall, ?_⟩
  rw [zdf hok hoff m (Nat.le_refl _) fun j hj => hall j (by omega)] at hrel
  have hd : ops.toList.drop m = [] := List.drop_of_length_le (by simp; omega)
  rw [hd] at hT
  exact hQ _ g a w hT hrel hn hb hA
 | succ fuel ih =>
  intro listed g a w hsz hc hcl hno hrel hn hb hA
  have hbb := hclosed listed hcl
  refine ⟨fun hr => ?_, fun i hi => ?_⟩
  ·exfalso
   have := hsome listed hsz hr
   omega
  ·obtain ⟨hi', hl, hdue⟩ := hready listed hsz i hi
   have h1 : ∀ j, j < ops.size -> ((Region.before ops).getD i 0).testBit j = true -> listed.getD j false = true := fun j hj hbj => by
    obtain ⟨e, he, k1, k2⟩ := hbef i hi' j hj hbj
    have hle := hdue e he k1
    have hlt' := hlt i hi' e he k1
    rcases k2 with rfl | k2
    ·exact hle
    ·exact hbb e.on (by omega) hle j hj k2
   by_cases him : i < m
   ·have h2 : ∀ j, j < m -> listed.getD j false = true -> ((Region.before ops).getD j 0).testBit i = true -> listed.getD i false = true := fun j hj hlj hbj => hbb j (by omega) hlj i hi' hbj
    have hset' := hset listed i (by omega)
    obtain ⟨_, _, _, hstep⟩ := hL i hi' him
    have hG := hstep _ (fun k hk => zla (σs := σs) (RW := fun i => L.getD i ([], [])) (b := fun j i => ((Region.before ops).getD j 0).testBit i) (p := fun i => listed.getD i false) hok hoff hRk hdis him hl (fun j hj hb => h1 j (by omega) hb) h2 hk)
    have hw := zh0 (σs := σs) (RW := fun i => L.getD i ([], [])) (b := fun j i => ((Region.before ops).getD j 0).testBit i) (p := fun i => listed.getD i false) hok hdis him hl (fun j hj hb => h1 j (by omega) hb) h2 (p' := fun j => (listed.setIfInBounds i true).getD j false) hset'
    have hcnt := zjn (p := fun i => listed.getD i false) (q := fun j => (listed.setIfInBounds i true).getD j false) hl hset' ops.size hi'
    have hG' := hG n0 N g a w hrel hn (hdst _ (Array.getElem_mem hi'))
    rw [<- hw] at hG'
    have next : ∀ a' w', (∃ g', Rel n0 N (Fp σs (fun i => L.getD i ([], [])) (fun j => (listed.setIfInBounds i true).getD j false) m) g' a' w' /\ Bk n0 w w' /\ g'.A0 = g.A0 /\ g'.R0 = g.R0) -> wpAny P .any ops Q fuel (listed.setIfInBounds i true) a' w' := by
     rintro a' w' ⟨g', k1, k2, k3, k4⟩
     refine ih _ g' a' w' (by simpa using hsz) (by omega) (fun j hj hlj e he hbd => ?_) (fun j hj => by rw [hset', if_neg (by omega)]; exact hno j hj) k1 (hn.mono k2.size) (hb.trans k2) (by rw [k3, k4]; exact hA)
     rw [hset'] at hlj ⊢
     by_cases heo : e.on = i
     ·rw [if_pos heo]
     ·rw [if_neg heo]
      by_cases hji : j = i
      ·subst hji; exact hdue e he hbd
      ·rw [if_neg hji] at hlj; exact hcl j hj hlj e he hbd
    unfold wpOp
    rw [Array.getElem?_eq_getElem hi']
    simp only
    split
    ·rename_i hwd
     rw [if_pos hwd] at hG'
     exact Or.inl (zbt next hG')
    ·rename_i hwd
     rw [if_neg hwd] at hG'
     obtain ⟨g', k1, k2, k3⟩ := hG'
     exact next _ _ ⟨g', k1, Bk.refl _ _, k2, k3⟩
   ·-- the chain begins
    have hmi : i = m := by
     rcases Nat.lt_trichotomy i m with h3 | h3 | h3
     ·omega
     ·exact h3
     ·exfalso
      have := h1 m (by omega) (hchain m i h3 hi' (by omega))
      rw [hno m (Nat.le_refl _)] at this; cases this
    subst hmi
    have hall : ∀ j, j < i -> listed.getD j false = true := fun j hj => h1 j (by omega) (hchain j i hj hi' (Nat.le_refl _))
    rw [zdf hok hoff i (Nat.le_refl _) hall] at hrel
    have hls : ∀ x, x < ops.size -> listed.getD x false = decide (x < i) := fun x hx => by
     by_cases hxi : x < i
     ·rw [hall x hxi]; simp [hxi]
     ·rw [hno x (by omega)]; simp [hxi]
    have hcnt : fuel + 1 = ops.size - i := by
     rw [<- hc]
     have : ∀ n, n <= ops.size -> cnt (fun i => listed.getD i false) n = n - i := by
      intro n
      induction n with
      | zero => intro _; simp [cnt]
      | succ n ihn =>
       intro hn'
       unfold cnt
       rw [ihn (by omega), hls n (by omega)]
       by_cases hni : n < i
       ·rw [if_pos (by simpa using hni)]; omega
       ·rw [if_neg (by simpa using hni)]; omega
     exact this _ (Nat.le_refl _)
    have := tail (fuel + 1) i listed (σs i) g a w (by omega) (Nat.le_refl _) hsz hls hT hrel hn hb hA
    exact this.2 i hi
def zmg (ops : Array Oper) (m : Nat) : Bool :=
 let b := Region.before ops
 decide (m <= ops.size) && (List.range ops.size).all fun j => decide (j < m) || (List.range j).all fun i => (b.getD j 0).testBit i
theorem zyv {ops : Array Oper} {L : List (List Ky × List Ky)} {m : Nat} (h1 : zkb ops L = true) (h2 : zmg ops m = true) : zk3 ops L m = true := by
 unfold zkb at h1
 unfold zmg at h2
 unfold zk3
 simp only [List.all_eq_true, List.mem_range, Bool.and_eq_true, Bool.or_eq_true] at h1 h2 ⊢
 refine ⟨h2.1, fun j hj => ⟨⟨(h1 j hj).1.1, (h1 j hj).1.2⟩, fun i hi => ?_⟩⟩
 rcases (h1 j hj).2 i hi with h3 | h3
 ·exact Or.inl h3
 ·rcases h2.2 j hj with h4 | h4
  ·exact Or.inr ⟨⟨h4, h3.1⟩, h3.2⟩
  ·exact Or.inl (h4 i hi)
theorem zd3 {ops : Array Oper} {K : St -> Prop} {m : Nat} (hm : m <= ops.size) : ∀ (os : List Oper) (i : Nat) (L : List (List Ky × List Ky)) (σs : Nat -> St), os = (ops.toList.take m).drop i -> i <= m -> L.length = i →
  (∀ j (h : j < ops.size), j < i -> Loc P ops ops[j] (L.getD j ([], [])).1 (L.getD j ([], [])).2 (σs j) (σs (j + 1))) -> zfg P ops os L (σs i) K →
  ∃ (L' : List (List Ky × List Ky)) (σs' : Nat -> St), σs' 0 = σs 0 /\ (∀ j (h : j < ops.size), j < m -> Loc P ops ops[j] (L'.getD j ([], [])).1 (L'.getD j ([], [])).2 (σs' j) (σs' (j + 1))) /\ zkb ops L' = true /\ K (σs' m)
 | [], i, L, σs, ho, hi, hl, hloc, h => by
  have hie : i = m := by
   have := congrArg List.length ho
   simp at this; omega
  subst hie
  exact ⟨L, σs, rfl, fun j hj hji => hloc j hj hji, h.1, h.2⟩
 | o :: os, i, L, σs, ho, hi, hl, hloc, h => by
  have hlm : i < m := by
   have := congrArg List.length ho
   simp at this; omega
  have hlt : i < ops.size := by omega
  have hcons : (ops.toList.take m).drop i = ops[i] :: (ops.toList.take m).drop (i + 1) := by
   rw [List.drop_eq_getElem_cons (by simp; omega)]
   simp
  rw [hcons] at ho
  obtain ⟨rfl, hos⟩ := List.cons.inj ho
  obtain ⟨R, W, σ', h1, h2⟩ := zk1 h
  have := zd3 hm os (i + 1) (L ++ [(R, W)]) (fun j => if j <= i then σs j else σ') hos (by omega) (by simp [hl]) (fun j hj hji => by
   by_cases hje : j = i
   ·subst hje
    have hg : (L ++ [(R, W)]).getD j ([], []) = (R, W) := by simp [List.getD, <- hl]
    rw [hg, if_pos (Nat.le_refl _), if_neg (by omega)]
    exact h1
   ·have hg : (L ++ [(R, W)]).getD j ([], []) = L.getD j ([], []) := by
     simp only [List.getD_eq_getElem?_getD]; rw [List.getElem?_append_left (by omega)]
    rw [hg, if_pos (by omega), if_pos (by omega)]
    exact hloc j hj (by omega)) (by rw [if_neg (by omega)]; exact h2)
  simpa using this
def tailQ (P : Program) (ops : Array Oper) (m : Nat) (ks : List Fr) (Q : Exit -> St -> Prop) : Exit -> St -> Prop
 | .normal, σ => exo P ops (ops.toList.drop m) ks Q σ
 | _, _ => False
theorem zhg (ops : Array Oper) (m : Nat) (ks : List Fr) (Q : Exit -> St -> Prop) (σ : St) : tailQ P ops m ks Q .normal σ = exo P ops (ops.toList.drop m) ks Q σ := rfl
attribute [go_sem] zhg
end Go.Proofs.YtmhbmpbgpjljeaaGreat
namespace Go.Proofs.YtmhbmpbgpjljeaaGreat
set_option linter.unusedSimpArgs false
set_option linter.unusedVariables false
set_option linter.unusedSectionVars false
set_option maxRecDepth 4000
open Go.RowKit
variable {P : Program}
def PX (P : Program) (rs : List ResultVar) (res : List D) (σ : St) : Prop := ∃ pl, zan (zbe P σ rs) fun vs => gvA σ (fun _ => True) [] pl vs (res.map fun d => (true, d))
def PS (P : Program) (rs : List ResultVar) (res : List D) (e : Exit) (σ : St) : Prop := match e with
 | .normal => PF P rs res .normal σ \/ PX P rs res σ
 | .ret => PF P rs res .ret σ \/ PX P rs res σ
 | _ => False
theorem zhe {w : World} {A : Nat -> Prop} : ∀ {res : List D} {vs : List Value} {fp tp : List Nat}, zar w A (res.map fun d => (true, d)) vs fp tp -> GDs w res vs fp tp
 | [], _, _, _, h => h
 | d :: ds, _, _, _, h => by
  obtain ⟨v, vs', f1, f2, t1, t2, rfl, rfl, rfl, h1, h2⟩ := h
  exact ⟨v, vs', f1, f2, t1, t2, rfl, rfl, rfl, h1, zhe h2⟩
theorem px_own {n0 : Nat -> Prop} {N : Nat} {σ : St} {g : Gh} {a : Act} {w : World} (hR : Rel n0 N σ g a w) {vs : List V} {res : List D} {pl : List (Nat × Nat × Nat)} (h : gvA σ (fun _ => True) [] pl vs (res.map fun d => (true, d))) {us : List Value} (hv : VRl σ g w vs us) :
  ∃ fp tp, GDs w res us fp tp /\ fp.Nodup /\ ∀ b ∈ fp, ∃ e, σ.On e /\ b ∈ g.φ e := by
 obtain ⟨B, hB⟩ := hR.fam
 obtain ⟨s, k1, k2, k3, k4⟩ := zej hR hB h hv
 rw [List.append_nil] at k4
 have hsp : s.Pairwise okP := (List.pairwise_reverse.1 (k4 List.Pairwise.nil)).imp fun h => h.symm
 obtain ⟨tp, k2⟩ := k2 [] (by simp)
 refine ⟨_, tp, zhe k2, zdq hR hB k3 hsp, fun b hb => ?_⟩
 obtain ⟨x, hx, hm⟩ := List.mem_flatMap.1 hb
 exact ⟨x.1, k3 x hx, hB.sub x.1 x.2 b (k3 x hx) hm⟩
theorem GC_ofW {f : FuncId} {fn : Func} {c : Code} {args : List (Bool × D)} {res : List D} (hc : za1 P f) (hf : P.funcs[f]? = some fn) (hb : fn.body = some c) (hd : zcf fn.ntmps c = true) (hN : args.length <= fn.ntmps) (hs : zcj args)
  (h : ∀ (w : World) (vs : List Value) (fp tp : List Nat), zar w (fun b => b < w.heap.size /\ b ∉ fp) args vs fp tp -> ∀ (g : Gh) (a : Act), Rel (fun b => b < w.heap.size /\ b ∉ fp) fn.ntmps (zd1 args) g a w -> (a.tmps = (⟨vs⟩ : Array Value) ++ Array.replicate (fn.ntmps - vs.length) undef /\ (g.A0, g.R0) = ((fun _ => True), RP.of fun b => b ∈ fp \/ w.heap.size <= b)) →
   ∃ σ0, ex P c [] (PS P fn.results.toList res) σ0 /\ Rel (fun b => b < w.heap.size /\ b ∉ fp) fn.ntmps σ0 g a w) : GC P f args res := by
 refine ⟨hc, fun w vs fp tp hv hn => ?_⟩
 refine calls_of_wp hf hb ?_
 have hv' : zar w (fun b => b < w.heap.size /\ True /\ b ∉ fp) args vs fp tp := zar.keepA (fun b hb => ⟨hb.1, trivial, hb.2⟩) hv
 obtain ⟨g, hg, hR⟩ := Rel.start (A0 := fun _ => True) (R0 := RP.of fun b => b ∈ fp \/ w.heap.size <= b) (N := fn.ntmps) hv' hn hs hN (fun _ _ => trivial) (fun b hb => ⟨trivial, Or.inl hb⟩) (fun b hb => ⟨trivial, by
  by_cases hlt : b < w.heap.size
  ·exact Or.inl (Classical.byContradiction fun h => hb ⟨hlt, h⟩)
  ·exact Or.inr (by omega)⟩)
 obtain ⟨σ0, hex, hR0⟩ := h w vs fp tp hv g _ hR ⟨rfl, hg⟩
 refine wp_mono (zbf (w0 := w) c σ0 _ hd hex g _ w hR0 (fun k hk => hk.1) (Bk.refl _ _) hg) fun e a' w' hq => ?_
 obtain ⟨σ', g', h1, h2, h3, h4, h5⟩ := hq
 have fin : ∀ {us : List Value} {v : Value}, (results fn a'.tmps).run P w' = .ok v w' -> v = zbz us -> (∃ fp' tp', GDs w' res us fp' tp' /\ fp'.Nodup /\ ∀ b ∈ fp', ∃ e, σ'.On e /\ b ∈ g'.φ e) -> ∃ v, (results fn a'.tmps).run P w' = .ok v w' /\ ∃ us fp' tp', Ending.returned v = .returned (zbz us) /\ GDs w' res us fp' tp' /\ fp'.Nodup /\ (∀ b ∈ fp', b ∈ fp \/ w.heap.size <= b) /\ Bk (fun k => k < w.heap.size /\ k ∉ fp) w w' := fun {us v} r1 rv ⟨fp', tp', o1, o2, o3⟩ => by
  refine ⟨_, r1, us, fp', tp', by rw [rv], o1, o2, fun b hb => ?_, h4⟩
  obtain ⟨e, l, m⟩ := o3 b hb
  have := (h2.ebase e l b m).2
  rw [(Prod.mk.inj h5).2] at this
  exact this
 have key : (zan (zbe P σ' fn.results.toList) (fun vs => zr2 σ' [] vs res) \/ PX P fn.results.toList res σ') -> ∃ v, (results fn a'.tmps).run P w' = .ok v w' /\ ∃ us fp' tp', Ending.returned v = .returned (zbz us) /\ GDs w' res us fp' tp' /\ fp'.Nodup /\ (∀ b ∈ fp', b ∈ fp \/ w.heap.size <= b) /\ Bk (fun k => k < w.heap.size /\ k ∉ fp) w w' := fun hk => by
  rcases hk with hk | ⟨pl, hk⟩
  ·obtain ⟨vs, hvs, hk⟩ := zal hk
   obtain ⟨us, r1, r2⟩ := zbn h2 fn hvs
   obtain ⟨used, fp', tp', o1, o2⟩ := zcw h2 hk r2
   exact fin r1 rfl ⟨fp', tp', o1, o2.1, fun b hb => by obtain ⟨e, _, _, l, m⟩ := o2.2.1 b hb; exact ⟨e, l, m⟩⟩
  ·obtain ⟨vs, hvs, hk⟩ := zal hk
   obtain ⟨us, r1, r2⟩ := zbn h2 fn hvs
   exact fin r1 rfl (px_own h2 hk r2)
 cases e with
 | normal => exact ⟨h2.defers, key h1⟩
 | ret => exact ⟨h2.defers, key h1⟩
 | exit _ => exact h1.elim
 | goto _ => exact h1.elim
 | panic _ => exact h1.elim
 | outgrown => exact h1.elim
theorem qdz (p : Prop) : (p \/ True) = True := by simp
theorem qb3 (p : Prop) : (True \/ p) = True := by simp
attribute [go_sem] Bool.false_and Bool.and_false Bool.and_self
attribute [go_sem] PS qdz qb3
section
variable (A B : List (List T)) (r : List T)
theorem qcl {k : Nat} (h : A.length = k) : (A ++ r :: B).getD k [] = r := by subst h; simp
theorem qie {k : Nat} (h : A.length = k) : (A ++ r :: B)[k]? = some r := by subst h; simp
theorem zom {k : Nat} (h : A.length = k) (o : Nat) (ts : List T) : zc5 (A ++ r :: B) k o ts = A ++ setR r o ts :: B := by subst h; simp [zc5]
theorem zp3 {k : Nat} (h : A.length = k) (j : Nat) (t : T) : setCell (A ++ r :: B) k j t = A ++ r.set j t :: B := by subst h; simp [setCell]
end
theorem zvs (vs : Nat -> Nat -> Value) (i : Nat) (r : List T) (rs : List (List T)) : zfa vs i (r :: rs) = qbb (vs i) 0 r :: zfa vs (i + 1) rs := rfl
theorem zxo (us : Nat -> Value) (j : Nat) (c : T) (cs : List T) : qbb us j (c :: cs) = qgz (us j) c :: qbb us (j + 1) cs := rfl
theorem qb9 (us : Nat -> Value) (j : Nat) : qbb us j [] = [] := rfl
theorem qib (v : Value) (sz : Nat) (rows : List (List T)) : qgz v (.sl sz rows) = .pin v (.sl sz rows) := rfl
theorem zxi (v : Value) (b : Bool) : qgz v (.bool b) = .bool b := rfl
theorem qbz (v : Value) (s : List UInt8) : qgz v (.str s) = .str s := rfl
theorem qar (vs : Nat -> Nat -> Value) (i : Nat) : zfa vs i [] = [] := rfl
theorem zqy (n m : Nat) : (n < n + (m + 1)) = True := by simp
attribute [go_sem] PI zqy qar zvs zxo qb9 qib zxi qbz zfx List.length_append qie qcl zom zp3
theorem qim (n : Nat) : ((n : Int) < 0) = False := by simp
attribute [go_sem] qim List.set_cons_succ List.set_cons_zero
end Go.Proofs.YtmhbmpbgpjljeaaGreat
namespace Go.Proofs.YtmhbmpbgpjljeaaGreat
set_option linter.unusedSimpArgs false
set_option linter.unusedVariables false
set_option linter.unusedSectionVars false
set_option maxRecDepth 4000
open Go.RowKit
variable {P : Program}
def D.toN : D -> V
 | .one t => .one t.toN
 | .agg ts => .agg (ts.map T.toN)
def zhl : Nat -> List D -> Nat -> V
 | _, [] => fun _ => .one .any
 | k, d :: ds => upd (zhl (k + 1) ds) k d.toN
def zl0 (args : List D) : St := ⟨zhl 0 args, fun _ => none, fun _ => none⟩
theorem zn0 : ∀ (ds : List D) (k i : Nat), zhl k ds (k + i) = match ds[i]? with | some d => d.toN | none => .one .any
 | [], k, i => by simp [zhl]
 | d :: ds, k, 0 => by simp [zhl, upd]
 | d :: ds, k, i + 1 => by
  unfold zhl
  rw [zak _ _ (by omega), show k + (i + 1) = k + 1 + i by omega, zn0 ds (k + 1) i]
  simp
theorem qf1 {σ : St} {g : Gh} {w : World} {A : Nat -> Prop} (hA : ∀ b, A b -> zb0 σ g w b) {x : T} {v : Value} (h : zai w A x v) : CR σ g w x.toN v := by
 cases x <;> first | exact zai.keep (fun _ _ => rfl) (fun b hb => (hA b hb).1) _ v h | exact zai.keep (fun _ _ => rfl) hA _ v h
theorem zwm {σ : St} {g : Gh} {w : World} {A : Nat -> Prop} (hA : ∀ b, A b -> zb0 σ g w b) : ∀ {ts : List T} {vs : List Value}, zac w A ts vs -> CRs σ g w (ts.map T.toN) vs
 | [], vs, h => by unfold zac at h; exact h
 | t :: ts, vs, h => by
  unfold zac at h
  obtain ⟨v, vs', rfl, h1, h2⟩ := h
  exact ⟨v, vs', rfl, qf1 hA h1, zwm hA h2⟩
theorem qav {σ : St} {g : Gh} {w : World} {A : Nat -> Prop} (hA : ∀ b, A b -> zb0 σ g w b) {d : D} {v : Value} (h : zvy w A d v) : VR σ g w d.toN v := by
 cases d with
 | one t => exact qf1 hA h
 | agg ts => obtain ⟨a, h0, h1⟩ := h; exact ⟨a, h0, zwm hA h1⟩
theorem zaz.at {w : World} {A : Nat -> Prop} : ∀ {ds : List D} {vs : List Value}, zaz w A ds vs -> ∀ (i : Nat) d, ds[i]? = some d -> ∃ v, vs[i]? = some v /\ zvy w A d v
 | [], _, _, i, d, h => by simp at h
 | d0 :: ds, vs, h, 0, d, hi => by
  obtain ⟨v, vs', rfl, h1, h2⟩ := h
  simp only [List.getElem?_cons_zero, Option.some.injEq] at hi
  subst hi; exact ⟨v, rfl, h1⟩
 | d0 :: ds, vs, h, i + 1, d, hi => by
  obtain ⟨v, vs', rfl, h1, h2⟩ := h
  simpa using zaz.at h2 i d (by simpa using hi)
theorem zb1 {w : World} {A : Nat -> Prop} : ∀ {ds : List D} {vs : List Value} {fp tp : List Nat}, zar w A (rd ds) vs fp tp -> zaz w A ds vs /\ fp = [] /\ tp = []
 | [], _, _, _, h => ⟨h.1, h.2.1, h.2.2⟩
 | d :: ds, _, _, _, h => by
  obtain ⟨v, vs', rfl, h1, h2⟩ := h
  obtain ⟨k1, k2, k3⟩ := zb1 h2
  exact ⟨⟨v, vs', rfl, h1, k1⟩, k2, k3⟩
theorem zxr {args : List D} {w : World} {vs : List Value} {N : Nat} {g : Gh} {a : Act} (hr : zaz w (fun b => b < w.heap.size /\ b ∉ ([] : List Nat)) args vs) (hR : Rel (fun b => b < w.heap.size /\ b ∉ ([] : List Nat)) N (zd1 (rd args)) g a w)
  (hg : a.tmps = (⟨vs⟩ : Array Value) ++ Array.replicate (N - vs.length) undef /\ (g.A0, g.R0) = ((fun _ => True), RP.of fun b => b ∈ ([] : List Nat) \/ w.heap.size <= b)) : Rel (fun b => b < w.heap.size /\ b ∉ ([] : List Nat)) N (zl0 args) g a w := by
 have hbx : ∀ (ds : List D) (k : Nat), zge k (rd ds) = fun _ => none := fun ds => by
  induction ds with
  | nil => intro k; rfl
  | cons d ds ih => intro k; exact ih (k + 1)
 have hG : ∀ b, (b < w.heap.size /\ b ∉ ([] : List Nat)) -> zb0 (zl0 args) g w b := fun b hb => by
  refine ⟨⟨fun k hk => absurd rfl hk, fun e x he _ => (by cases he), hb.1, by rw [(Prod.mk.inj hg.2).1]; trivial⟩, ?_⟩
  rintro e ⟨x, hx, _⟩
  cases hx
 refine hR.slots_of (σ' := zl0 args) rfl ?_ hR.defers hR.size fun i => ?_
 ·show (fun _ => none) = zge 0 (rd args)
  rw [hbx]
 ·have hm : Mv (zl0 args) (zl0 args) g g w w := Mv.of_eq g w rfl rfl
  show VR (zd1 (rd args)) g w (zhl 0 args i) _
  have hi := zn0 args 0 i
  rw [Nat.zero_add] at hi
  rw [hi]
  cases hd : args[i]? with
  | none => trivial
  | some d =>
   obtain ⟨v, hv1, hv2⟩ := zaz.at hr i d hd
   have hlt : i < vs.length := (List.getElem?_eq_some_iff.1 hv1).1
   have e : a.tmps.getD i (g.R0.ξ i) = v := by
    rw [hg.1]
    rw [Array.getD_eq_getD_getElem?, Array.getElem?_append_left (by simpa using hlt)]
    simp [hv1]
   rw [e]
   have hx := qav hG hv2
   exact (Mv.of_eq (σ := zl0 args) (σ' := zd1 (rd args)) g w rfl (by show zge 0 (rd args) = fun _ => none; rw [hbx])).vr hx
theorem zg6 {f : FuncId} {fn : Func} {c : Code} {args res : List D} (hc : za1 P f) (hf : P.funcs[f]? = some fn) (hb : fn.body = some c) (hd : zcf fn.ntmps c = true) (hN : (rd args).length <= fn.ntmps)
  (h : ex P c [] (PS P fn.results.toList res) (zl0 args)) : FC P f args res := by
 refine GC_ofW hc hf hb hd hN (zc6 args) fun w vs fp tp hv g a hR hg => ?_
 obtain ⟨hr, rfl, rfl⟩ := zb1 hv
 exact ⟨zl0 args, h, zxr hr hR hg⟩
attribute [go_sem] zl0 zhl D.toN T.toN
end Go.Proofs.YtmhbmpbgpjljeaaGreat
namespace Go.Proofs.YtmhbmpbgpjljeaaGreat
set_option linter.unusedSimpArgs false
set_option linter.unusedVariables false
set_option linter.unusedSectionVars false
set_option maxRecDepth 4000
open Go.RowKit
variable {P : Program}
abbrev FR (r : Option Nat) : Fence := { Fence.wide with round := r }
def Ag (D : Nat -> Prop) (a a' : Act) : Prop := ∀ i, ¬ D i -> a'.tmps.getD i undef = a.tmps.getD i undef
theorem Ag.put {D : Nat -> Prop} {a0 a : Act} (h : Ag D a0 a) {d : Option Nat} (hd : ∀ i, d = some i -> D i) (v : Value) : Ag D a0 (a.put d v) := fun i hi => by
 cases d with
 | none => exact h i hi
 | some j =>
  have hij : i ≠ j := fun e => hi (e ▸ hd j rfl)
  rw [show (a.put (some j) v).tmps = a.tmps.setIfInBounds j v from rfl, zhm a hij]
  exact h i hi
def qda (n0 : Nat -> Prop) (N : Nat) (w0 : World) (A0 : (Nat -> Prop) × RP) (ds : List Deferred) (D : Nat -> Prop) (a0 : Act) (Q : Exit -> St -> Prop) (e : Exit) (a : Act) (w : World) : Prop := ∃ a1, a = { a1 with defers := ds } /\ Ag D a0 a1 /\ qhw n0 N w0 A0 Q e a1 w
end Go.Proofs.YtmhbmpbgpjljeaaGreat
namespace Go.Proofs.YtmhbmpbgpjljeaaGreat
set_option linter.unusedSimpArgs false
set_option linter.unusedVariables false
set_option linter.unusedSectionVars false
set_option maxRecDepth 4000
open Go.RowKit
variable {P : Program}
theorem Rel.turn {n0 n1 A1 : Nat -> Prop} {N : Nat} {σ : St} {g : Gh} {a : Act} {w w' : World} (h : Rel n0 N σ g a w) (hF : ∀ b, Fix σ g w b -> A1 b /\ w'.heap[b]? = w.heap[b]?) (hz : w.heap.size <= w'.heap.size)
  (hn : ∀ b, ¬ n1 b -> A1 b /\ g.R0 b) (hb : ∀ k, σ.bx k ≠ none -> ¬ n1 (g.β k) /\ w'.heap[g.β k]? = w.heap[g.β k]?) (he : ∀ e, σ.On e -> ∀ b ∈ g.φ e, ¬ n1 b /\ A1 b /\ w'.heap[b]? = w.heap[b]?) : Rel n1 N σ { g with A0 := A1 } a w' := by
 have m : Mv σ σ g { g with A0 := A1 } w w' := ⟨fun b hf => (hF b hf).2, fun b hf => ⟨hf.1, hf.2.1, Nat.lt_of_lt_of_le hf.2.2.1 hz, (hF b hf).1⟩, fun b hbb => ⟨rfl, hbb⟩, fun e n hh => ⟨hh, rfl⟩, fun b hb => hb.2⟩
 refine ⟨h.defers, h.size, hn, fun i => m.vr (h.slots i), fun b cs hbb => ?_, fun b hbb => (hb b hbb).1, h.inj, fun e x hx ho => m.evr (h.evs e x hx ho) fun b hm => (he e ⟨x, hx, ho⟩ b hm).2.2, fun e x hx ho => ⟨m.rep (h.offs e x hx ho).1, (h.offs e x hx ho).2⟩, h.slc, fun e ho b hm => ⟨(he e ho b hm).2.1, (h.ebase e ho b hm).2⟩, fun e ho b hm => (he e ho b hm).1, h.nodup, h.apart, h.ebx⟩
 obtain ⟨vs, ty, k1, k2⟩ := h.boxes b cs hbb
 exact ⟨vs, ty, by rw [(hb b (by rw [hbb]; simp)).2]; exact k1, m.crs k2⟩
theorem Rel.elt {n0 : Nat -> Prop} {N : Nat} {σ : St} {g : Gh} {a : Act} {w : World} (h : Rel n0 N σ g a w) {e : Nat} (ho : σ.On e) {b : Nat} (hm : b ∈ g.φ e) : b < w.heap.size := by
 obtain ⟨x, hx, hon⟩ := ho
 exact (h.evs e x hx hon).lt b hm
theorem Bk.mono {n0 n1 : Nat -> Prop} {w w' : World} (h : Bk n1 w w') (hn : ∀ b, n0 b -> n1 b) : Bk n0 w w' := ⟨h.os, h.tape, h.output, h.size, fun k hk => h.block k (hn k hk)⟩
end Go.Proofs.YtmhbmpbgpjljeaaGreat
namespace Go.Proofs.YtmhbmpbgpjljeaaGreat
set_option linter.unusedSimpArgs false
set_option linter.unusedVariables false
set_option linter.unusedSectionVars false
set_option maxRecDepth 4000
open Go.RowKit
variable {P : Program}
def swp (a b e : Nat) : Nat := if e = a then b else if e = b then a else e
theorem zcp (a b e : Nat) : swp a b (swp a b e) = e := by unfold swp; split <;> (try split) <;> (try split) <;> omega
def C.ren (a b : Nat) : C -> C
 | .ow e g => .ow (swp a b e) g
 | .eo e g sz i o => .eo (swp a b e) g sz i o
 | .vw e g sz o => .vw (swp a b e) g sz o
 | c => c
def V.ren (a b : Nat) : V -> V
 | .one c => .one (c.ren a b)
 | .agg cs => .agg (cs.map (C.ren a b))
 | .tup xs => .tup (xs.map fun x => (x.1, x.2.map (C.ren a b)))
def St.ren (σ : St) (a b : Nat) : St := ⟨fun i => (σ.sl i).ren a b, fun k => (σ.bx k).map (·.map (C.ren a b)), fun e => σ.ev (swp a b e)⟩
def Gh.ren (g : Gh) (a b : Nat) : Gh := { g with ψ := fun e => g.ψ (swp a b e), φ := fun e => g.φ (swp a b e) }
theorem zhd {σ : St} {a b k : Nat} : (σ.ren a b).bx k ≠ none ↔ σ.bx k ≠ none := by unfold St.ren; simp
theorem zqa {σ : St} {a b e n : Nat} (h : σ.has e n) : (σ.ren a b).has (swp a b e) n := by
 obtain ⟨x, h1, h2⟩ := h
 exact ⟨x, by show σ.ev (swp a b (swp a b e)) = _; rw [zcp]; exact h1, h2⟩
theorem zqb {σ : St} {g : Gh} {w : World} {a b : Nat} : Fix (σ.ren a b) (g.ren a b) w = Fix σ g w := by
 funext q
 refine propext ⟨fun h => ⟨fun k hk => h.1 k (zhd.2 hk), fun e x he ho => ?_, h.2.2⟩, fun h => ⟨fun k hk => h.1 k (zhd.1 hk), fun e x he ho => h.2.1 (swp a b e) x he ho, h.2.2⟩⟩
 have := h.2.1 (swp a b e) x (by show σ.ev (swp a b (swp a b e)) = _; rw [zcp]; exact he) ho
 have e2 : (g.ren a b).φ (swp a b e) = g.φ e := by show g.φ (swp a b (swp a b e)) = _; rw [zcp]
 rwa [e2] at this
theorem zxw {σ : St} {g : Gh} {w : World} {a b : Nat} : zb0 (σ.ren a b) (g.ren a b) w = zb0 σ g w := by
 funext q
 unfold zb0
 rw [zqb]
 refine propext ⟨fun h => ⟨h.1, fun e ho hm => h.2 (swp a b e) ?_ ?_⟩, fun h => ⟨h.1, fun e ho hm => h.2 (swp a b e) ho hm⟩⟩
 ·show σ.On (swp a b (swp a b e)); rw [zcp]; exact ho
 ·show q ∈ g.φ (swp a b (swp a b e)); rw [zcp]; exact hm
theorem zxg {σ : St} {g : Gh} {w : World} {a b : Nat} {c : C} {v : Value} (h : CR σ g w c v) : CR (σ.ren a b) (g.ren a b) w (c.ren a b) v := by
 have hF := zqb (σ := σ) (g := g) (w := w) (a := a) (b := b)
 have hψ : ∀ e, (g.ren a b).ψ (swp a b e) = g.ψ e := fun e => by show g.ψ (swp a b (swp a b e)) = _; rw [zcp]
 cases c with
 | t x => show zai _ _ _ _; rw [hF]; exact h
 | nl s => exact h
 | ow e n => exact ⟨by show v = (g.ren a b).ψ (swp a b e) n; rw [hψ]; exact h.1, zqa h.2⟩
 | bx q o => exact ⟨h.1, zhd.2 h.2⟩
 | el cs o => obtain ⟨q, r, h1, h2, h3⟩ := h; exact ⟨q, r, h1, by rw [hF]; exact h2, by rw [hF]; exact h3⟩
 | eo e s sz i o => obtain ⟨q, n, c, h1, h2, h3, h4⟩ := h; exact ⟨q, n, c, by rw [hψ]; exact h1, h2, h3, zqa h4⟩
 | vw e s sz i => obtain ⟨q, n, c, h1, h2, h3, h4⟩ := h; exact ⟨q, n, c, by rw [hψ]; exact h1, h2, h3, zqa h4⟩
 | fn f caps => exact ⟨h.1, fun q hq => zhd.2 (h.2 q hq)⟩
 | cv u => exact h
 | any => trivial
 | rn x => show zai _ _ _ _; rw [zxw]; exact h
 | er cs o => obtain ⟨q, r, h1, h2, h3⟩ := h; exact ⟨q, r, h1, by rw [zxw]; exact h2, by rw [zxw]; exact h3⟩
theorem zlp {σ : St} {g : Gh} {w : World} {a b : Nat} : ∀ {cs : List C} {vs : List Value}, CRs σ g w cs vs -> CRs (σ.ren a b) (g.ren a b) w (cs.map (C.ren a b)) vs
 | [], _, h => h
 | c :: cs, _, h => by obtain ⟨v, vs', rfl, h1, h2⟩ := h; exact ⟨v, vs', rfl, zxg h1, zlp h2⟩
theorem zxk {σ : St} {g : Gh} {w : World} {a b : Nat} : ∀ {xs : List (Bool × List C)} {vs : List Value}, CRt σ g w xs vs -> CRt (σ.ren a b) (g.ren a b) w (xs.map fun x => (x.1, x.2.map (C.ren a b))) vs
 | [], _, h => h
 | x :: xs, _, h => by
  obtain ⟨v, vs', rfl, h1, h2⟩ := h
  refine ⟨v, vs', rfl, ?_, zxk h2⟩
  unfold CRx at h1 ⊢
  split at h1
  ·rw [if_pos ‹_›]; obtain ⟨q, h3, h4⟩ := h1; exact ⟨q, h3, zlp h4⟩
  ·rw [if_neg ‹_›]; obtain ⟨c, h3, h4⟩ := h1; exact ⟨c.ren a b, by simp [h3], zxg h4⟩
theorem vr_ren {σ : St} {g : Gh} {w : World} {a b : Nat} {x : V} {v : Value} (h : VR σ g w x v) : VR (σ.ren a b) (g.ren a b) w (x.ren a b) v := by
 cases x with
 | one c => exact zxg h
 | agg cs => obtain ⟨q, h1, h2⟩ := h; exact ⟨q, h1, zlp h2⟩
 | tup xs => obtain ⟨q, h1, h2⟩ := h; exact ⟨q, h1, zxk h2⟩
theorem zkr {σ : St} {a b e : Nat} (h : (σ.ren a b).On e) : σ.On (swp a b e) := h
theorem Rel.ren {n0 : Nat -> Prop} {N : Nat} {σ : St} {g : Gh} {ac : Act} {w : World} (h : Rel n0 N σ g ac w) (a b : Nat) : Rel n0 N (σ.ren a b) (g.ren a b) ac w := by
 have hF := zqb (σ := σ) (g := g) (w := w) (a := a) (b := b)
 refine ⟨h.defers, h.size, h.anew, fun i => vr_ren (h.slots i), fun k cs hk => ?_, fun k hk => h.base k (zhd.1 hk), fun k k' h1 h2 => h.inj k k' (zhd.1 h1) (zhd.1 h2), fun e x he ho => ?_, fun e x he ho => ?_, fun e n => h.slc (swp a b e) n, fun e he => h.ebase _ (zkr he), fun e he => h.etop _ (zkr he), fun e he => h.nodup _ (zkr he), fun e e' he he' hne => h.apart _ _ (zkr he) (zkr he') (fun k => hne (by rw [<- zcp a b e, k, zcp])), fun e k he hk => h.ebx _ k (zkr he) (zhd.1 hk)⟩
 ·obtain ⟨cs0, h1, rfl⟩ := Option.map_eq_some_iff.1 hk
  obtain ⟨vs, ty, k1, k2⟩ := h.boxes k cs0 h1
  exact ⟨vs, ty, k1, zlp k2⟩
 ·rw [hF]; exact h.evs (swp a b e) x he ho
 ·rw [hF]; exact h.offs (swp a b e) x he ho
theorem zsa (a b : Nat) : ∀ (l : List (Nat × V)) (i : Nat), (ze6 l i).ren a b = ze6 (l.map fun p => (p.1, p.2.ren a b)) i
 | [], i => rfl
 | (j, v) :: l, i => by
  simp only [List.map_cons, ze6]
  split
  ·rfl
  ·exact zsa a b l i
theorem qax {α β : Type} (f : α -> β) : ∀ (l : List (Nat × α)) (i : Nat), (tbl l i).map f = tbl (l.map fun p => (p.1, f p.2)) i
 | [], i => rfl
 | (j, v) :: l, i => by
  simp only [List.map_cons, tbl]
  split
  ·rfl
  ·exact qax f l i
theorem zzm {α : Type} (a b : Nat) : ∀ (l : List (Nat × α)) (i : Nat), tbl l (swp a b i) = tbl (l.map fun p => (swp a b p.1, p.2)) i
 | [], i => rfl
 | (j, v) :: l, i => by
  simp only [List.map_cons, tbl]
  by_cases h : swp a b i = j
  ·rw [if_pos h, if_pos (by rw [<- h, zcp])]
  ·rw [if_neg h, if_neg (fun e => h (by rw [e, zcp]))]
   exact zzm a b l i
theorem wk_ren (a b : Nat) (l : List (Nat × V)) (bl : List (Nat × List C)) (el : List (Nat × Ev)) : Wk (hd l bl el) (hd (l.map fun p => (p.1, p.2.ren a b)) (bl.map fun p => (p.1, p.2.map (C.ren a b))) (el.map fun p => (swp a b p.1, p.2))) := fun n0 N g ac w hR => by
 have e : (hd l bl el).ren a b = hd (l.map fun p => (p.1, p.2.ren a b)) (bl.map fun p => (p.1, p.2.map (C.ren a b))) (el.map fun p => (swp a b p.1, p.2)) := by
  unfold hd St.ren
  simp only [St.mk.injEq]
  exact ⟨funext fun i => zsa a b l i, funext fun k => qax _ bl k, funext fun e => zzm a b el e⟩
 exact ⟨g.ren a b, e ▸ hR.ren a b, rfl, rfl⟩
end Go.Proofs.YtmhbmpbgpjljeaaGreat
namespace Go.Proofs.YtmhbmpbgpjljeaaGreat
set_option linter.unusedSimpArgs false
set_option linter.unusedVariables false
set_option linter.unusedSectionVars false
set_option maxRecDepth 4000
open Go.RowKit
variable {P : Program}
def C.evs : C -> List Nat
 | .ow e _ => [e]
 | .eo e _ _ _ _ => [e]
 | .vw e _ _ _ => [e]
 | _ => []
def C.bxs : C -> List Nat
 | .bx b _ => [b]
 | .fn _ caps => caps
 | _ => []
def V.alls : V -> List C
 | .one c => [c]
 | .agg cs => cs
 | .tup xs => xs.flatMap (·.2)
def ins (x : Nat) : List Nat -> List Nat
 | [] => [x]
 | y :: l => if x = y then y :: l else y :: ins x l
def zkh : List Nat -> List Nat -> List Nat
 | [], l => l
 | x :: xs, l => zkh xs (ins x l)
def noK (x : Nat) : List Nat -> Bool
 | [] => true
 | y :: l => if x = y then false else noK x l
def dif (l : List Nat) : List Nat -> List Nat
 | [] => []
 | x :: xs => if noK x l = true then x :: dif l xs else dif l xs
def qel : List C -> List Nat
 | [] => []
 | c :: cs => c.bxs ++ qel cs
def qei : List C -> List Nat
 | [] => []
 | c :: cs => c.evs ++ qei cs
def St.kb0 (σ : St) : List Nat -> List Nat
 | [] => []
 | i :: L => zkh (qel (σ.sl i).alls) (σ.kb0 L)
def St.kb1 (σ : St) : List Nat -> List Nat
 | [] => []
 | b :: B => zkh (b :: qel ((σ.bx b).getD [])) (σ.kb1 B)
def St.KB (σ : St) (L : List Nat) : List Nat := σ.kb1 (σ.kb0 L)
def St.ke0 (σ : St) : List Nat -> List Nat
 | [] => []
 | i :: L => zkh (qei (σ.sl i).alls) (σ.ke0 L)
def St.ke1 (σ : St) (l : List Nat) : List Nat -> List Nat
 | [] => l
 | b :: B => zkh (qei ((σ.bx b).getD [])) (σ.ke1 l B)
def St.KE (σ : St) (L : List Nat) : List Nat := σ.ke1 (σ.ke0 L) (σ.KB L)
def St.lL (σ : St) (L : List Nat) : List (Nat × V) := L.map fun i => (i, σ.sl i)
def St.lB (σ : St) (B : List Nat) : List (Nat × List C) := B.map fun b => (b, (σ.bx b).getD [])
def St.lE (σ : St) (E : List Nat) : List (Nat × Ev) := E.map fun e => (e, (σ.ev e).getD ⟨false, 0, [], 0, false⟩)
def St.hL (σ : St) (L : List Nat) : St := hd (σ.lL L) (σ.lB (σ.KB L)) (σ.lE (σ.KE L))
def wkK (σ : St) (L : List Nat) : Prop := wkL σ (σ.hL L) (σ.lL L) /\ wkB σ (σ.hL L) (σ.lB (σ.KB L)) /\ wkE σ (σ.lE (σ.KE L))
theorem wkK_wk {σ : St} {L : List Nat} (h : wkK σ L) : Wk σ (σ.hL L) := zaa h
section
variable {ks : List Fr} {Q : Exit -> St -> Prop} {σ : St} {ops : Array Oper} {os : List Oper} {ty : TypeId} {ps : String} {af : Array Edge} {dst : Option Nat} {x : Operand} {asx : Array Operand} {ts : Array TypeId} {f : FuncId}
theorem zp1 {pre : List D} {d : D} {post : List D} {d' : D} {res : List D} (L : List Nat) (h : IC P f pre d post d' res) (hw : wkK σ L)
  (hd1 : ((σ.lL L).all fun p => p.2.mOk) = true) (hd2 : ((σ.lB (σ.KB L)).all fun p => p.2.all C.mOk) = true) (hd3 : ((σ.lE (σ.KE L)).all fun p => p.2.on && p.2.deep) = true)
  (hp : zan (zav ((σ.hL L).get P 0 x)) fun p => p.1 = f /\ spI ((σ.hL L).gets P asx ts ++ p.2) pre.length fun p1 gv p2 => zud p1 pre /\ zud p2 post /\ inG (σ.hL L) gv d d') (hr : res.all D.fl = true)
  (k : exo P ops os ks Q ((σ.hL L).cI P x asx ts pre.length dst d' res)) : exo P ops (⟨dst, .call ⟨.value x, asx, ts⟩, ty, ps, af, none⟩ :: os) ks Q σ :=
 callId h hw hd1 hd2 hd3 hp hr k
theorem zxz {d : Nat} {ds : List (Bool × D)} {res : List D} (L A : List Nat) (pl : List (Nat × Nat × Nat)) (h : GC P f ds res)
  (hw : wkL σ (hd (σ.lL A ++ σ.lL L) (σ.lB (dif (σ.KB L) (σ.KB A)) ++ σ.lB (σ.KB L)) (σ.lE (dif (σ.KE L) (σ.KE A)) ++ σ.lE (σ.KE L))) (σ.lL A ++ σ.lL L) /\ wkB σ (hd (σ.lL A ++ σ.lL L) (σ.lB (dif (σ.KB L) (σ.KB A)) ++ σ.lB (σ.KB L)) (σ.lE (dif (σ.KE L) (σ.KE A)) ++ σ.lE (σ.KE L))) (σ.lB (dif (σ.KB L) (σ.KB A)) ++ σ.lB (σ.KB L)) /\ wkE σ (σ.lE (dif (σ.KE L) (σ.KE A)) ++ σ.lE (σ.KE L)))
  (hk : zfd (σ.lL L) (σ.lL A) /\ zfd (σ.lB (σ.KB L)) (σ.lB (dif (σ.KB L) (σ.KB A))) /\ zfd (σ.lE (σ.KE L)) (σ.lE (dif (σ.KE L) (σ.KE A))) /\ okL (σ.hL L) (σ.lL L) /\ okB (σ.hL L) (σ.lB (σ.KB L)) /\ okE (σ.lE (σ.KE L)))
  (hp : zan (zav ((hd (σ.lL A ++ σ.lL L) (σ.lB (dif (σ.KB L) (σ.KB A)) ++ σ.lB (σ.KB L)) (σ.lE (dif (σ.KE L) (σ.KE A)) ++ σ.lE (σ.KE L))).get P 0 x)) fun p => p.1 = f /\ gvA (hd (σ.lL A ++ σ.lL L) (σ.lB (dif (σ.KB L) (σ.KB A)) ++ σ.lB (σ.KB L)) (σ.lE (dif (σ.KE L) (σ.KE A)) ++ σ.lE (σ.KE L))) (zvj (σ.lE (σ.KE L))) [] pl ((hd (σ.lL A ++ σ.lL L) (σ.lB (dif (σ.KB L) (σ.KB A)) ++ σ.lB (σ.KB L)) (σ.lE (dif (σ.KE L) (σ.KE A)) ++ σ.lE (σ.KE L))).gets P asx ts ++ p.2) ds)
  (hf : zgr d 0 (za0 res) (σ.hL L).ev) (k : exo P ops os ks Q ((σ.hL L).callF d res)) : exo P ops (⟨some d, .call ⟨.value x, asx, ts⟩, ty, ps, af, none⟩ :: os) ks Q σ :=
 callG (σ.lL A) (σ.lL L) _ _ _ _ pl h hw hk hp hf k
theorem qh5 {σ : St} {g : Gh} {w : World} {d : D} {v : Value} (h : zvy w (zb0 σ g w) d v) : VR σ g w d.toN v := qav (fun _ h => h) h
theorem zaz.vrlN {σ : St} {g : Gh} {w : World} : ∀ {ds : List D} {us : List Value}, zaz w (zb0 σ g w) ds us -> VRl σ g w (ds.map D.toN) us
 | [], us, h => h
 | d :: ds, us, h => by
  obtain ⟨u, us', rfl, h1, h2⟩ := h
  exact ⟨u, us', rfl, qh5 h1, zaz.vrlN h2⟩
theorem zas.lt {w : World} : ∀ {cs : List T} {vs : List Value} {fps : List Nat}, zas w cs vs fps -> ∀ b ∈ fps, b < w.heap.size
 | [], _, _, h, b, hb => by rw [h.2] at hb; simp at hb
 | c :: cs, _, _, h, b, hb => by
  obtain ⟨v, vs', f1, f2, rfl, rfl, h1, h2⟩ := h
  rcases List.mem_append.1 hb with hb | hb
  ·exact zao.lt c v f1 h1 b hb
  ·exact zas.lt h2 b hb
theorem Rel.frNew {n0 : Nat -> Prop} {N : Nat} {σ : St} {g : Gh} {a : Act} {w w' : World} (hR : Rel n0 N σ g a w) (hn : LtK n0 w) {b : Nat} (h1 : w.heap.size <= b) (h2 : b < w'.heap.size) : zb0 σ g w' b := by
 refine ⟨⟨fun k hk e => by have := hR.lt hk; omega, fun e x hx ho hh => ?_, h2, (hR.anew b (hn.new h1)).1⟩, fun e ⟨x, hx, ho⟩ hm => ?_⟩
 ·have := (hR.evs e x hx ho).lt b (List.mem_of_mem_head? hh); omega
 ·have := (hR.evs e x hx ho).lt b hm; omega
def St.callN (σ : St) (d : Option Nat) (res : List D) : St := σ.put d (zqp (res.map D.toN))
theorem qig (res : List D) : ∀ y ∈ res.map D.toN, y.isTup = false := fun y hy => by
 obtain ⟨d, _, rfl⟩ := List.mem_map.1 hy
 cases d <;> rfl
theorem qfj {g : Gh} {w : World} {c : C} {t : T} {v : Value} (h : rdC c t) (hv : CR σ g w c v) : zai w (zb0 σ g w) t v := by
 unfold rdC at h
 split at h
 ·rename_i x
  obtain ⟨rfl, hn⟩ := h
  exact zjr (σ := σ) (g := g) (x := .one (.t x)) (d := .one x) ⟨rfl, hn⟩ hv _
 ·rename_i f f'
  subst h
  exact zjr (σ := σ) (g := g) (x := .one (.fn f [])) (d := .one (.fn f [])) rfl hv _
 ·subst h; exact hv
 ·obtain ⟨rfl, rfl⟩ := h
  obtain ⟨b, q, h1, h2, h3⟩ := hv
  unfold zai
  exact ⟨b, q, h1, h2, h3⟩
 ·subst h
  rw [show v = .slice none 0 0 from hv]
  unfold zai
  exact ⟨none, 0, rfl, by simp, by simp, Or.inl rfl⟩
 ·exact h.elim
theorem zw5 {g : Gh} {w : World} : ∀ {cs : List C} {ts : List T} {vs : List Value}, rdCs cs ts -> CRs σ g w cs vs -> zac w (zb0 σ g w) ts vs
 | [], [], vs, _, hv => by unfold zac; exact hv
 | [], _ :: _, _, h, _ => h.elim
 | _ :: _, [], _, h, _ => h.elim
 | c :: cs, t :: ts, vs, h, hv => by
  obtain ⟨v, vs', rfl, h1, h2⟩ := hv
  unfold zac
  exact ⟨v, vs', rfl, qfj h.1 h1, zw5 h.2 h2⟩
theorem qff {g : Gh} {w : World} {x : V} {d : D} {v : Value} (h : rdV x d) (hv : VR σ g w x v) : zvy w (zb0 σ g w) d v := by
 unfold rdV at h
 split at h
 ·exact qfj h hv
 ·obtain ⟨b, e, hv⟩ := hv; exact ⟨b, e, zw5 h hv⟩
 ·exact h.elim
def qfh : List V -> List D -> Prop
 | [], ds => ds = []
 | v :: vs, ds => ∃ d ds', ds = d :: ds' /\ rdV v d /\ qfh vs ds'
theorem zxq (v : V) (vs : List V) (d : D) (ds : List D) : qfh (v :: vs) (d :: ds) = (rdV v d /\ qfh vs ds) := by
 refine propext ⟨fun ⟨_, _, e, h⟩ => ?_, fun h => ⟨d, ds, rfl, h⟩⟩
 cases e; exact h
theorem qcc : qfh [] [] = True := by simp [qfh]
theorem zzv {g : Gh} {w : World} : ∀ {xs : List V} {ds : List D}, qfh xs ds -> ∀ {vs : List Value}, VRl σ g w xs vs -> zaz w (zb0 σ g w) ds vs
 | [], ds, h, vs, hv => by rw [show ds = [] from h]; exact hv
 | x :: xs, ds, h, vs, hv => by
  obtain ⟨d, ds', rfl, h1, h2⟩ := h
  obtain ⟨v, vs', rfl, k1, k2⟩ := hv
  exact ⟨v, vs', rfl, qff h1 k1, zzv h2 k2⟩
theorem zu1 {o : Oper} {x : Operand} {asx : Array Operand} {ts : Array TypeId} {f : FuncId} {cvs : List V} {ds res : List D} (ho : o.op = .call ⟨.value x, asx, ts⟩)
  (h : RC P f ds res) (hc : zav (σ.get P 0 x) = some (f, cvs)) (hv : qfh (σ.gets P asx ts ++ cvs) ds) : zae P o σ (σ.callN o.dst res) := by
 intro n0 N g a w hR hn hdN
 obtain ⟨vs, h1, h2⟩ := zct hR ho hc h.1
 unfold Oper.wp
 rw [h1]
 have hargs := (zzv hv h2).keep (A' := fun b => b < w.heap.size /\ zb0 σ g w b) (fun _ _ => rfl) fun b hb => ⟨hb.1.2.2.1, hb⟩
 refine (h.2 w vs (zb0 σ g w) hargs).mono ?_
 rintro e w' ⟨us, rfl, o1, hb⟩
 have hR' : Rel n0 N σ g a w' := hR.after hn hb (New.refl σ g (w.heap.size <= ·) w' hR.slc)
 refine ⟨g, ?_, Bk.of_below hb hn, rfl, rfl⟩
 refine hR'.put o.dst (zep (zaz.vrlN (o1.keep (fun _ _ => rfl) fun b hb' => ?_)) (qig res)) hdN
 rcases hb'.2 with hf | hf
 ·exact ⟨⟨hf.1.1, hf.1.2.1, hb'.1, hf.1.2.2.2⟩, hf.2⟩
 ·exact hR.frNew hn hf hb'.1
theorem callRn {ds res : List D} (h : RC P f ds res) (hp : zan (zav (σ.get P 0 x)) fun p => p.1 = f /\ qfh (σ.gets P asx ts ++ p.2) ds)
  (k : exo P ops os ks Q (σ.callN dst res)) : exo P ops (⟨dst, .call ⟨.value x, asx, ts⟩, ty, ps, af, none⟩ :: os) ks Q σ := by
 obtain ⟨⟨f', cvs⟩, h1, rfl, h2⟩ := zal hp
 exact zce rfl rfl (zu1 rfl h h1 h2) k
end
def gVN (k : Nat) : Bool × D -> V
 | (false, d) => d.toN
 | (true, d) => gV k (true, d)
theorem zar.atR {w : World} {A : Nat -> Prop} : ∀ {ds : List (Bool × D)} {vs : List Value} {fp tp : List Nat}, zar w A ds vs fp tp -> ∀ (i : Nat) d, ds[i]? = some (false, d) -> ∃ v, vs[i]? = some v /\ zvy w A d v
 | [], _, _, _, _, i, d, h => by simp at h
 | (false, e) :: ds, _, _, _, h, 0, d, hi => by
  obtain ⟨v, vs', rfl, h1, _⟩ := h
  simp only [List.getElem?_cons_zero, Option.some.injEq, Prod.mk.injEq, true_and] at hi
  subst hi
  exact ⟨v, rfl, h1⟩
 | (true, e) :: ds, _, _, _, h, 0, d, hi => by simp at hi
 | (false, e) :: ds, _, _, _, h, i + 1, d, hi => by
  obtain ⟨v, vs', rfl, _, h2⟩ := h
  simpa using zar.atR h2 i d (by simpa using hi)
 | (true, e) :: ds, _, _, _, h, i + 1, d, hi => by
  obtain ⟨v, vs', f1, f2, t1, t2, rfl, rfl, rfl, _, h2⟩ := h
  simpa using zar.atR h2 i d (by simpa using hi)
def renL (a b : Nat) (l : List (Nat × V)) : List (Nat × V) := l.map fun p => (p.1, p.2.ren a b)
def renB (a b : Nat) (l : List (Nat × List C)) : List (Nat × List C) := l.map fun p => (p.1, p.2.map (C.ren a b))
def renE (a b : Nat) (l : List (Nat × Ev)) : List (Nat × Ev) := l.map fun p => (swp a b p.1, p.2)
theorem zrp (a b : Nat) (c : C) : (c.ren a b).ren a b = c := by cases c <;> simp [C.ren, zcp]
theorem zmx (a b : Nat) (cs : List C) : (cs.map (C.ren a b)).map (C.ren a b) = cs := by
 rw [List.map_map]; exact (List.map_congr_left fun c _ => zrp a b c).trans (List.map_id cs)
theorem qew (a b : Nat) (v : V) : (v.ren a b).ren a b = v := by
 cases v with
 | one c => simp [V.ren, zrp]
 | agg cs => simp only [V.ren, zmx]
 | tup xs =>
  simp only [V.ren, List.map_map]
  congr 1
  exact (List.map_congr_left fun x _ => by simp only [Function.comp, zmx]; rfl).trans (List.map_id xs)
theorem zif (a b : Nat) {σ : St} {l : List (Nat × V)} {bl : List (Nat × List C)} {el : List (Nat × Ev)} (h : wkL σ (hd (renL a b l) (renB a b bl) (renE a b el)) (renL a b l) /\ wkB σ (hd (renL a b l) (renB a b bl) (renE a b el)) (renB a b bl) /\ wkE σ (renE a b el)) : Wk σ (hd l bl el) := by
 have h1 := (zaa h).trans (wk_ren a b _ _ _)
 have e1 : (renL a b l).map (fun p => (p.1, p.2.ren a b)) = l := by
  unfold renL; rw [List.map_map]; exact (List.map_congr_left fun p _ => by simp only [Function.comp, qew]; rfl).trans (List.map_id l)
 have e2 : (renB a b bl).map (fun p => (p.1, p.2.map (C.ren a b))) = bl := by
  unfold renB; rw [List.map_map]; exact (List.map_congr_left fun p _ => by simp only [Function.comp, zmx]; rfl).trans (List.map_id bl)
 have e3 : (renE a b el).map (fun p => (swp a b p.1, p.2)) = el := by
  unfold renE; rw [List.map_map]; exact (List.map_congr_left fun p _ => by simp only [Function.comp, zcp]; rfl).trans (List.map_id el)
 rw [e1, e2, e3] at h1
 exact h1
attribute [go_sem] C.evs C.bxs V.alls ins zkh noK dif qel qei St.kb0 St.kb1 St.KB St.ke0 St.ke1 St.KE St.lL St.lB St.lE St.hL wkK St.callN qcc zxq gVN renL renB renE C.ren V.ren swp
end Go.Proofs.YtmhbmpbgpjljeaaGreat
namespace Go.Proofs.YtmhbmpbgpjljeaaGreat
set_option linter.unusedSimpArgs false
set_option linter.unusedVariables false
set_option linter.unusedSectionVars false
set_option maxRecDepth 4000
open Go.RowKit
variable {P : Program}
theorem zar.append {w : World} {A : Nat -> Prop} : ∀ {d1 d2 : List (Bool × D)} {v1 v2 : List Value} {f1 f2 t1 t2 : List Nat}, zar w A d1 v1 f1 t1 -> zar w A d2 v2 f2 t2 -> zar w A (d1 ++ d2) (v1 ++ v2) (f1 ++ f2) (t1 ++ t2)
 | [], _, _, _, _, _, _, _, h, k => by obtain ⟨rfl, rfl, rfl⟩ := h; exact k
 | (true, d) :: ds, _, _, _, _, _, _, _, h, k => by
  obtain ⟨v, vs', g1, g2, s1, s2, rfl, rfl, rfl, h1, h2⟩ := h
  exact ⟨v, _, g1, _, s1, _, rfl, by rw [List.append_assoc], by rw [List.append_assoc], h1, zar.append h2 k⟩
 | (false, d) :: ds, _, _, _, _, _, _, _, h, k => by
  obtain ⟨v, vs', rfl, h1, h2⟩ := h
  exact ⟨v, _, rfl, h1, zar.append h2 k⟩
theorem zar.len {w : World} {A : Nat -> Prop} : ∀ {ds : List (Bool × D)} {vs : List Value} {fp tp : List Nat}, zar w A ds vs fp tp -> vs.length = ds.length
 | [], _, _, _, h => by rw [h.1]; rfl
 | (true, d) :: ds, _, _, _, h => by obtain ⟨v, vs', _, _, _, _, rfl, rfl, rfl, _, h2⟩ := h; simp [zar.len h2]
 | (false, d) :: ds, _, _, _, h => by obtain ⟨v, vs', rfl, _, h2⟩ := h; simp [zar.len h2]
theorem zar.split {w : World} {A : Nat -> Prop} : ∀ {d1 d2 : List (Bool × D)} {vs : List Value} {fp tp : List Nat}, zar w A (d1 ++ d2) vs fp tp -> ∃ v1 v2 f1 f2 t1 t2, vs = v1 ++ v2 /\ fp = f1 ++ f2 /\ tp = t1 ++ t2 /\ zar w A d1 v1 f1 t1 /\ zar w A d2 v2 f2 t2
 | [], d2, vs, fp, tp, h => ⟨[], vs, [], fp, [], tp, rfl, rfl, rfl, ⟨rfl, rfl, rfl⟩, h⟩
 | (true, d) :: ds, d2, _, _, _, h => by
  obtain ⟨v, vs', g1, g2, s1, s2, rfl, rfl, rfl, h1, h2⟩ := h
  obtain ⟨v1, v2, f1, f2, t1, t2, rfl, rfl, rfl, k1, k2⟩ := zar.split h2
  exact ⟨v :: v1, v2, g1 ++ f1, f2, s1 ++ t1, t2, rfl, by rw [List.append_assoc], by rw [List.append_assoc], ⟨v, v1, g1, f1, s1, t1, rfl, rfl, rfl, h1, k1⟩, k2⟩
 | (false, d) :: ds, d2, _, _, _, h => by
  obtain ⟨v, vs', rfl, h1, h2⟩ := h
  obtain ⟨v1, v2, f1, f2, t1, t2, rfl, rfl, rfl, k1, k2⟩ := zar.split h2
  exact ⟨v :: v1, v2, f1, f2, t1, t2, rfl, rfl, rfl, ⟨v, v1, rfl, h1, k1⟩, k2⟩
def zbv : List (Bool × D) -> List (Bool × T)
 | [] => []
 | (b, .one t) :: ds => (b, t) :: zbv ds
 | (b, .agg ts) :: ds => ts.map (fun t => (b, t)) ++ zbv ds
def bxA (box : List (Bool × T)) : List (Bool × D) := box.map fun p => (p.1, .one p.2)
theorem zvz.ones {w : World} {A : Nat -> Prop} : ∀ {ts : List T} {vs : List Value} {fp tp : List Nat}, zvz w ts vs fp tp -> zar w A (bxA (ts.map fun t => (true, t))) vs fp tp
 | [], _, _, _, h => h
 | t :: ts, _, _, _, h => by
  obtain ⟨v, vs', f1, f2, t2, rfl, rfl, rfl, h1, h2⟩ := h
  exact ⟨v, vs', f1, f2, _, t2, rfl, rfl, rfl, ⟨h1, rfl⟩, zvz.ones h2⟩
theorem zac.ones {w : World} {A : Nat -> Prop} : ∀ {ts : List T} {vs : List Value}, zac w A ts vs -> zar w A (bxA (ts.map fun t => (false, t))) vs [] []
 | [], _, h => by unfold zac at h; exact ⟨h, rfl, rfl⟩
 | t :: ts, _, h => by
  unfold zac at h
  obtain ⟨v, vs', rfl, h1, h2⟩ := h
  exact ⟨v, vs', rfl, h1, zac.ones h2⟩
theorem zcv (a b : List (Bool × T)) : bxA (a ++ b) = bxA a ++ bxA b := List.map_append
theorem zai.cells1 {w : World} {A : Nat -> Prop} {t : T} {v : Value} (h : zai w A t v) : v.cells = #[v] := (zai.one h).2
theorem zar.flat {w : World} {A : Nat -> Prop} : ∀ {ds : List (Bool × D)} {vs : List Value} {fp tp : List Nat}, zar w A ds vs fp tp -> ∃ tp', zar w A (bxA (zbv ds)) (vs.flatMap fun u => u.cells.toList) fp tp'
 | [], _, _, _, h => by obtain ⟨rfl, rfl, rfl⟩ := h; exact ⟨[], rfl, rfl, rfl⟩
 | (true, .one t) :: ds, _, _, _, h => by
  obtain ⟨v, vs', f1, f2, t1, t2, rfl, rfl, rfl, h1, h2⟩ := h
  obtain ⟨tp', h2⟩ := zar.flat h2
  have e : (v :: vs').flatMap (fun u => u.cells.toList) = v :: vs'.flatMap fun u => u.cells.toList := by
   have h1' : zao w t v f1 := h1.1
   simp [h1'.one]
  exact ⟨t1 ++ tp', v, _, f1, f2, t1, tp', e, rfl, rfl, h1, h2⟩
 | (false, .one t) :: ds, _, _, _, h => by
  obtain ⟨v, vs', rfl, h1, h2⟩ := h
  obtain ⟨tp', h2⟩ := zar.flat h2
  have e : (v :: vs').flatMap (fun u => u.cells.toList) = v :: vs'.flatMap fun u => u.cells.toList := by
   have h1' : zai w A t v := h1
   simp [h1'.cells1]
  exact ⟨tp', v, _, e, h1, h2⟩
 | (true, .agg ts) :: ds, _, _, _, h => by
  obtain ⟨v, vs', f1, f2, t1, t2, rfl, rfl, rfl, ⟨a, rfl, h1⟩, h2⟩ := h
  obtain ⟨tp', h2⟩ := zar.flat h2
  refine ⟨t1 ++ tp', ?_⟩
  show zar w A (bxA (ts.map (fun t => (true, t)) ++ zbv ds)) (a ++ vs'.flatMap fun u => u.cells.toList) _ _
  rw [zcv]
  exact zar.append h1.ones h2
 | (false, .agg ts) :: ds, _, _, _, h => by
  obtain ⟨v, vs', rfl, ⟨a, rfl, h1⟩, h2⟩ := h
  obtain ⟨tp', h2⟩ := zar.flat h2
  refine ⟨[] ++ tp', ?_⟩
  show zar w A (bxA (ts.map (fun t => (false, t)) ++ zbv ds)) (a ++ vs'.flatMap fun u => u.cells.toList) _ _
  rw [zcv]
  exact zar.append h1.ones h2
def mC1 (d j : Nat) : Bool × T -> C
 | (true, t) => owC d j t
 | (false, t) => t.toN
def mC (d : Nat) : Nat -> List (Bool × T) -> List C
 | _, [] => []
 | j, p :: ts => mC1 d j p :: mC d (j + 1) ts
def mE (d : Nat) : Nat -> List (Bool × T) -> (Nat -> Option Ev) -> (Nat -> Option Ev)
 | _, [], f => f
 | j, (true, t) :: ts, f => mE d (j + 1) ts (zqw d j f t)
 | j, (false, _) :: ts, f => mE d (j + 1) ts f
def mF (d : Nat) : Nat -> List (Bool × T) -> (Nat -> Option Ev) -> Prop
 | _, [], _ => True
 | j, (true, t) :: ts, f => qd0 d j f t /\ mF d (j + 1) ts (zqw d j f t)
 | j, (false, _) :: ts, f => mF d (j + 1) ts f
def mD (d : Nat) : Nat -> List (Bool × D) -> List V
 | _, [] => []
 | j, (b, .one t) :: ds => .one (mC1 d j (b, t)) :: mD d (j + 1) ds
 | j, (b, .agg ts) :: ds => .agg (mC d j (ts.map fun t => (b, t))) :: mD d (j + ts.length) ds
theorem zm5 (d : Nat) : ∀ (ts : List (Bool × T)) (j : Nat), (mC d j ts).length = ts.length
 | [], _ => rfl
 | t :: ts, j => by simp [mC, zm5 d ts]
theorem zer (d : Nat) : ∀ (t1 t2 : List (Bool × T)) (j : Nat), mC d j (t1 ++ t2) = mC d j t1 ++ mC d (j + t1.length) t2
 | [], _, _ => by simp [mC]
 | t :: ts, t2, j => by simp only [List.cons_append, mC, zer d ts t2 (j + 1), List.length_cons]; rw [show j + 1 + ts.length = j + (ts.length + 1) by omega]
theorem zx0 (d : Nat) : ∀ (ds : List (Bool × D)) (j : Nat), ∀ x ∈ mD d j ds, x.isTup = false
 | [], _, x, hx => by simp [mD] at hx
 | (_, .one t) :: ds, j, x, hx => by
  simp only [mD, List.mem_cons] at hx
  rcases hx with rfl | hx
  ·rfl
  ·exact zx0 d ds _ x hx
 | (_, .agg ts) :: ds, j, x, hx => by
  simp only [mD, List.mem_cons] at hx
  rcases hx with rfl | hx
  ·rfl
  ·exact zx0 d ds _ x hx
theorem New.mix {τ : St} {g : Gh} {NB : Nat -> Prop} {w' : World} {A : Nat -> Prop} (d : Nat) : ∀ (ts : List (Bool × T)) (vs : List Value) (fp tp : List Nat) (j : Nat) (ev' : Nat -> Option Ev) (g' : Gh) (F : List Nat), New τ g NB w' ev' g' F -> mF d j ts ev' -> zar w' A (bxA ts) vs fp tp -> fp.Nodup -> (∀ b ∈ fp, NB b /\ b ∉ F) →
  ∃ g'', New τ g NB w' (mE d j ts ev') g'' (F ++ fp) /\ (∀ e, ev' e ≠ none -> mE d j ts ev' e = ev' e /\ g''.ψ e = g'.ψ e) /\ ∀ (σ' : St) (w'' : World), σ'.ev = mE d j ts ev' -> (∀ t v, zai w' A t v -> zai w'' (zb0 σ' g'' w'') t v) -> CRs σ' g'' w'' (mC d j ts) vs
 | [], vs, fp, tp, j, ev', g', F, hN, hf, ho, hd, hb => by
  obtain ⟨rfl, rfl, rfl⟩ := ho
  exact ⟨g', by simpa [mE] using hN, fun e _ => ⟨rfl, rfl⟩, fun _ _ _ _ => rfl⟩
 | (false, t) :: ts, vs, fp, tp, j, ev', g', F, hN, hf, ho, hd, hb => by
  obtain ⟨v, vs', rfl, h1, h2⟩ := ho
  obtain ⟨g'', k1, k2, k3⟩ := New.mix d ts vs' fp tp (j + 1) ev' g' F hN hf h2 hd hb
  exact ⟨g'', k1, k2, fun σ' w'' hσ hr => ⟨v, vs', rfl, zw3 (hr t v h1), k3 σ' w'' hσ hr⟩⟩
 | (true, t) :: ts, vs, fp, tp, j, ev', g', F, hN, hf, ho, hd, hb => by
  obtain ⟨v, vs', f1, f2, t1, t2, rfl, rfl, rfl, ⟨h1, _⟩, h2⟩ := ho
  obtain ⟨hf1, hf2⟩ := hf
  obtain ⟨hd1, hd2, hd3⟩ := List.nodup_append.1 hd
  have h1 : zao w' t v f1 := h1
  by_cases hfl : t.flat = true
  ·have hz : f1 = [] /\ owC d j t = .t t /\ zqw d j ev' t = ev' /\ ∀ (σ' : St) (g'' : Gh) (w'' : World), CR σ' g'' w'' (.t t) v := by
    cases t <;> simp only [T.flat, Bool.false_eq_true] at hfl
    ·unfold zao at h1; exact ⟨h1.2.2.2, rfl, rfl, fun _ _ _ => by simp only [CR, zai]; exact ⟨h1.1, h1.2.1, h1.2.2.1⟩⟩
    ·unfold zao at h1; exact ⟨h1.2, rfl, rfl, fun _ _ _ => by simp only [CR, zai]; exact h1.1⟩
    ·unfold zao at h1; exact ⟨h1.2.2, rfl, rfl, fun _ _ _ => by simp only [CR, zai]; exact ⟨h1.1, h1.2.1⟩⟩
    ·unfold zao at h1; exact ⟨h1.2, rfl, rfl, fun _ _ _ => by simp only [CR, zai]; exact h1.1⟩
   obtain ⟨rfl, c2, c3, c4⟩ := hz
   rw [c3] at hf2
   obtain ⟨g'', k1, k2, k3⟩ := New.mix d ts vs' f2 t2 (j + 1) ev' g' F hN hf2 h2 hd2 (fun b hb' => hb b (by simp [hb']))
   refine ⟨g'', by simpa [mE, c3] using k1, fun e he => by simpa [mE, c3] using k2 e he, fun σ' w'' hσ hr => ⟨v, vs', rfl, ?_, k3 σ' w'' (by simpa [mE, c3] using hσ) hr⟩⟩
   show CR σ' g'' w'' (owC d j t) v
   rw [c2]; exact c4 _ _ _
  ·cases t <;> simp only [T.flat, Bool.false_eq_true, not_false_eq_true, not_true] at hfl
   ·rename_i sz rows
    have hi' : ev' (d * 32 + j) = none := hf1
    have hi : τ.ev (d * 32 + j) = none := by
     cases hx : τ.ev (d * 32 + j) with
     | none => rfl
     | some x => have := (hN.old (d * 32 + j) (by rw [hx]; simp)).1; rw [hi', hx] at this; cases this
    have hadd := hN.add hi hi' h1 (fun b hb' => (hb b (by simp [hb'])).1) hd1 (fun b hb' => (hb b (by simp [hb'])).2)
    obtain ⟨g'', k1, k2, k3⟩ := New.mix d ts vs' f2 t2 (j + 1) _ _ _ hadd hf2 h2 hd2 (fun b hb' => ⟨(hb b (by simp [hb'])).1, by
      have := (hb b (by simp [hb'])).2
      simp only [List.mem_append, not_or]
      exact ⟨this, fun hf => hd3 b hf b hb' rfl⟩⟩)
    refine ⟨g'', by simpa [mE, zqw] using k1, fun e he => ?_, fun σ' w'' hσ hr => ⟨v, vs', rfl, ?_, k3 σ' w'' hσ hr⟩⟩
    ·have hne : e ≠ d * 32 + j := fun h => he (h ▸ hi')
     have := k2 e (by rw [zak _ _ hne]; exact he)
     simp only [zak _ _ hne] at this
     exact this
    ·have := k2 (d * 32 + j) (by rw [zag]; simp)
     simp only [zag] at this
     exact ⟨by rw [this.2], _, by rw [hσ]; exact this.1, Nat.zero_le _⟩
   ·unfold zao at h1; exact h1.elim
   ·unfold zao at h1; exact h1.elim
   ·unfold zao at h1; exact h1.elim
   ·exact (show False from hf1).elim
   ·unfold zao at h1; exact h1.elim
   ·unfold zao at h1; exact h1.elim
   ·unfold zao at h1; exact h1.elim
theorem zy2 {σ : St} {g : Gh} {w w1 : World} {A : Nat -> Prop} (d : Nat) : ∀ {ds : List (Bool × D)} {us : List Value} {fp tp : List Nat} (j : Nat), zar w1 A ds us fp tp -> CRs σ g w (mC d j (zbv ds)) (us.flatMap fun u => u.cells.toList) -> VRl σ g w (mD d j ds) us
 | [], us, fp, tp, j, h, _ => h.1
 | (true, .one t) :: ds, us, fp, tp, j, h, k => by
  obtain ⟨v, vs', f1, f2, t1, t2, rfl, rfl, rfl, h1, h2⟩ := h
  have hv : zao w1 t v f1 := h1.1
  simp only [List.flatMap_cons, hv.one, zbv, mC] at k
  obtain ⟨u, us', e, k1, k2⟩ := k
  simp only [List.cons_append, List.nil_append, List.cons.injEq] at e
  obtain ⟨rfl, rfl⟩ := e
  exact ⟨v, vs', rfl, k1, zy2 d (j + 1) h2 k2⟩
 | (false, .one t) :: ds, us, fp, tp, j, h, k => by
  obtain ⟨v, vs', rfl, h1, h2⟩ := h
  have hv : zai w1 A t v := h1
  simp only [List.flatMap_cons, hv.cells1, zbv, mC] at k
  obtain ⟨u, us', e, k1, k2⟩ := k
  simp only [List.cons_append, List.nil_append, List.cons.injEq] at e
  obtain ⟨rfl, rfl⟩ := e
  exact ⟨v, vs', rfl, k1, zy2 d (j + 1) h2 k2⟩
 | (true, .agg ts) :: ds, us, fp, tp, j, h, k => by
  obtain ⟨v, vs', f1, f2, t1, t2, rfl, rfl, rfl, ⟨x, rfl, h1⟩, h2⟩ := h
  simp only [List.flatMap_cons, Value.cells, zbv, zer] at k
  obtain ⟨v1, v2, e, k1, k2⟩ := k.split
  have hl : x.length = v1.length := by rw [k1.len, zm5, List.length_map]; exact zas.len (zas.of_g h1)
  obtain ⟨e1, e2⟩ := List.append_inj e hl
  subst e1 e2
  rw [List.length_map] at k2
  exact ⟨_, vs', rfl, ⟨x, rfl, k1⟩, zy2 d (j + ts.length) h2 k2⟩
 | (false, .agg ts) :: ds, us, fp, tp, j, h, k => by
  obtain ⟨v, vs', rfl, ⟨x, rfl, h1⟩, h2⟩ := h
  simp only [List.flatMap_cons, Value.cells, zbv, zer] at k
  obtain ⟨v1, v2, e, k1, k2⟩ := k.split
  have hl : x.length = v1.length := by rw [k1.len, zm5, List.length_map]; exact h1.len
  obtain ⟨e1, e2⟩ := List.append_inj e hl
  subst e1 e2
  rw [List.length_map] at k2
  exact ⟨_, vs', rfl, ⟨x, rfl, k1⟩, zy2 d (j + ts.length) h2 k2⟩
theorem ze2 {σ : St} {g : Gh} {w : World} {n0 : Nat -> Prop} {N : Nat} {a : Act} (hR : Rel n0 N σ g a w) {B : Sr -> List Nat} (hB : Fam w σ g B) {K : List Sr -> Prop} : ∀ {xs : List V} {ds : List (Bool × D)} {u : List Sr} {ps : List (Nat × Nat × Nat)} {vs : List Value}, gvA σ K u ps xs ds -> VRl σ g w xs vs →
  ∃ s, K (s.reverse ++ u) /\ (∃ tp, zar w (zb0 σ g w) ds vs (bks B s) tp) /\ (∀ x ∈ s, σ.On x.1) /\ (u.Pairwise okP -> (s.reverse ++ u).Pairwise okP)
 | [], [], u, ps, vs, h, hv => ⟨[], h, ⟨[], hv, rfl, rfl⟩, by simp, fun h => h⟩
 | [], _ :: _, _, _, _, h, _ => h.elim
 | x :: xs, [], _, _, _, h, _ => by cases x <;> exact h.elim
 | x :: xs, (false, d) :: ds, u, ps, vs, h, hv => by
  obtain ⟨v, vs', rfl, h1, h2⟩ := hv
  unfold gvA at h
  obtain ⟨hr, h⟩ := h
  obtain ⟨s, k1, ⟨tp, k2⟩, k3, k4⟩ := ze2 hR hB h h2
  exact ⟨s, k1, ⟨tp, v, vs', rfl, qff hr h1, k2⟩, k3, k4⟩
 | .one c :: xs, (true, .one t) :: ds, u, ps, vs, h, hv => by
  obtain ⟨v, vs', rfl, h1, h2⟩ := hv
  unfold gvA at h
  obtain ⟨s, ps', tp, k1, k2, k3, k4⟩ := zb8 hR hB h (vs := [v]) ⟨v, [], rfl, h1, rfl⟩
  obtain ⟨s', j1, ⟨tp', j2⟩, j3, j4⟩ := ze2 hR hB k1 h2
  obtain ⟨v0, vs0, f1, f2, t2, e0, e1, rfl, q1, q2⟩ := k2
  cases e0
  obtain ⟨_, rfl, rfl⟩ := q2
  rw [List.append_nil] at e1
  refine ⟨s ++ s', by simpa using j1, ⟨zgx t f1 ++ tp', v, vs', bks B s, bks B s', _, tp', rfl, by unfold bks; rw [List.flatMap_append], rfl, ⟨by rw [e1]; exact q1, by rw [e1]⟩, j2⟩, fun x hx => ?_, fun hu => by simpa using j4 (k4 hu)⟩
  rcases List.mem_append.1 hx with hx | hx
  ·exact k3 x hx
  ·exact j3 x hx
 | .agg cs :: xs, (true, .agg ts) :: ds, u, ps, vs, h, hv => by
  obtain ⟨v, vs', rfl, ⟨y, rfl, h1⟩, h2⟩ := hv
  unfold gvA at h
  obtain ⟨s, ps', tp, k1, k2, k3, k4⟩ := zb8 hR hB h h1
  obtain ⟨s', j1, ⟨tp', j2⟩, j3, j4⟩ := ze2 hR hB k1 h2
  refine ⟨s ++ s', by simpa using j1, ⟨tp ++ tp', _, vs', bks B s, bks B s', tp, tp', rfl, by unfold bks; rw [List.flatMap_append], rfl, ⟨y, rfl, k2⟩, j2⟩, fun x hx => ?_, fun hu => by simpa using j4 (k4 hu)⟩
  rcases List.mem_append.1 hx with hx | hx
  ·exact k3 x hx
  ·exact j3 x hx
 | .one _ :: _, (true, .agg _) :: _, _, _, _, h, _ => h.elim
 | .agg _ :: _, (true, .one _) :: _, _, _, _, h, _ => h.elim
 | .tup _ :: _, (true, d) :: _, _, _, _, h, _ => by cases d <;> exact h.elim
attribute [go_sem] zbv mC1 mC mE mF mD zqw qd0
end Go.Proofs.YtmhbmpbgpjljeaaGreat
namespace Go.Proofs.YtmhbmpbgpjljeaaGreat
set_option linter.unusedSimpArgs false
set_option linter.unusedVariables false
set_option linter.unusedSectionVars false
set_option maxRecDepth 4000
open Go.RowKit
variable {P : Program}
def C.fz (e : Nat) (x : Ev) : C -> C
 | .ow e' g => if e' = e then (if g = x.gen then .rn (.sl x.sz x.rows) else .any) else .ow e' g
 | .eo e' g sz i o => if e' = e then .any else .eo e' g sz i o
 | .vw e' g sz o => if e' = e then .any else .vw e' g sz o
 | c => c
def fzS (f : Nat -> V) (e : Nat) (x : Ev) : Nat -> V := fun i => (f i).map (C.fz e x)
def fzB (f : Nat -> Option (List C)) (e : Nat) (x : Ev) : Nat -> Option (List C) := fun b => (f b).map fun cs => cs.map (C.fz e x)
def fzE (f : Nat -> Option Ev) (e : Nat) : Nat -> Option Ev := fun k => if k = e then none else f k
theorem fzS_at (f : Nat -> V) (e : Nat) (x : Ev) (i : Nat) : fzS f e x i = (f i).map (C.fz e x) := rfl
theorem zso (f : Nat -> Option (List C)) (e : Nat) (x : Ev) (b : Nat) : fzB f e x b = (f b).map fun cs => cs.map (C.fz e x) := rfl
theorem fzE_at (f : Nat -> Option Ev) (e k : Nat) : fzE f e k = if k = e then none else f k := rfl
def St.fz (σ : St) (e : Nat) (x : Ev) : St := ⟨fzS σ.sl e x, fzB σ.bx e x, fzE σ.ev e⟩
theorem fz_wk {σ : St} {e : Nat} {x : Ev} (hx : σ.ev e = some x) (hd : x.deep = true) (ho : x.on = true) : Wk σ (σ.fz e x) := by
 intro n0 N g a w h
 have hev : ∀ e', e' ≠ e -> (σ.fz e x).ev e' = σ.ev e' := fun e' he => by show (if e' = e then none else σ.ev e') = _; rw [if_neg he]
 have hee : (σ.fz e x).ev e = none := by show (if e = e then none else σ.ev e) = _; rw [if_pos rfl]
 have hsome : ∀ e' z, (σ.fz e x).ev e' = some z -> e' ≠ e /\ σ.ev e' = some z := fun e' z hz => by
  by_cases he : e' = e
  ·subst he; rw [hee] at hz; cases hz
  ·exact ⟨he, by rw [<- hev e' he]; exact hz⟩
 have hon : ∀ e', (σ.fz e x).On e' -> e' ≠ e /\ σ.On e' := fun e' ⟨z, hz, h1⟩ => ⟨(hsome e' z hz).1, z, (hsome e' z hz).2, h1⟩
 have hbx : ∀ b, (σ.fz e x).bx b ≠ none ↔ σ.bx b ≠ none := fun b => by unfold St.fz; simp [zso]
 have hOn : σ.On e := ⟨x, hx, ho⟩
 have hf : ∀ b, Fix σ g w b -> Fix (σ.fz e x) g w b := fun b hf => ⟨fun k hk => hf.1 k ((hbx k).1 hk), fun e' z hz h1 => hf.2.1 e' z (hsome e' z hz).2 h1, hf.2.2⟩
 have hfr : ∀ b, zb0 σ g w b -> zb0 (σ.fz e x) g w b := fun b hb => ⟨hf b hb.1, fun e' h' => hb.2 e' (hon e' h').2⟩
 have hgone : ∀ b ∈ g.φ e, b < w.heap.size -> zb0 (σ.fz e x) g w b := fun b hb hl => by
  have hne : ∀ e', (σ.fz e x).On e' -> b ∉ g.φ e' := fun e' he' hm => h.apart e e' hOn (hon e' he').2 (Ne.symm (hon e' he').1) b hb hm
  exact ⟨⟨fun j hj hjb => h.ebx e j hOn ((hbx j).1 hj) (by rw [hjb]; exact hb), fun e' z hz h1 hh => hne e' ⟨z, hz, h1⟩ (List.mem_of_mem_head? hh), hl, (h.ebase e hOn b hb).1⟩, hne⟩
 have hhas : ∀ e' n, e' ≠ e -> σ.has e' n -> (σ.fz e x).has e' n := fun e' n he ⟨z, hz, h1⟩ => ⟨z, by rw [hev e' he]; exact hz, h1⟩
 have cr : ∀ c v, CR σ g w c v -> CR (σ.fz e x) g w (c.fz e x) v := fun c v hc => by
  cases c with
  | t y => exact zai.keep (fun _ _ => rfl) hf y v hc
  | nl s => exact hc
  | ow e' n =>
   show CR _ _ _ (if e' = e then (if n = x.gen then .rn (.sl x.sz x.rows) else .any) else .ow e' n) v
   by_cases he : e' = e
   ·subst he
    rw [if_pos rfl]
    by_cases hn : n = x.gen
    ·rw [if_pos hn]
     subst hn
     obtain ⟨ao, cap, e1, e2, e3, e4⟩ := h.evs _ x hx ho
     rw [<- hc.1] at e1
     show zai _ _ _ _
     unfold zai
     refine ⟨ao, cap, e1, e2, e3, ?_⟩
     rcases e4 with ⟨_, _, e4, _⟩ | ⟨b, cells, ty, fps, k1, k2, k3, k4, k5⟩
     ·exact Or.inl e4
     ·rw [if_pos hd] at k5
      have hl : ∀ b' ∈ fps, b' < w.heap.size := zah.lt cells 0 x.sz x.rows fps k5
      exact Or.inr ⟨b, 0, k1, hgone b (by rw [k2]; simp) (Array.getElem?_eq_some_iff.1 k3).1, zah.rep b cells ty k3 0 x.sz x.rows fps k5 fun b' hb' => hgone b' (by rw [k2]; simp [hb']) (hl b' hb')⟩
    ·rw [if_neg hn]; trivial
   ·rw [if_neg he]; exact ⟨hc.1, hhas e' n he hc.2⟩
  | bx b o => exact ⟨hc.1, (hbx b).2 hc.2⟩
  | el cs o => obtain ⟨b, q, h1, h2, h3⟩ := hc; exact ⟨b, q, h1, hf b h2, za4.keep (fun _ _ => rfl) hf b rfl q cs h3⟩
  | eo e' s sz i o =>
   show CR _ _ _ (if e' = e then .any else .eo e' s sz i o) v
   by_cases he : e' = e
   ·rw [if_pos he]; trivial
   ·rw [if_neg he]; obtain ⟨b, n, c, h1, h2, h3, h4⟩ := hc; exact ⟨b, n, c, h1, h2, h3, hhas e' s he h4⟩
  | vw e' s sz o =>
   show CR _ _ _ (if e' = e then .any else .vw e' s sz o) v
   by_cases he : e' = e
   ·rw [if_pos he]; trivial
   ·rw [if_neg he]; obtain ⟨b, n, c, h1, h2, h3, h4⟩ := hc; exact ⟨b, n, c, h1, h2, h3, hhas e' s he h4⟩
  | fn f caps => exact ⟨hc.1, fun b hb => (hbx b).2 (hc.2 b hb)⟩
  | cv u => exact hc
  | any => trivial
  | rn y => exact zai.keep (fun _ _ => rfl) hfr y v hc
  | er cs o => obtain ⟨b, q, h1, h2, h3⟩ := hc; exact ⟨b, q, h1, hfr b h2, za4.keep (fun _ _ => rfl) hfr b rfl q cs h3⟩
 refine ⟨g, ⟨h.defers, h.size, h.anew, fun i => VR.map cr (h.slots i), fun b cs hb => ?_, fun b hb => h.base b ((hbx b).1 hb), fun b b' h1 h2 => h.inj b b' ((hbx b).1 h1) ((hbx b').1 h2), fun e' z hz h1 => ?_, fun e' z hz h1 => ?_, h.slc, fun e' h1 => h.ebase e' (hon e' h1).2, fun e' h1 => h.etop e' (hon e' h1).2, fun e' h1 => h.nodup e' (hon e' h1).2, fun e1 e2 h1 h2 => h.apart e1 e2 (hon e1 h1).2 (hon e2 h2).2, fun e' k h1 h2 => h.ebx e' k (hon e' h1).2 ((hbx k).1 h2)⟩, rfl, rfl⟩
 ·cases hc : σ.bx b with
  | none => unfold St.fz at hb; simp only [zso, hc, Option.map_none] at hb; cases hb
  | some cs0 =>
   unfold St.fz at hb
   simp only [zso, hc, Option.map_some, Option.some.injEq] at hb
   subst hb
   obtain ⟨vs, ty, k1, k2⟩ := h.boxes b cs0 hc
   exact ⟨vs, ty, k1, CRs.map cr k2⟩
 ·obtain ⟨ao, cap, e1, e2, e3, e4⟩ := h.evs e' z (hsome e' z hz).2 h1
  refine ⟨ao, cap, e1, e2, e3, ?_⟩
  rcases e4 with e4 | ⟨b, cells, ty, fps, k1, k2, k3, k4, k5⟩
  ·exact Or.inl e4
  ·refine Or.inr ⟨b, cells, ty, fps, k1, k2, k3, k4, ?_⟩
   split at k5
   ·rw [if_pos ‹_›]; exact k5
   ·rw [if_neg ‹_›]; exact ⟨k5.1, zaj.keep (fun _ _ => rfl) hf b rfl 0 z.sz z.rows k5.2⟩
 ·exact ⟨zai.keep (fun _ _ => rfl) hf _ _ (h.offs e' z (hsome e' z hz).2 h1).1, (h.offs e' z (hsome e' z hz).2 h1).2⟩
theorem zbu.pre {o : Oper} {σ σ' : St} {K : St -> Prop} (h : Wk σ σ') (k : zbu P o σ' K) : zbu P o σ K := fun n0 N g a w hR hn hd => by
 obtain ⟨g1, h1, h2, h3⟩ := h n0 N g a w hR
 have := k n0 N g1 a w h1 hn hd
 unfold Oper.wp at this ⊢
 revert this
 cases (execOp a.eval o).run P w <;> intro this <;> try exact this
 all_goals (revert this; rw [h2, h3]; exact id)
theorem zc1.pre {id : Nat} {ops : Array Oper} {σ σ' : St} {K : St -> Prop} (h : Wk σ σ') (k : zc1 P id ops σ' K) : zc1 P id ops σ K := fun n0 N g a w hR hn hd => by
 obtain ⟨g1, h1, h2, h3⟩ := h n0 N g a w hR
 have := k n0 N g1 a w h1 hn hd
 rw [h2, h3] at this
 exact this
section
variable {ks : List Fr} {Q : Exit -> St -> Prop} {σ : St} {ops : Array Oper} {os : List Oper} {o : Oper}
theorem zlb {σ' : St} (h : Wk σ σ') (hg : o.guard = none) (hs : zv1 o.op = true) (k : exo P ops (o :: os) ks Q σ') : exo P ops (o :: os) ks Q σ := by
 unfold exo zbc exG at k ⊢
 rw [hg] at k ⊢
 simp only at k ⊢
 unfold zbs zm1 at k ⊢
 rw [if_pos (by rw [hs]; rfl)] at k ⊢
 exact k.pre h
theorem frzO (e : Nat) (hg : o.guard = none) (hs : zv1 o.op = true) (k : zan (σ.ev e) fun x => x.deep = true /\ x.on = true /\ exo P ops (o :: os) ks Q (σ.fz e x)) : exo P ops (o :: os) ks Q σ := by
 obtain ⟨x, hx, h1, h2, h3⟩ := zal k
 exact zlb (fz_wk hx h1 h2) hg hs h3
end
attribute [go_sem] C.fz St.fz V.map fzS_at zso fzE_at
end Go.Proofs.YtmhbmpbgpjljeaaGreat
namespace Go.Proofs.YtmhbmpbgpjljeaaGreat
theorem ag_3 : zmb Tryz.prog 3 = some false := by kernel_rfl
theorem sz_3 : zba Tryz.prog 3 = some 1 := by kernel_rfl
theorem in_3 : zw4 Tryz.prog 3 = some .i64 := by kernel_rfl
theorem ze_3 : zcq Tryz.prog 3 = some [.t (.int .i64 0)] := by kernel_rfl
theorem ag_4 : zmb Tryz.prog 4 = some false := by kernel_rfl
theorem sz_4 : zba Tryz.prog 4 = some 1 := by kernel_rfl
theorem bo_4 : zv9 Tryz.prog 4 = true := by kernel_rfl
theorem sz_5 : zba Tryz.prog 5 = some 1 := by kernel_rfl
theorem in_5 : zw4 Tryz.prog 5 = some .u8 := by kernel_rfl
theorem ze_5 : zcq Tryz.prog 5 = some [.t (.int .u8 0)] := by kernel_rfl
theorem ag_9 : zmb Tryz.prog 9 = some false := by kernel_rfl
theorem sz_9 : zba Tryz.prog 9 = some 1 := by kernel_rfl
theorem in_9 : zw4 Tryz.prog 9 = none := by kernel_rfl
theorem st_9 : qbd Tryz.prog 9 = true := by kernel_rfl
theorem ze_9 : zcq Tryz.prog 9 = some [.t (.str [])] := by kernel_rfl
theorem el_22 : elT Tryz.prog 22 = some 41 := by kernel_rfl
theorem nl_24 : nlT Tryz.prog 24 = 1 := by kernel_rfl
theorem el_24 : elT Tryz.prog 24 = some 47 := by kernel_rfl
theorem qbt : zc0 Tryz.prog 47 = some 24 := by kernel_rfl
theorem nl_31 : nlT Tryz.prog 31 = 2 := by kernel_rfl
theorem ag_31 : zmb Tryz.prog 31 = some false := by kernel_rfl
theorem sz_31 : zba Tryz.prog 31 = some 1 := by kernel_rfl
theorem el_31 : elT Tryz.prog 31 = some 74 := by kernel_rfl
theorem zrw : zc0 Tryz.prog 74 = some 40 := by kernel_rfl
theorem ze_31 : zcq Tryz.prog 31 = some [.nl 2] := by kernel_rfl
theorem ag_39 : zmb Tryz.prog 39 = some false := by kernel_rfl
theorem sz_39 : zba Tryz.prog 39 = some 1 := by kernel_rfl
theorem el_39 : elT Tryz.prog 39 = some 141 := by kernel_rfl
theorem ag_41 : zmb Tryz.prog 41 = some true := by kernel_rfl
theorem sz_41 : zba Tryz.prog 41 = some 1 := by kernel_rfl
theorem qhs : zix Tryz.prog 41 0 = some (0, 39) := by kernel_rfl
theorem nl_45 : nlT Tryz.prog 45 = 3 := by kernel_rfl
theorem ag_45 : zmb Tryz.prog 45 = some false := by kernel_rfl
theorem sz_45 : zba Tryz.prog 45 = some 1 := by kernel_rfl
theorem el_45 : elT Tryz.prog 45 = some 95 := by kernel_rfl
theorem qb0 : zc0 Tryz.prog 95 = some 48 := by kernel_rfl
theorem ag_47 : zmb Tryz.prog 47 = some true := by kernel_rfl
theorem sz_47 : zba Tryz.prog 47 = some 1 := by kernel_rfl
theorem ze_47 : zcq Tryz.prog 47 = some [.nl 3] := by kernel_rfl
theorem qgo : zix Tryz.prog 47 0 = some (0, 45) := by kernel_rfl
theorem el_52 : elT Tryz.prog 52 = some 3 := by kernel_rfl
theorem nl_63 : nlT Tryz.prog 63 = 4 := by kernel_rfl
theorem ag_63 : zmb Tryz.prog 63 = some false := by kernel_rfl
theorem sz_63 : zba Tryz.prog 63 = some 1 := by kernel_rfl
theorem el_63 : elT Tryz.prog 63 = some 69 := by kernel_rfl
theorem ztr : zc0 Tryz.prog 69 = some 56 := by kernel_rfl
theorem ag_69 : zmb Tryz.prog 69 = some true := by kernel_rfl
theorem sz_69 : zba Tryz.prog 69 = some 4 := by kernel_rfl
theorem ze_69 : zcq Tryz.prog 69 = some [.t (.str []), .t (.int .i64 0), .t (.bool false), .nl 1] := by kernel_rfl
theorem pl_69 : qhd Tryz.prog 69 = some [(0, 1), (1, 1), (2, 1), (3, 1)] := by kernel_rfl
theorem qgx : zix Tryz.prog 69 0 = some (0, 9) := by kernel_rfl
theorem qh1 : zix Tryz.prog 69 1 = some (1, 3) := by kernel_rfl
theorem qgu : zix Tryz.prog 69 2 = some (2, 4) := by kernel_rfl
theorem nl_70 : nlT Tryz.prog 70 = 1 := by kernel_rfl
theorem el_70 : elT Tryz.prog 70 = some 31 := by kernel_rfl
theorem zt2 : zc0 Tryz.prog 31 = some 24 := by kernel_rfl
theorem ag_74 : zmb Tryz.prog 74 = some true := by kernel_rfl
theorem sz_74 : zba Tryz.prog 74 = some 2 := by kernel_rfl
theorem ze_74 : zcq Tryz.prog 74 = some [.t (.str []), .nl 2] := by kernel_rfl
theorem pl_74 : qhd Tryz.prog 74 = some [(0, 1), (1, 1)] := by kernel_rfl
theorem qhq : zix Tryz.prog 74 0 = some (0, 9) := by kernel_rfl
theorem qhe : zix Tryz.prog 74 1 = some (1, 31) := by kernel_rfl
theorem ag_95 : zmb Tryz.prog 95 = some true := by kernel_rfl
theorem sz_95 : zba Tryz.prog 95 = some 3 := by kernel_rfl
theorem ze_95 : zcq Tryz.prog 95 = some [.t (.bool false), .t (.str []), .nl 2] := by kernel_rfl
theorem qgs : zix Tryz.prog 95 0 = some (0, 4) := by kernel_rfl
theorem qgi : zix Tryz.prog 95 1 = some (1, 74) := by kernel_rfl
theorem ze_123 : zcq Tryz.prog 123 = some [.nl 4, .t (.bool false)] := by kernel_rfl
theorem pl_123 : qhd Tryz.prog 123 = some [(0, 1), (1, 1)] := by kernel_rfl
theorem qem : zix Tryz.prog 123 0 = some (0, 63) := by kernel_rfl
theorem qb4 : zix Tryz.prog 123 1 = some (1, 4) := by kernel_rfl
theorem ag_128 : zmb Tryz.prog 128 = some false := by kernel_rfl
theorem el_131 : elT Tryz.prog 131 = some 5 := by kernel_rfl
theorem us_131 : u8S Tryz.prog 131 = true := by kernel_rfl
theorem in_131 : zw4 Tryz.prog 131 = none := by kernel_rfl
theorem ag_137 : zmb Tryz.prog 137 = some false := by kernel_rfl
theorem sz_137 : zba Tryz.prog 137 = some 1 := by kernel_rfl
theorem el_137 : elT Tryz.prog 137 = some 139 := by kernel_rfl
theorem ag_139 : zmb Tryz.prog 139 = some true := by kernel_rfl
theorem sz_139 : zba Tryz.prog 139 = some 2 := by kernel_rfl
theorem qeg : zix Tryz.prog 139 0 = some (0, 9) := by kernel_rfl
theorem qca : zix Tryz.prog 139 1 = some (1, 137) := by kernel_rfl
theorem ag_141 : zmb Tryz.prog 141 = some true := by kernel_rfl
theorem sz_141 : zba Tryz.prog 141 = some 3 := by kernel_rfl
theorem qby : zix Tryz.prog 141 0 = some (0, 4) := by kernel_rfl
theorem qe8 : zix Tryz.prog 141 1 = some (1, 139) := by kernel_rfl
theorem nl_142 : nlT Tryz.prog 142 = 1 := by kernel_rfl
theorem el_142 : elT Tryz.prog 142 = some 9 := by kernel_rfl
theorem in_185 : zw4 Tryz.prog 185 = some .u64 := by kernel_rfl
theorem ap_31 : apT Tryz.prog 31 2 := zyt el_31 sz_74 zrw (by decide) ze_74 rfl
theorem ap_63 : apT Tryz.prog 63 4 := zyt el_63 sz_69 ztr (by decide) ze_69 rfl
theorem ap_70 : apT Tryz.prog 70 1 := zyt el_70 sz_31 zt2 (by decide) ze_31 rfl
attribute [go_sem] ag_3 sz_3 in_3 ze_3 ag_4 sz_4 bo_4 sz_5 in_5 ze_5 ag_9 sz_9 in_9 st_9 ze_9 el_22 nl_24 el_24 qbt nl_31 ag_31 sz_31 el_31 zrw ze_31 ag_39 sz_39 el_39 ag_41 sz_41 qhs nl_45 ag_45 sz_45 el_45 qb0 ag_47 sz_47 ze_47 qgo el_52 nl_63 ag_63 sz_63 el_63 ztr ag_69 sz_69 ze_69 pl_69 qgx qh1 qgu nl_70 el_70 zt2 ag_74 sz_74 ze_74 pl_74 qhq qhe ag_95 sz_95 ze_95 qgs qgi ze_123 pl_123 qem qb4 ag_128 el_131 us_131 in_131 ag_137 sz_137 el_137 ag_139 sz_139 qeg qca ag_141 sz_141 qby qe8 nl_142 el_142 in_185 ap_31 ap_63 ap_70
attribute [go_sem] Nat.reduceEqDiff reduceIte reduceCtorEq Nat.reduceAdd Nat.reduceMul Int.reduceLE Int.reduceNeg Int.reduceToNat Nat.reduceLeDiff Nat.reduceSub Nat.reduceLT Nat.le_refl Int.cast_ofNat_Int Int.reduceLT Int.reduceGT Int.reduceGE Int.reduceEq Int.reduceBEq Nat.reduceBEq Int.reduceBNe Int.reduceAdd Int.reduceSub gt_iff_lt ge_iff_le
end Go.Proofs.YtmhbmpbgpjljeaaGreat
namespace Go.Proofs.YtmhbmpbgpjljeaaGreat
set_option linter.unusedSimpArgs false
set_option linter.unusedVariables false
set_option linter.unusedSectionVars false
set_option maxRecDepth 4000
open Go.RowKit
abbrev Str := List UInt8
inductive Tm where
 | mk (name : Str) (args : List Tm)
def Tm.name : Tm -> Str | .mk n _ => n
def Tm.args : Tm -> List Tm | .mk _ xs => xs
theorem Tm.eta : ∀ a : Tm, Tm.mk a.name a.args = a | .mk _ _ => rfl
mutual
theorem zbi {P : Tm -> Prop} (h : ∀ n xs, (∀ x ∈ xs, P x) -> P (.mk n xs)) : ∀ a, P a
 | .mk n xs => h n xs (zx7 h xs)
theorem zx7 {P : Tm -> Prop} (h : ∀ n xs, (∀ x ∈ xs, P x) -> P (.mk n xs)) : ∀ xs : List Tm, ∀ x ∈ xs, P x
 | [], x, hx => absurd hx (by simp)
 | a :: xs, x, hx => (List.mem_cons.1 hx).elim (fun e => e ▸ zbi h a) (zx7 h xs x)
end
mutual
def Tm.fold {α : Type} (f : Str -> List Tm -> List α -> α) : Tm -> α
 | .mk n xs => f n xs (Tm.folds f xs)
def Tm.folds {α : Type} (f : Str -> List Tm -> List α -> α) : List Tm -> List α
 | [] => []
 | a :: xs => Tm.fold f a :: Tm.folds f xs
end
theorem Tm.folds_map {α : Type} (f : Str -> List Tm -> List α -> α) (xs : List Tm) : Tm.folds f xs = xs.map (Tm.fold f) := by
 induction xs with
 | nil => rfl
 | cons a xs ih => rw [Tm.folds, ih]; rfl
theorem Tm.fold_eq {α : Type} (f : Str -> List Tm -> List α -> α) (a : Tm) : Tm.fold f a = f a.name a.args (a.args.map (Tm.fold f)) := by
 cases a; rw [Tm.fold, Tm.folds_map]; rfl
inductive Fm where
 | mk (op : Int) (atom : Tm) (var : Str) (parts : List Fm)
def Fm.op : Fm -> Int | .mk o _ _ _ => o
def Fm.atom : Fm -> Tm | .mk _ a _ _ => a
mutual
def Fm.fold {α : Type} (f : Int -> Tm -> Str -> List Fm -> List α -> α) : Fm -> α
 | .mk o a v ps => f o a v ps (Fm.folds f ps)
def Fm.folds {α : Type} (f : Int -> Tm -> Str -> List Fm -> List α -> α) : List Fm -> List α
 | [] => []
 | a :: xs => Fm.fold f a :: Fm.folds f xs
end
def tmC : Tm -> List T := Tm.fold fun n _ rs => [.str n, .sl 2 rs]
theorem zab (a : Tm) : tmC a = [.str a.name, .sl 2 (a.args.map tmC)] := Tm.fold_eq _ a
theorem znu (n : Str) (xs : List Tm) : tmC (.mk n xs) = [.str n, .sl 2 (xs.map tmC)] := zab _
abbrev tmD (a : Tm) : D := .agg (tmC a)
abbrev tmS (xs : List Tm) : T := .sl 2 (xs.map tmC)
abbrev iD (n : Int) : D := .one (.int .i64 n)
abbrev bD (b : Bool) : D := .one (.bool b)
abbrev sD (s : Str) : D := .one (.str s)
theorem zad {α : Type} (f : α -> List T) (xs : List α) (k : Nat) (h : k < xs.length) : (xs.map f).getD k [] = f (xs[k]'h) := by simp [List.getD, h]
def Tm.wt : Tm -> Nat := Tm.fold fun n xs rs => n.length + xs.length + rs.sum
theorem Tm.wt_eq (a : Tm) : a.wt = a.name.length + a.args.length + (a.args.map Tm.wt).sum := Tm.fold_eq _ a
def zms (xs : List Tm) : Nat := xs.length + (xs.map Tm.wt).sum
def szR (w : Nat) (left : Int) : Int := if (w : Int) <= left then left - w else -1
def zh6 {α : Type} (f : α -> Nat) (xs : List α) (k : Nat) : Nat := ((xs.take k).map f).sum
theorem zdj {α : Type} (f : α -> Nat) (xs : List α) : zh6 f xs 0 = 0 := by simp [zh6]
theorem zbm {α : Type} (f : α -> Nat) (xs : List α) (k : Nat) (h : k < xs.length) : zh6 f xs (k + 1) = zh6 f xs k + f xs[k] := by
 unfold zh6
 rw [List.take_succ_eq_append_getElem h, List.map_append, List.sum_append]; simp
theorem zb7 {α : Type} (f : α -> Nat) (xs : List α) (k : Nat) : zh6 f xs k <= (xs.map f).sum := by
 unfold zh6
 conv => rhs; rw [<- List.take_append_drop k xs, List.map_append, List.sum_append]
 omega
theorem zlh {α : Type} (f : α -> Nat) (xs : List α) (k : Nat) (h : xs.length <= k) : zh6 f xs k = (xs.map f).sum := by
 unfold zh6
 rw [List.take_of_length_le h]
theorem zcr {α : Type} (f : α -> Nat) (xs : List α) : ∀ x ∈ xs, f x <= (xs.map f).sum := by
 induction xs with
 | nil => simp
 | cons a xs ih =>
  intro x hx
  rcases List.mem_cons.1 hx with rfl | hx
  ·simp
  ·have := ih x hx; simp; omega
noncomputable def same {α : Type} (a b : α) : Bool := @decide (a = b) (Classical.propDecidable _)
theorem zbw {α : Type} {a b : α} : same a b = true ↔ a = b := by simp [same]
theorem zd2 {α : Type} {a b : α} : same a b = false ↔ a ≠ b := by simp [same]
theorem zbg {α : Type} (a : α) : same a a = true := by simp [same]
theorem zc4 {α : Type} (a b : α) (xs ys : List α) : same (a :: xs) (b :: ys) = (same a b && same xs ys) := by
 rw [Bool.eq_iff_iff, Bool.and_eq_true, zbw, zbw, zbw, List.cons.injEq]
theorem zie {α : Type} : same ([] : List α) [] = true := zbg _
theorem zam {k : Nat} (h : k < 9223372036854775807) : IntKind.i64.wrap ((k : Int) + 1) = ((k + 1 : Nat) : Int) := qad h
theorem zg1 {w : Nat} {l : Int} (h0 : 0 <= l) (h : szR w l < 0) : l < w := by unfold szR at h; split at h <;> omega
theorem zfk {w : Nat} {l : Int} (h : ¬ szR w l < 0) : (w : Int) <= l /\ szR w l = l - w := by
 by_cases hh : (w : Int) <= l
 ·exact ⟨hh, if_pos hh⟩
 ·exact absurd (by rw [szR, if_neg hh]; omega) h
theorem zde {w : Nat} {l : Int} (h : l < w) : szR w l = -1 := if_neg (by omega)
theorem zk2 {w : Nat} {l : Int} (h : (w : Int) <= l) : szR w l = l - w := if_pos h
theorem ztf {k : IntKind} {a b : Int} (h : a = b) : T.int k a = T.int k b := h ▸ rfl
theorem zf2 (A : List (List T)) (n k : Nat) (z ts : List T) (hA : A.length = k) (hk : k < n) (hz : ts.length = z.length) : zc5 (A ++ List.replicate (n - k) z) k 0 ts = A ++ [ts] ++ List.replicate (n - (k + 1)) z := by
 subst hA
 have e : List.replicate (n - A.length) z = z :: List.replicate (n - (A.length + 1)) z := by
  rw [show n - A.length = (n - (A.length + 1)) + 1 by omega]; rfl
 unfold zc5
 rw [e]
 simp [zw1 _ _ hz]
end Go.Proofs.YtmhbmpbgpjljeaaGreat
namespace Go.Proofs.YtmhbmpbgpjljeaaGreat
set_option linter.unusedSimpArgs false
set_option linter.unusedVariables false
set_option linter.unusedSectionVars false
set_option maxRecDepth 4000
open Go.RowKit
theorem zcm.cons {P : Program} {t : TypeId} {ts : List TypeId} {xs : List PD} (h : zcm P (t :: ts) xs) : ∃ x xs', xs = x :: xs' /\ za7 P t x /\ zcm P ts xs' := by
 cases xs with
 | nil => rw [zcm] at h; cases h
 | cons x xs =>
  rw [zcm] at h
  obtain ⟨t', ts', e, h1, h2⟩ := h
  cases e
  exact ⟨x, xs, rfl, h1, h2⟩
theorem zcm.nil {P : Program} {xs : List PD} (h : zcm P [] xs) : xs = [] := by
 cases xs with
 | nil => rfl
 | cons x xs =>
  rw [zcm] at h
  obtain ⟨t', ts', e, _⟩ := h
  cases e
theorem qa0 {Q : PD -> Prop} (h : ∀ d, (∀ d', SizeOf.sizeOf d' < SizeOf.sizeOf d -> Q d') -> Q d) (d : PD) : Q d := by
 have : ∀ n (d : PD), SizeOf.sizeOf d < n -> Q d := by
  intro n
  induction n with
  | zero => intro d hd; omega
  | succ n ih => intro d hd; exact h d fun d' hd' => ih d' (by omega)
 exact this _ d (Nat.lt_succ_self _)
theorem zex {α : Type} (c : α -> List T) : ∀ (xs : List PD), (∀ x ∈ xs, ∃ a, x.cells = c a) -> ∃ l : List α, PD.rows xs = l.map c
 | [], _ => ⟨[], rfl⟩
 | x :: xs, h => by
  obtain ⟨a, ha⟩ := h x (by simp)
  obtain ⟨l, hl⟩ := zex c xs fun y hy => h y (by simp [hy])
  exact ⟨a :: l, by rw [PD.rows, ha, hl]; rfl⟩
theorem qiq : ∀ d, za7 Tryz.prog 139 d -> ∃ a : Tm, d.cells = tmC a :=
 qa0 fun d ih h => by
  obtain ⟨fs, rfl, hf⟩ := h.st Tryz.underlying139
  have hf : zcm Tryz.prog [9, 137] fs := hf
  obtain ⟨x1, r1, rfl, h1, hf⟩ := hf.cons
  obtain ⟨x2, r2, rfl, h2, hf⟩ := hf.cons
  obtain rfl := hf.nil
  obtain ⟨n, rfl⟩ := h1.str Tryz.underlying9
  obtain ⟨xs, rfl, hx⟩ := h2.sl Tryz.underlying137
  obtain ⟨l, hl⟩ := zex tmC xs fun x hx' => ih x (by have := List.sizeOf_lt_of_mem hx'; simp; omega) (hx x hx')
  exact ⟨.mk n l, by
   rw [zab, PD.cells, PD.flat, PD.flat, PD.flat, PD.cells, PD.cells, hl, show Tryz.prog.cellsOf 139 = 2 from by kernel_rfl]; rfl⟩
end Go.Proofs.YtmhbmpbgpjljeaaGreat
namespace Go.Proofs.YtmhbmpbgpjljeaaGreat
set_option linter.unusedSimpArgs false
set_option linter.unusedVariables false
set_option linter.unusedSectionVars false
set_option maxRecDepth 4000
open Go.RowKit
structure Li where
 pos : Bool
 atom : Tm
structure Cq where
 lits : List Li
def liC (a : Li) : List T := [.bool a.pos, .str a.atom.name, .sl 2 (a.atom.args.map tmC)]
theorem zap (a : Li) : liC a = [.bool a.pos, .str a.atom.name, .sl 2 (a.atom.args.map tmC)] := rfl
def cqC (a : Cq) : List T := [.sl 3 (a.lits.map liC)]
theorem za9 (a : Cq) : cqC a = [.sl 3 (a.lits.map liC)] := rfl
abbrev liD (a : Li) : D := .agg (liC a)
abbrev cqD (a : Cq) : D := .agg (cqC a)
abbrev liS (xs : List Li) : T := .sl 3 (xs.map liC)
abbrev cqS (xs : List Cq) : T := .sl 1 (xs.map cqC)
def Li.wt (a : Li) : Nat := a.atom.wt
theorem Li.wt_eq (a : Li) : a.wt = a.atom.wt := rfl
def zm2 (xs : List Li) : Nat := xs.length + (xs.map Li.wt).sum
def Cq.wt (a : Cq) : Nat := zm2 a.lits
theorem Cq.wt_eq (a : Cq) : a.wt = zm2 a.lits := rfl
def znb (xs : List Cq) : Nat := xs.length + (xs.map Cq.wt).sum
end Go.Proofs.YtmhbmpbgpjljeaaGreat
namespace Go.Proofs.YtmhbmpbgpjljeaaGreat
set_option linter.unusedSimpArgs false
set_option linter.unusedVariables false
set_option linter.unusedSectionVars false
set_option maxRecDepth 4000
open Go.RowKit
abbrev cqsD (l : List Cq) : D := .one (cqS l)
theorem zvd {d : PD} (h : za7 Tryz.prog 141 d) : ∃ s : Li, d.cells = liC s := by
 obtain ⟨fs, rfl, hf⟩ := h.st Tryz.underlying141
 have hf : zcm Tryz.prog [4, 139] fs := hf
 obtain ⟨x1, r1, rfl, h1, hf⟩ := hf.cons
 obtain ⟨x2, r2, rfl, h2, hf⟩ := hf.cons
 obtain rfl := hf.nil
 obtain ⟨b, rfl⟩ := h1.bool Tryz.underlying4
 obtain ⟨t, ht⟩ := qiq _ h2
 exact ⟨⟨b, t⟩, by
  rw [zap, PD.cells, PD.flat, PD.flat, PD.flat, PD.cells, ht, zab]; rfl⟩
theorem zxt {d : PD} (h : za7 Tryz.prog 41 d) : ∃ s : Cq, d.cells = cqC s := by
 obtain ⟨fs, rfl, hf⟩ := h.st Tryz.underlying41
 have hf : zcm Tryz.prog [39] fs := hf
 obtain ⟨x1, r1, rfl, h1, hf⟩ := hf.cons
 obtain rfl := hf.nil
 obtain ⟨xs, rfl, hx⟩ := h1.sl Tryz.underlying39
 obtain ⟨l, hl⟩ := zex liC xs fun x hx' => zvd (hx x hx')
 exact ⟨⟨l⟩, by
  rw [za9, PD.cells, PD.flat, PD.flat, PD.cells, hl, show Tryz.prog.cellsOf 141 = 3 from by kernel_rfl]; rfl⟩
theorem zur {d : PD} (h : za7 Tryz.prog 22 d) : ∃ l : List Cq, d.cells = [cqS l] := by
 obtain ⟨xs, rfl, hx⟩ := h.sl Tryz.underlying22
 obtain ⟨l, hl⟩ := zex cqC xs fun x hx' => zxt (hx x hx')
 exact ⟨l, by rw [PD.cells, hl, show Tryz.prog.cellsOf 41 = 1 from by kernel_rfl]⟩
end Go.Proofs.YtmhbmpbgpjljeaaGreat
