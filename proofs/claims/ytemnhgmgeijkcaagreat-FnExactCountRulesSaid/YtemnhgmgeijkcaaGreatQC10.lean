/-
  The walk over plain data, and contracts of functions of the program and of its laws.
  Conditions: those that each theorem names.
-/
import Derived.Test.YtemnhgmgeijkcaaGreatQC9
namespace Go.Proofs.YtemnhgmgeijkcaaGreat
set_option linter.unusedSimpArgs false
set_option linter.unusedVariables false
set_option linter.unusedSectionVars false
set_option maxRecDepth 4000
open Go.RowKit
variable {P : Program}
theorem zw9 {o : Oper} {σ : St} {x : Operand} {asx : Array Operand} {ts : Array TypeId} {f : FuncId} {cvs : List V} {pre : List D} {d : D} {post : List D} {d' : D} {res : List D} {p1 : List V} {gv : V} {p2 : List V} (ho : o.op = .call ⟨.value x, asx, ts⟩)
  (h : IC P f pre d post d' res) (hc : za0 (σ.get P 0 x) = some (f, cvs)) (hx : σ.gets P asx ts ++ cvs = p1 ++ gv :: p2) (h1 : zlz σ p1 pre) (h2 : zo8 p2 post) (hg : inG σ gv d d') (hr : res.all D.fl = true)
  (hS : Shal σ (zyw gv d')) : zak P o σ ((σ.inp (zyw gv d')).put o.dst (zlw (res.map D.toV))) := by
 intro n0 N g a w hR hn hdN
 obtain ⟨vs, e1, e2⟩ := zdd hR ho hc h.1
 unfold Oper.wp
 rw [e1]
 rw [hx] at e2
 obtain ⟨us1, vs2, rfl, v1, v2⟩ := e2.split
 obtain ⟨v, us2, rfl, v3, v4⟩ := v2
 have hgiven : ∃ (U : List (Nat × List (List T))) (fp tp : List Nat), zyw gv d' = U /\ U.Pairwise (fun p q => p.1 ≠ q.1) /\ (∀ p ∈ U, ∃ sz rows gn, σ.ev p.1 = some ⟨true, sz, rows, gn, true⟩) /\ GD w d v fp tp /\ fp.Nodup /\ (∀ b ∈ fp, ∃ p ∈ U, b ∈ g.φ p.1) /\ (∀ p ∈ U, ∀ b ∈ g.φ p.1, b ∈ fp) ∧
   ∀ {w' : World} {fp' tp' : List Nat}, GD w' d' v fp' tp' -> fp'.Nodup -> ∃ φ' : Nat -> List Nat, (∀ e, (∀ p ∈ U, p.1 ≠ e) -> φ' e = g.φ e) /\ (∀ p ∈ U, ∃ sz rows gn, σ.ev p.1 = some ⟨true, sz, rows, gn, true⟩ /\ za7 w' (.sl sz p.2) (g.ψ p.1 gn) (φ' p.1) /\ (φ' p.1).Nodup /\ ∀ b ∈ φ' p.1, b ∈ fp') ∧
    ∀ p ∈ U, ∀ q ∈ U, p.1 ≠ q.1 -> ∀ b ∈ φ' p.1, b ∉ φ' q.1 := by
  unfold inG at hg
  split at hg
  ·rename_i c t t'
   obtain ⟨k1, k2, ⟨fp, tp, k3, k4, k5, k6⟩, k7⟩ := zea hR hg (vs := [v]) ⟨v, [], rfl, v3, rfl⟩
   obtain ⟨v0, vs0, f1, f2, t2, e, rfl, rfl, q1, q2⟩ := k3
   cases e
   obtain ⟨_, rfl, rfl⟩ := q2
   refine ⟨_, f1 ++ [], zju t f1 ++ [], rfl, k1, fun p hp => (k2 p hp).2, by simpa using ⟨q1, rfl⟩, k4, k5, k6, fun hg' hn' => k7 (fp' := _) (tp' := _) ⟨v, [], _, [], [], rfl, by simp, rfl, hg'.1, rfl, rfl, rfl⟩ hn'⟩
  ·rename_i cs ts ts'
   obtain ⟨u, rfl, v3⟩ := v3
   obtain ⟨k1, k2, ⟨fp, tp, k3, k4, k5, k6⟩, k7⟩ := zea hR hg v3
   refine ⟨_, fp, tp, rfl, k1, fun p hp => (k2 p hp).2, ⟨u, rfl, k3⟩, k4, k5, k6, fun hg' hn' => ?_⟩
   obtain ⟨u', e, hg'⟩ := hg'
   cases e
   exact k7 hg' hn'
  ·exact hg.elim
 obtain ⟨U, fp, tp, hUe, u1, u2, u3, u4, u5, u6, u7⟩ := hgiven
 rw [hUe] at hS ⊢
 have hhead : ∀ p ∈ U, ∀ b ∈ g.φ p.1, (g.φ p.1).head? = some b := fun p hp b hb => by
  obtain ⟨sz, rows, gn, e⟩ := u2 p hp
  have hf := hS p hp
  rw [e] at hf
  obtain ⟨ao, cap, r1, r2, r3, r4⟩ := hR.evs p.1 _ e rfl
  rcases r4 with ⟨_, _, _, r4⟩ | ⟨b0, cells, ty, fps, r4, r5, r6, r7, r8⟩
  ·rw [r4] at hb; cases hb
  ·rw [if_pos rfl] at r8
   have := zam.flat hf r8
   rw [r5, this] at hb ⊢
   rw [List.mem_singleton.1 hb]; rfl
 have hnot : ∀ b, Fix σ g w b -> b ∉ fp := fun b hf hm => by
  obtain ⟨p, hp, hm⟩ := u5 b hm
  obtain ⟨sz, rows, gn, e⟩ := u2 p hp
  exact hf.2.1 p.1 _ e rfl (hhead p hp b hm)
 have hpre : zbm w (fun b => b < w.heap.size /\ b ∉ fp) pre us1 := (zlz.rep h1 v1).keep (fun _ _ => rfl) fun b hb => ⟨hb.2.2.1, hnot b hb⟩
 refine (h.2 w us1 v us2 fp tp hpre u3 (zh9 _ h2 v4) u4).mono ?_
 rintro e w' ⟨us, fp', tp', rfl, q1, q2, q3, q4⟩
 obtain ⟨v0, us0, f1, f2, t1, t2, e0, rfl, rfl, q5, q6⟩ := q1
 cases e0
 obtain ⟨n1, n2, n3⟩ := List.nodup_append.1 q2
 obtain ⟨φ', j1, j2, j3⟩ := u7 q5 n1
 have hsub : ∀ b ∈ f1, b ∈ fp \/ w.heap.size <= b := fun b hb => q3 b (List.mem_append_left _ hb)
 have hOU : ∀ p ∈ U, σ.On p.1 := fun p hp => by obtain ⟨sz, rows, gn, e⟩ := u2 p hp; exact ⟨_, e, rfl⟩
 have hBk : Bk n0 w w' := ⟨q4.os, q4.tape, q4.output, q4.size, fun k hk => q4.block k ⟨hn k hk, fun hm => by
  obtain ⟨p, hp, hm⟩ := u5 k hm
  exact hR.etop p.1 (hOU p hp) k hm hk⟩⟩
 have hR' : Rel n0 N (σ.inp U) { g with φ := φ' } a w' := by
  have hb' : ∀ p ∈ U, ∀ b ∈ φ' p.1, b ∈ fp \/ w.heap.size <= b := fun p hp b hb => by
   obtain ⟨_, _, _, _, _, _, q⟩ := j2 p hp
   exact hsub b (q b hb)
  have m : Mv σ (σ.inp U) g { g with φ := φ' } w w' := by
   refine ⟨fun b hf => q4.block b ⟨hf.2.2.1, hnot b hf⟩, fun b hf => ⟨hf.1, fun e x hx hon hh => ?_, Nat.lt_of_lt_of_le hf.2.2.1 q4.size, hf.2.2.2⟩, fun b hb => ⟨rfl, hb⟩, fun e n he => ⟨zhb he, rfl⟩, fun b hb => (zmd hR u5 hOU q4 hb' j1 b hb).2.2⟩
   have hh : (φ' e).head? = some b := hh
   by_cases hU : ∃ p ∈ U, p.1 = e
   ·obtain ⟨p, hp, rfl⟩ := hU
    rcases hb' p hp b (List.mem_of_mem_head? hh) with h3 | h3
    ·exact hnot b hf h3
    ·have := hf.2.2.1; omega
   ·have hne : ∀ p ∈ U, p.1 ≠ e := fun p hp he => hU ⟨p, hp, he⟩
    rw [j1 e hne] at hh
    refine hf.2.1 e x ?_ hon hh
    rw [<- hx]
    exact (zgu fun hm => by
     obtain ⟨p, hp, he⟩ := List.mem_map.1 hm
     exact hne p hp he).symm
  exact hR.inp hn u1 u6 u5 q4 hsub j1 j2 j3 (fun i v h => m.vr h) (fun b cs vs _ h => m.crs h) (fun e x _ _ _ v fpx hE hs => m.evr hE hs) (fun e x _ _ v h => m.rep h)
 refine ⟨{ g with φ := φ' }, ?_, hBk, rfl, rfl⟩
 exact hR'.put o.dst (zeb (zbm.vrl (zkl hr q6)) (fun y hy => by
  obtain ⟨d, _, rfl⟩ := List.mem_map.1 hy
  cases d <;> rfl)) hdN
section
variable {ks : List Fr} {Q : Exit -> St -> Prop} {σ : St} {ops : Array Oper} {os : List Oper} {dst : Option Nat} {ty : TypeId} {ps : String} {af : Array Edge} {x : Operand} {asx : Array Operand} {ts : Array TypeId} {f : FuncId} {pre : List D} {d : D} {post : List D} {d' : D} {res : List D}
theorem zxa (hview : ∀ gv, (gv = (((σ.gets P asx ts ++ ((za0 (σ.get P 0 x)).map (·.2)).getD []).drop pre.length).headD (.one .any))) -> Shal σ (zyw gv d')) (h : IC P f pre d post d' res)
  (hp : zax (za0 (σ.get P 0 x)) fun p => p.1 = f /\ spI (σ.gets P asx ts ++ p.2) pre.length fun p1 gv p2 => zlz σ p1 pre /\ zo8 p2 post /\ inG σ gv d d') (hr : res.all D.fl = true) :
  zak P ⟨dst, .call ⟨.value x, asx, ts⟩, ty, ps, af, none⟩ σ (σ.cI P x asx ts pre.length dst d' res) := by
 obtain ⟨⟨f', cvs⟩, h1, rfl, h2⟩ := zap hp
 obtain ⟨p1, gv, p2, e, _, ⟨k1, k2, k3⟩, e2⟩ := qim h2
 unfold St.cI
 have e3 : ((σ.gets P asx ts ++ ((za0 (σ.get P 0 x)).map (·.2)).getD []).drop pre.length).headD (.one .any) = gv := by rw [h1]; exact e2.symm
 rw [e3]
 exact zw9 (o := ⟨dst, .call ⟨.value x, asx, ts⟩, ty, ps, af, none⟩) rfl h h1 e k1 k2 k3 hr (hview gv e3.symm)
theorem zvh (h : IC P f pre d post d' res)
  (hp : zax (za0 (σ.get P 0 x)) fun p => p.1 = f /\ spI (σ.gets P asx ts ++ p.2) pre.length fun p1 gv p2 => zlz σ p1 pre /\ zo8 p2 post /\ inG σ gv d d')
  (hs : qbp σ (zyw (((σ.gets P asx ts ++ ((za0 (σ.get P 0 x)).map (·.2)).getD []).drop pre.length).headD (.one .any)) d')) (hr : res.all D.fl = true)
  (k : exo P ops os ks Q (σ.cI P x asx ts pre.length dst d' res)) : exo P ops (⟨dst, .call ⟨.value x, asx, ts⟩, ty, ps, af, none⟩ :: os) ks Q σ :=
 zc0 rfl rfl (zxa (fun gv e => e ▸ zir hs) h hp hr) k
end
end Go.Proofs.YtemnhgmgeijkcaaGreat
namespace Go.Proofs.YtemnhgmgeijkcaaGreat
set_option linter.unusedSimpArgs false
set_option linter.unusedVariables false
set_option linter.unusedSectionVars false
set_option maxRecDepth 4000
open Go.RowKit
def zr7 (xs : List Int) (r : Int) : List Int := xs.set r.toNat (xs.getD r.toNat 0 + 1)
def zrs : Dv -> List Int -> List Int := Dv.fold fun r _ _ _ _ _ rs xs => rs.foldl (fun ys g => g ys) (zr7 xs r)
theorem zog (d : Dv) (xs : List Int) : zrs d xs = (d.parts.map zrs).foldl (fun ys g => g ys) (zr7 xs d.rule) := congrFun (Dv.fold_eq _ d) xs
def qjb : Dv -> Prop := Dv.fold fun r _ _ _ _ _ rs => (1 <= r /\ r <= 15) /\ ∀ p ∈ rs, p
theorem zon (d : Dv) : qjb d = ((1 <= d.rule /\ d.rule <= 15) /\ ∀ p ∈ d.parts.map qjb, p) := Dv.fold_eq _ d
theorem zkf (xs : List Int) (r : Int) : (zr7 xs r).length = xs.length := by unfold zr7; rw [List.length_set]
theorem zj1 : ∀ (d : Dv) (xs : List Int), (zrs d xs).length = xs.length := zdn fun r s m t c ps ih xs => by
 rw [zog]
 show ((ps.map zrs).foldl (fun ys g => g ys) (zr7 xs r)).length = _
 have key : ∀ (qs : List Dv) (ys : List Int), (∀ q ∈ qs, q ∈ ps) -> ((qs.map zrs).foldl (fun ys g => g ys) ys).length = ys.length := fun qs => by
  induction qs with
  | nil => intro ys _; rfl
  | cons q qs ih2 =>
   intro ys hq
   rw [List.map_cons, List.foldl_cons, ih2 _ fun x hx => hq x (by simp [hx]), ih q (hq q (by simp))]
 rw [key ps _ fun q hq => hq, zkf]
theorem qeb : ∀ (d : Dv) (xs : List Int) (B : Nat), qjb d -> (∀ x ∈ xs, 0 <= x /\ x <= B) -> xs.length = 16 -> ∀ x ∈ zrs d xs, 0 <= x /\ x <= B + d.nodes := zdn fun r s m t c ps ih xs B ho hx hl => by
 rw [zog, Dv.nodes_eq]
 rw [zon] at ho
 obtain ⟨hr, hps⟩ := ho
 show ∀ x ∈ (ps.map zrs).foldl (fun ys g => g ys) (zr7 xs r), 0 <= x /\ x <= (B : Int) + ((1 + (ps.map Dv.nodes).sum : Nat) : Int)
 have hb : ∀ x ∈ zr7 xs r, 0 <= x /\ x <= ((B + 1 : Nat) : Int) := fun x hx2 => by
  unfold zr7 at hx2
  rcases List.mem_or_eq_of_mem_set hx2 with h | rfl
  ·have := hx x h; omega
  ·have hr2 : 1 <= r /\ r <= 15 := hr
   have h3 : r.toNat < xs.length := by omega
   rw [zcs h3]
   have := hx _ (List.getElem_mem h3); omega
 have key : ∀ (qs : List Dv) (ys : List Int) (B : Nat), (∀ q ∈ qs, q ∈ ps) -> (∀ x ∈ ys, 0 <= x /\ x <= (B : Int)) -> ys.length = 16 -> ∀ x ∈ (qs.map zrs).foldl (fun ys g => g ys) ys, 0 <= x /\ x <= (B : Int) + (((qs.map Dv.nodes).sum : Nat) : Int) := fun qs => by
  induction qs with
  | nil => intro ys B _ hy _ x hx; have := hy x hx; simp only [List.map_nil, List.sum_nil]; omega
  | cons q qs ih2 =>
   intro ys B hq hy hl x hx
   rw [List.map_cons, List.foldl_cons] at hx
   have h1 := ih q (hq q (by simp)) ys B (hps _ (List.mem_map.2 ⟨q, hq q (by simp), rfl⟩)) hy hl
   have h2 := ih2 (zrs q ys) (B + q.nodes) (fun x hx => hq x (by simp [hx])) (fun x hx => by have := h1 x hx; omega) (by rw [zj1]; exact hl) x hx
   rw [List.map_cons, List.sum_cons]; omega
 intro x hx3
 have := key ps _ (B + 1) (fun q hq => hq) hb (by rw [zkf]; exact hl) x hx3
 omega
theorem qbs (xs : List Int) (i : Nat) (v : Int) (hi : i < xs.length) : zeo (xs.map fun s => [T.int .i64 s]) i 0 [.int .i64 v] = (xs.set i v).map fun s => [T.int .i64 s] := by
 unfold zeo setR
 rw [List.getD_eq_getElem?_getD, List.getElem?_map, List.getElem?_eq_getElem hi]
 simp [List.map_set]
theorem zkx : ∀ xs : List Dv, xs.length <= (xs.map Dv.nodes).sum
 | [] => Nat.le_refl _
 | x :: xs => by
  have h1 := zkx xs
  have h2 := x.nodes_eq
  rw [List.length_cons, List.map_cons, List.sum_cons]; omega
def rsK (a : Dv) (xs : List Int) (k : Nat) : List Int := ((a.parts.take k).map zrs).foldl (fun ys g => g ys) (zr7 xs a.rule)
theorem zgo (a : Dv) (xs : List Int) {k : Nat} (h : k < a.parts.length) : rsK a xs (k + 1) = zrs a.parts[k] (rsK a xs k) := by
 unfold rsK
 rw [List.take_succ_eq_append_getElem h, List.map_append, List.foldl_append]; rfl
abbrev cntP (f : FuncId) (x : Dv) : Prop := ∀ (xs : List Int) (B : Nat), xs.length = 16 -> (∀ y ∈ xs, 0 <= y /\ y <= B) -> B + x.nodes <= 1000000 -> qjb x -> IC Tryz.prog f [dvD x] (.one (zf0 xs)) [] (.one (zf0 (zrs x xs))) []
set_option maxHeartbeats 2000000 in
theorem zoc (a : Dv) (H : ∀ x ∈ a.parts, cntP 99 x) : cntP 99 a := by
 intro xs B hl hb hB ho
 have hn := a.nodes_eq
 have hpl := zkx a.parts
 have hw := zon a ▸ ho
 obtain ⟨hr, hps⟩ := hw
 obtain ⟨q, hq, hq16⟩ : ∃ q : Nat, a.rule = q /\ q < xs.length := ⟨a.rule.toNat, by omega, by omega⟩
 have hxq := hb _ (List.getElem_mem hq16)
 have hwr : IntKind.i64.wrap (xs[q] + 1) = xs[q] + 1 := zbk (by omega) (by omega)
 have hst := qbs xs q (xs[q] + 1) hq16
 have hbm : zr7 xs a.rule = xs.set q (xs[q] + 1) := by unfold zr7; rw [hq, Int.toNat_natCast, zcs hq16]
 have hfin : zrs a xs = rsK a xs a.parts.length := by rw [zog]; unfold rsK; rw [List.take_length]
 rw [hfin]
 simp only [dvD, zav a]
 refine zxh Tryz.call99 Tryz.func99 rfl (by kernel_rfl) (by simp only [zcx, rd, List.map_cons, List.map_nil, List.cons_append, List.nil_append, List.length_cons, List.length_nil, Tryz.ntmps99]; omega) (by simp only [Tryz.ntmps99]; omega) (by simp [zcx, rd, zb6, T.isPin]) trivial ?_
 simp -implicitDefEqProofs only [go_sem, Tryz.results99, zh5, zcx, PI, hq, hq16, zaf, List.length_map]
 refine zdv (by simp -implicitDefEqProofs only [go_sem, hwr]; simp) ?_
 simp -implicitDefEqProofs only [go_sem, hwr, hst]
 rw [<- hbm]
 have hrs0 : zr7 xs a.rule = rsK a xs 0 := rfl
 rw [hrs0]
 refine zad (fun k : Nat => hd [(1, .one (.ow 32 0)), (1000000, .one (.ow 32 0)), (14, vT (dvS a.parts)), (15, vI a.parts.length), (16, vI k)] [] [(32, ⟨true, 1, (rsK a xs k).map fun s => [.int .i64 s], 0, true⟩)]) (fun k => k <= a.parts.length /\ (rsK a xs k).length = 16 /\ ∀ y ∈ rsK a xs k, 0 <= y /\ y <= ((B + 1 + zjz Dv.nodes a.parts k : Nat) : Int)) (fun k => a.parts.length - k) 0 (zac ?_) ⟨Nat.zero_le _, ?_, ?_⟩ ?_
 ·simp -implicitDefEqProofs only [go_sem]
 ·rw [<- hrs0, zkf]; exact hl
 ·rw [<- hrs0, hbm]
  intro y hy
  rw [zdx]
  rcases List.mem_or_eq_of_mem_set hy with h | rfl
  ·have := hb y h; omega
  ·omega
 ·rintro k ⟨hk, hlk, hbk⟩
  by_cases hlt : k < a.parts.length
  ·have hps1 := zgh Dv.nodes a.parts k hlt
   have hps2 := zls Dv.nodes a.parts (k + 1)
   have hok : qjb a.parts[k] := hps _ (List.mem_map.2 ⟨_, List.getElem_mem hlt, rfl⟩)
   have HC := H a.parts[k] (List.getElem_mem hlt) (rsK a xs k) (B + 1 + zjz Dv.nodes a.parts k) hlk hbk (by omega) hok
   rw [<- zgo a xs hlt] at HC
   have hbd := qeb a.parts[k] (rsK a xs k) (B + 1 + zjz Dv.nodes a.parts k) hok hbk hlk
   rw [<- zgo a xs hlt] at hbd
   have hln : (rsK a xs (k + 1)).length = 16 := by rw [zgo a xs hlt, zj1]; exact hlk
   simp only [dvD, zav a.parts[k]] at HC
   simp -implicitDefEqProofs only [go_sem, hlt, zaf, zav a.parts[k]]
   refine zvh HC (by simp -implicitDefEqProofs only [go_sem]) (by simp -implicitDefEqProofs only [go_sem, zgj]) rfl ?_
   simp -implicitDefEqProofs only [go_sem]
   refine ⟨k + 1, ⟨hlt, hln, fun y hy => ?_⟩, by omega, zac ?_⟩
   ·have := hbd y hy; rw [hps1]; omega
   ·simp -implicitDefEqProofs only [go_sem]
    rw [zas (by omega)]
  ·have hkn : k = a.parts.length := by omega
   subst hkn
   simp -implicitDefEqProofs only [go_sem, hlt]
theorem zqa : ∀ a : Dv, cntP 99 a := zdn fun b0 b1 b2 b3 b4 xs ih => zoc (.mk b0 b1 b2 b3 b4 xs) ih
set_option maxHeartbeats 2000000 in
theorem zt2 (a : Dv) (H : ∀ x ∈ a.parts, cntP 98 x) : cntP 98 a := by
 intro xs B hl hb hB ho
 have hn := a.nodes_eq
 have hpl := zkx a.parts
 have hw := zon a ▸ ho
 obtain ⟨hr, hps⟩ := hw
 obtain ⟨q, hq, hq16⟩ : ∃ q : Nat, a.rule = q /\ q < xs.length := ⟨a.rule.toNat, by omega, by omega⟩
 have hxq := hb _ (List.getElem_mem hq16)
 have hwr : IntKind.i64.wrap (xs[q] + 1) = xs[q] + 1 := zbk (by omega) (by omega)
 have hst := qbs xs q (xs[q] + 1) hq16
 have hbm : zr7 xs a.rule = xs.set q (xs[q] + 1) := by unfold zr7; rw [hq, Int.toNat_natCast, zcs hq16]
 have hfin : zrs a xs = rsK a xs a.parts.length := by rw [zog]; unfold rsK; rw [List.take_length]
 rw [hfin]
 simp only [dvD, zav a]
 refine zxh Tryz.call98 Tryz.func98 rfl (by kernel_rfl) (by simp only [zcx, rd, List.map_cons, List.map_nil, List.cons_append, List.nil_append, List.length_cons, List.length_nil, Tryz.ntmps98]; omega) (by simp only [Tryz.ntmps98]; omega) (by simp [zcx, rd, zb6, T.isPin]) trivial ?_
 simp -implicitDefEqProofs only [go_sem, Tryz.results98, zh5, zcx, PI, hq, hq16, zaf, List.length_map]
 refine zdv (by simp -implicitDefEqProofs only [go_sem, hwr]; simp) ?_
 simp -implicitDefEqProofs only [go_sem, hwr, hst]
 rw [<- hbm]
 have hrs0 : zr7 xs a.rule = rsK a xs 0 := rfl
 rw [hrs0]
 refine zad (fun k : Nat => hd [(1, .one (.ow 32 0)), (1000000, .one (.ow 32 0)), (2, .one (.bx 2 0)), (4, vI k)] [(2, [.t (.int .i64 q), .t (fmS a.seq.left), .t (fmS a.seq.right), .t (.int .i64 a.main), .t (.str a.term.name), .t (tmS a.term.args), .t (.int .i64 a.cut.op), .t (.str a.cut.atom.name), .t (tmS a.cut.atom.args), .t (.str a.cut.var), .t (fmS a.cut.parts), .t (dvS a.parts)])] [(32, ⟨true, 1, (rsK a xs k).map fun s => [.int .i64 s], 0, true⟩)]) (fun k => k <= a.parts.length /\ (rsK a xs k).length = 16 /\ ∀ y ∈ rsK a xs k, 0 <= y /\ y <= ((B + 1 + zjz Dv.nodes a.parts k : Nat) : Int)) (fun k => a.parts.length - k) 0 (zac ?_) ⟨Nat.zero_le _, ?_, ?_⟩ ?_
 ·simp -implicitDefEqProofs only [go_sem]
 ·rw [<- hrs0, zkf]; exact hl
 ·rw [<- hrs0, hbm]
  intro y hy
  rw [zdx]
  rcases List.mem_or_eq_of_mem_set hy with h | rfl
  ·have := hb y h; omega
  ·omega
 ·rintro k ⟨hk, hlk, hbk⟩
  by_cases hlt : k < a.parts.length
  ·have hps1 := zgh Dv.nodes a.parts k hlt
   have hps2 := zls Dv.nodes a.parts (k + 1)
   have hok : qjb a.parts[k] := hps _ (List.mem_map.2 ⟨_, List.getElem_mem hlt, rfl⟩)
   have HC := H a.parts[k] (List.getElem_mem hlt) (rsK a xs k) (B + 1 + zjz Dv.nodes a.parts k) hlk hbk (by omega) hok
   rw [<- zgo a xs hlt] at HC
   have hbd := qeb a.parts[k] (rsK a xs k) (B + 1 + zjz Dv.nodes a.parts k) hok hbk hlk
   rw [<- zgo a xs hlt] at hbd
   have hln : (rsK a xs (k + 1)).length = 16 := by rw [zgo a xs hlt, zj1]; exact hlk
   simp only [dvD, zav a.parts[k]] at HC
   simp -implicitDefEqProofs only [go_sem, hlt, zaf, zav a.parts[k]]
   refine zvh HC (by simp -implicitDefEqProofs only [go_sem]) (by simp -implicitDefEqProofs only [go_sem, zgj]) rfl ?_
   simp -implicitDefEqProofs only [go_sem]
   refine ⟨k + 1, ⟨hlt, hln, fun y hy => ?_⟩, by omega, zac ?_⟩
   ·have := hbd y hy; rw [hps1]; omega
   ·simp -implicitDefEqProofs only [go_sem]
    rw [zas (by omega)]
  ·have hkn : k = a.parts.length := by omega
   subst hkn
   simp -implicitDefEqProofs only [go_sem, hlt]
theorem zxc : ∀ a : Dv, cntP 98 a := zdn fun b0 b1 b2 b3 b4 xs ih => zt2 (.mk b0 b1 b2 b3 b4 xs) ih
theorem zsb : ∀ d : Dv, (fwD d).2 = false -> qjb d := zdn fun r s m t c ps ih h => by
 rw [zqz] at h
 split at h
 ·rename_i hr
  rw [zon]
  refine ⟨?_, fun P hP => ?_⟩
  ·show 1 <= r /\ r <= 15
   have hr : zzk s (.mk r s m t c ps) = true := hr
   unfold zzk at hr
   rw [Bool.and_eq_true] at hr
   have h1 := hr.1
   unfold znt at h1
   split at h1
   ·unfold prR at h1
    split at h1
    ·rename_i h2
     rw [Bool.and_eq_true] at h2
     have h3 := h2.1
     unfold adR at h3
     split at h3
     ·rename_i h4
      have h4 : r = 15 := h4
      omega
     ·split at h3
      ·rename_i h4
       simp only [Bool.and_eq_true] at h4
       have h5 := h4.1.1.1
       unfold inB at h5
       rw [Bool.and_eq_true] at h5
       exact ⟨of_decide_eq_true h5.1, of_decide_eq_true h5.2⟩
      ·cases h3
    ·cases h1
   ·cases h1
  ·obtain ⟨p, hp, rfl⟩ := List.mem_map.1 hP
   have hp : p ∈ ps := hp
   refine ih p hp ?_
   have key : ∀ (i : Nat) (rs : List (List Int × Bool)), (fwL i rs).2 = false -> ∀ x ∈ rs, x.2 = false := fun i rs => by
    induction rs generalizing i with
    | nil => intro _ x hx; cases hx
    | cons y ys ih2 =>
     intro h x hx
     unfold fwL at h
     split at h
     ·cases h
     ·rename_i hy
      rcases List.mem_cons.1 hx with rfl | hx
      ·simpa using hy
      ·exact ih2 _ h x hx
   exact key 0 _ h _ (List.mem_map.2 ⟨p, hp, rfl⟩)
 ·cases h
noncomputable def crR (d : Dv) : List Int := if zyu d = true then zrs d (List.replicate 16 0) else []
theorem zvz {d : Dv} (h : zyu d = true) : d.nodes <= 60 /\ qjb d := by
 unfold zyu zxu at h
 split at h
 ·rename_i hn
  simp only [Bool.and_eq_true, Bool.not_eq_true'] at h
  exact ⟨hn, zsb d h.2⟩
 ·simp at h
end Go.Proofs.YtemnhgmgeijkcaaGreat
namespace Go.Proofs.YtemnhgmgeijkcaaGreat
set_option linter.unusedSimpArgs false
set_option linter.unusedVariables false
set_option linter.unusedSectionVars false
set_option maxRecDepth 4000
open Go.RowKit
theorem qk1 (d : Dv) : (crR d).length <= 16 := by
 unfold crR
 split
 ·rw [zj1, List.length_replicate]; exact Nat.le_refl _
 ·simp
set_option maxHeartbeats 1000000 in
theorem qf3 (d : Dv) (hdw : d.wt <= 1048576) : FC Tryz.prog 48 [dvD d] [.one (zf0 (crR d)), bD (zyu d)] := by
 have HV := zhc d hdw
 have hvp := fun h => zvz (d := d) h
 unfold crR
 generalize zyu d = b at HV hvp ⊢
 cases b
 ·rw [if_neg (by simp)]
  simp only [dvD, zav d] at HV ⊢
  show FC _ _ _ [.one (.sl 1 []), _]
  refine zag Tryz.call48 Tryz.func48 rfl (by kernel_rfl) (zau (by kernel_rfl)) ?_
  simp -implicitDefEqProofs only [go_sem, Tryz.results48]
  refine callF (HV) (by simp -implicitDefEqProofs only [go_sem]) ?_
  simp -implicitDefEqProofs only [go_sem]
 ·rw [if_pos rfl]
  obtain ⟨hn, hr⟩ := hvp rfl
  have HC := zqa d (List.replicate 16 0) 0 (by simp) (fun y hy => by rw [List.eq_of_mem_replicate hy]; omega) (by omega) hr
  generalize zrs d (List.replicate 16 0) = R at HC ⊢
  simp only [dvD, zav d, zf0, List.map_replicate] at HV HC ⊢
  refine zag Tryz.call48 Tryz.func48 rfl (by kernel_rfl) (zau (by kernel_rfl)) ?_
  simp -implicitDefEqProofs only [go_sem, Tryz.results48]
  refine callF (HV) (by simp -implicitDefEqProofs only [go_sem]) ?_
  simp -implicitDefEqProofs only [go_sem]
  refine zyg (by simp -implicitDefEqProofs only [go_sem]; omega) ?_
  simp -implicitDefEqProofs only [go_sem]
  refine zvh HC (by simp -implicitDefEqProofs only [go_sem]) (by simp -implicitDefEqProofs only [go_sem, zgj]) rfl ?_
  simp -implicitDefEqProofs only [go_sem]
set_option maxHeartbeats 1000000 in
theorem qge (d : Dv) (hdw : d.wt <= 1048576) : FC Tryz.prog 47 [dvD d] [.one (zf0 (crR d)), bD (zyu d)] := by
 have HV := zwy d hdw
 have hvp := fun h => zvz (d := d) h
 unfold crR
 generalize zyu d = b at HV hvp ⊢
 cases b
 ·rw [if_neg (by simp)]
  simp only [dvD, zav d] at HV ⊢
  show FC _ _ _ [.one (.sl 1 []), _]
  refine zag Tryz.call47 Tryz.func47 rfl (by kernel_rfl) (zau (by kernel_rfl)) ?_
  simp -implicitDefEqProofs only [go_sem, Tryz.results47]
  refine callF (HV) (by simp -implicitDefEqProofs only [go_sem]) ?_
  simp -implicitDefEqProofs only [go_sem]
  refine zal (by simp -implicitDefEqProofs only [go_sem]) ?_
  simp -implicitDefEqProofs only [go_sem]
 ·rw [if_pos rfl]
  obtain ⟨hn, hr⟩ := hvp rfl
  have HC := zxc d (List.replicate 16 0) 0 (by simp) (fun y hy => by rw [List.eq_of_mem_replicate hy]; omega) (by omega) hr
  generalize zrs d (List.replicate 16 0) = R at HC ⊢
  simp only [dvD, zav d, zf0, List.map_replicate] at HV HC ⊢
  refine zag Tryz.call47 Tryz.func47 rfl (by kernel_rfl) (zau (by kernel_rfl)) ?_
  simp -implicitDefEqProofs only [go_sem, Tryz.results47]
  refine callF (HV) (by simp -implicitDefEqProofs only [go_sem]) ?_
  simp -implicitDefEqProofs only [go_sem]
  refine zyg (by simp -implicitDefEqProofs only [go_sem]; omega) ?_
  simp -implicitDefEqProofs only [go_sem]
  refine zvh HC (by simp -implicitDefEqProofs only [go_sem]) (by simp -implicitDefEqProofs only [go_sem, zgj]) rfl ?_
  simp -implicitDefEqProofs only [go_sem]
set_option maxHeartbeats 4000000 in
theorem qmz (d : Dv) : FC Tryz.prog 9 [dvD d] [bD true] := by
 have HZ := zl8 d 1048576 (by omega) (by omega)
 simp only [dvD, zav d] at HZ ⊢
 refine zg1 Tryz.call9 Tryz.func9 rfl (by kernel_rfl) (zau (by kernel_rfl)) ?_
 simp -implicitDefEqProofs only [go_sem, Tryz.results9]
 refine callF (HZ) (by simp -implicitDefEqProofs only [go_sem]) ?_
 simp -implicitDefEqProofs only [go_sem]
 refine ⟨fun h => trivial, fun h => ?_⟩
 have hw : d.wt <= 1048576 := by have := (zdq (by simpa using h)).1; omega
 have HS := qge d hw
 have HI := qf3 d hw
 have HT := zl0 d hw
 have HE := zl7 d d
 have hrl := qk1 d
 generalize zyu d = G at HS HI
 generalize crR d = R at HS HI hrl
 have HF := qg5 R R
 simp only [dvD, zav d] at HS HI HT HE
 refine callF (HT) (by simp -implicitDefEqProofs only [go_sem]) ?_
 simp -implicitDefEqProofs only [go_sem]
 refine callF (HS) (by simp -implicitDefEqProofs only [go_sem]) ?_
 simp -implicitDefEqProofs only [go_sem]
 refine callF (HT) (by simp -implicitDefEqProofs only [go_sem]) ?_
 simp -implicitDefEqProofs only [go_sem]
 refine callF (HI) (by simp -implicitDefEqProofs only [go_sem]) ?_
 simp -implicitDefEqProofs only [go_sem]
 refine callF (HF) (by simp -implicitDefEqProofs only [go_sem, zbe, beq_self_eq_true, Bool.not_true]) ?_
 simp -implicitDefEqProofs only [go_sem, zbe, beq_self_eq_true, Bool.not_true]
 refine drawn (by kernel_rfl) ?_
 simp -implicitDefEqProofs only [go_sem]
 refine zan (HT) (by simp -implicitDefEqProofs only [go_sem]) ?_
 simp -implicitDefEqProofs only [go_sem]
 refine zan (HE) (by simp -implicitDefEqProofs only [go_sem]) ?_
 simp -implicitDefEqProofs only [go_sem]
 refine ⟨by kernel_rfl, fun h => ?_, fun _ => ?_⟩
 ·simp [zbe] at h
 have hcD := zjr d
 have hcR := qb1 R
 have HM1 := zjw d 1 (by omega) (by omega)
 have hm1 := zjy d 1
 have HM2 := zxz R 1 (by omega) (by omega)
 have HL := zw6 R 1 (by omega) (by omega)
 have hmR := (qcj R 1).1
 rw [zg7] at HM1
 generalize (za2 d 1).2 = k3 at HM1 hm1
 generalize (za2 d 1).1.seq.left = f3 at HM1
 generalize (za2 d 1).1.seq.right = f4 at HM1
 generalize (za2 d 1).1.term.args = f5 at HM1
 generalize (za2 d 1).1.cut.atom.args = f6 at HM1
 generalize (za2 d 1).1.cut.parts = f7 at HM1
 generalize (za2 d 1).1.parts = f8 at HM1
 generalize (zhi R 1).2 = k2 at HM2 HL hmR
 generalize (zhi R 1).1 = r1 at HM2 HL
 simp only [zav d] at HM1
 refine zit [1, 4, 5, 6, 7, 8, 46, 47] (HM1) (by simp -implicitDefEqProofs only [go_sem]) (by simp -implicitDefEqProofs only [go_sem]) (by simp -implicitDefEqProofs only [go_sem]) (by simp -implicitDefEqProofs only [go_sem]) (by simp -implicitDefEqProofs only [go_sem]) rfl ?_
 simp -implicitDefEqProofs only [go_sem]
 refine callF (HF) (by simp -implicitDefEqProofs only [go_sem, zbe, beq_self_eq_true, Bool.not_true]) ?_
 simp -implicitDefEqProofs only [go_sem, zbe, beq_self_eq_true, Bool.not_true]
 refine zit [1, 4, 5, 7, 8, 62, 63] (HM2) (by simp -implicitDefEqProofs only [go_sem]) (by simp -implicitDefEqProofs only [go_sem]) (by simp -implicitDefEqProofs only [go_sem]) (by simp -implicitDefEqProofs only [go_sem]) (by simp -implicitDefEqProofs only [go_sem]) rfl ?_
 simp -implicitDefEqProofs only [go_sem]
 refine callF (HL) (by simp -implicitDefEqProofs only [go_sem]) ?_
 simp -implicitDefEqProofs only [go_sem]
 refine ⟨fun h => by simp at h, fun _ => ?_⟩
 refine callF (HT) (by simp -implicitDefEqProofs only [go_sem]) ?_
 simp -implicitDefEqProofs only [go_sem]
 refine callF (HI) (by simp -implicitDefEqProofs only [go_sem]) ?_
 simp -implicitDefEqProofs only [go_sem]
 refine callF (HF) (by simp -implicitDefEqProofs only [go_sem, zbe, beq_self_eq_true, Bool.not_true]) ?_
 simp -implicitDefEqProofs only [go_sem, zbe, beq_self_eq_true, Bool.not_true]
 refine callF (HL) (by simp -implicitDefEqProofs only [go_sem]) ?_
 simp -implicitDefEqProofs only [go_sem]
 refine ⟨fun h => by simp at h, fun _ => trivial⟩
end Go.Proofs.YtemnhgmgeijkcaaGreat
