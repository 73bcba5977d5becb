/-
  The walk over plain data, and contracts of functions of the program and of its laws.
  Conditions: those that each theorem names.
-/
import Derived.Test.YtbccfiillleimaaGreatQ7
import Derived.Test.YtbccfiillleimaaGreatQ6
namespace Go.Proofs.YtbccfiillleimaaGreat
set_option linter.unusedSimpArgs false
set_option linter.unusedVariables false
set_option linter.unusedSectionVars false
set_option maxRecDepth 4000
open Go.RowKit
theorem zcx {a x : Ex} (h : x ∈ a.parts) : x.wt <= a.wt := by
 have := a.wt_eq
 have := za6 Ex.wt a.parts x h
 omega
theorem zsn (a : Ex) : a.form.wt <= a.wt := by have := a.wt_eq; omega
def Ex.nodes : Ex -> Nat := Ex.fold fun _ _ _ rs => 1 + rs.sum
theorem Ex.nodes_eq (a : Ex) : a.nodes = 1 + (a.parts.map Ex.nodes).sum := Ex.fold_eq _ a
theorem zd3 : ∀ a : Ex, a.nodes <= 1 + a.wt := by
 refine zcd fun f t xs ih => ?_
 rw [Ex.nodes_eq, Ex.wt_eq]
 show 1 + (xs.map Ex.nodes).sum <= 1 + (f.wt + zfr t + (xs.length + (xs.map Ex.wt).sum))
 have : (xs.map Ex.nodes).sum <= xs.length + (xs.map Ex.wt).sum := by
  induction xs with
  | nil => simp
  | cons x xs ih2 =>
   have h1 := ih x (by simp)
   have h2 := ih2 fun y hy => ih y (by simp [hy])
   simp only [List.map_cons, List.sum_cons, List.length_cons]
   omega
 omega
def zff : Ex -> Int := Ex.fold fun _ _ _ rs => szL 60 1 rs
theorem zut (a : Ex) : zff a = szL 60 1 (a.parts.map zff) := Ex.fold_eq _ a
theorem zmk : ∀ a : Ex, 1 <= zff a /\ zff a <= a.nodes /\ (zff a <= 60 -> zff a = a.nodes) := by
 refine zcd fun f t xs ih => ?_
 rw [zut, Ex.nodes_eq]
 show 1 <= szL 60 1 (xs.map zff) /\ szL 60 1 (xs.map zff) <= ((1 + (xs.map Ex.nodes).sum : Nat) : Int) /\ _
 obtain ⟨k1, k2, k3⟩ := zjn zff Ex.nodes 60 xs 1 (by omega) ih
 refine ⟨k2, by omega, fun h => ?_⟩
 have := k3 h
 show szL 60 1 (xs.map zff) = _
 rw [this]; show _ = ((1 + (xs.map Ex.nodes).sum : Nat) : Int); omega
theorem qgr (a : Ex) : decide (zff a <= 60) = decide (a.nodes <= 60) := by
 obtain ⟨h1, h2, h3⟩ := zmk a
 rw [decide_eq_decide]
 exact ⟨fun h => by have := h3 h; omega, fun h => by omega⟩
set_option maxHeartbeats 400000 in
theorem zyl (a : Ex) (hs : a.wt <= 1099511627776) (H : ∀ x ∈ a.parts, FC Tryz.prog 145 [exD x] [iD (zff x)]) : FC Tryz.prog 145 [exD a] [iD (zff a)] := by
 have hl : a.parts.length <= 9223372036854775807 := by rw [Ex.wt_eq] at hs; omega
 have hn := zd3 a
 have hN := a.nodes_eq
 simp only [exD, zai]
 refine zaj Tryz.call145 Tryz.func145 rfl (by kernel_rfl) (zav (by kernel_rfl)) ?_
 simp -implicitDefEqProofs only [go_sem, Tryz.results145]
 refine zae (fun p : Nat × Int => hd [(3, vI p.2), (7, vT (exS a.parts)), (8, vI a.parts.length), (9, vI p.1)] [] []) (fun p => p.1 <= a.parts.length /\ zff a = szL 60 p.2 ((a.parts.drop p.1).map zff) /\ 1 <= p.2 /\ p.2 + zw3 Ex.nodes a.parts p.1 <= a.nodes) (fun p => a.parts.length - p.1) (0, 1) (zac ?_) ?_ ?_
 ·simp -implicitDefEqProofs only [go_sem]
 ·exact ⟨by simp, by rw [zut]; rfl, by omega, by rw [zdl]; omega⟩
 ·intro ⟨k, n⟩ ⟨hk, hr, h1, h2⟩
  simp only at hk hr h1 h2
  by_cases hlt : k < a.parts.length
  ·have hd := zf0 Ex.nodes a.parts k hlt
   obtain ⟨s1, s2, s3⟩ := zmk a.parts[k]
   rw [List.drop_eq_getElem_cons hlt, List.map_cons, szL] at hr
   simp -implicitDefEqProofs only [go_sem, zad, hlt, zai]
   refine ⟨fun h => ?_, fun h => ?_⟩
   ·rw [hr, if_pos (by simpa using h)]
   ·refine callF (H a.parts[k] (List.getElem_mem hlt)) (by simp -implicitDefEqProofs only [go_sem, zai]) ?_
    simp -implicitDefEqProofs only [go_sem, zai]
    rw [if_neg (by simpa using h)] at hr
    exact ⟨(k + 1, n + zff a.parts[k]), ⟨hlt, hr, by simp only; omega, by simp only; omega⟩, by simp only; omega, zac (by simp -implicitDefEqProofs only [go_sem]; rw [zap (by omega), zbh (by omega) (by omega)]; exact ⟨rfl, rfl⟩)⟩
  ·simp -implicitDefEqProofs only [go_sem, hlt]
   rw [hr, List.drop_of_length_le (by omega)]; rfl
theorem qct : ∀ a : Ex, a.wt <= 1099511627776 -> FC Tryz.prog 145 [exD a] [iD (zff a)] :=
 zcd fun f t xs ih hs => zyl (.mk f t xs) hs fun x hx => ih x hx (Nat.le_trans (zcx (a := .mk f t xs) hx) hs)
def zeg : Ex -> Int -> Int := Ex.fold fun _ _ _ rs m => mnL m 1 rs
theorem zwa (a : Ex) (m : Int) : zeg a m = mnL m 1 (a.parts.map zeg) := congrFun (Ex.fold_eq _ a) m
theorem zmz : ∀ (a : Ex) (m : Int), 0 <= m -> 1 <= zeg a m /\ zeg a m <= a.nodes /\ (zeg a m <= m -> zeg a m = a.nodes) := by
 refine zcd fun b0 b1 xs ih m hm => ?_
 rw [zwa, Ex.nodes_eq]
 show 1 <= mnL m 1 (xs.map zeg) /\ mnL m 1 (xs.map zeg) <= ((1 + (xs.map Ex.nodes).sum : Nat) : Int) /\ (mnL m 1 (xs.map zeg) <= m -> mnL m 1 (xs.map zeg) = ((1 + (xs.map Ex.nodes).sum : Nat) : Int))
 obtain ⟨k1, k2, k3⟩ := zjo zeg Ex.nodes m xs 1 (by omega) ih
 refine ⟨k2, by omega, fun h => ?_⟩
 have := k3 h
 omega
theorem qgi (a : Ex) (m : Nat) : decide (zeg a m <= m) = decide (a.nodes <= m) := by
 obtain ⟨h1, h2, h3⟩ := zmz a m (by omega)
 rw [decide_eq_decide]
 exact ⟨fun h => by have := h3 h; omega, fun h => by omega⟩
set_option maxHeartbeats 400000 in
theorem zw4 (a : Ex) (hs : a.wt <= 1099511627776) (H : ∀ x ∈ a.parts, ∀ m : Int, 0 <= m -> m <= 1099511627776 -> FC Tryz.prog 136 [exD x, iD m] [iD (zeg x m)]) (m : Int) (h0 : 0 <= m) (h1 : m <= 1099511627776) : FC Tryz.prog 136 [exD a, iD m] [iD (zeg a m)] := by
 have hl : a.parts.length <= 9223372036854775807 := by rw [Ex.wt_eq] at hs; omega
 have hn := zd3 a
 have hN := a.nodes_eq
 simp only [exD, zai]
 refine zaj Tryz.call136 Tryz.func136 rfl (by kernel_rfl) (zav (by kernel_rfl)) ?_
 simp -implicitDefEqProofs only [go_sem, Tryz.results136]
 refine zae (fun p : Nat × Int => hd [(1, vI m), (2, .one (.bx 2 0)), (5, vI p.2), (6, vI p.1)] [(2, [.t (.int .i64 a.form.op), .t (.str a.form.atom.name), .t (tmS a.form.atom.args), .t (.str a.form.var), .t (fmS a.form.parts), .t (tmS a.terms), .t (exS a.parts)])] []) (fun p => p.1 <= a.parts.length /\ zeg a m = mnL m p.2 ((a.parts.drop p.1).map zeg) /\ 1 <= p.2 /\ p.2 + zw3 Ex.nodes a.parts p.1 <= a.nodes) (fun p => a.parts.length - p.1) (0, 1) (zac ?_) ?_ ?_
 ·simp -implicitDefEqProofs only [go_sem]
 ·exact ⟨by simp, by rw [zwa]; rfl, by omega, by rw [zdl]; omega⟩
 ·intro ⟨k, n⟩ ⟨hk, hr, h2, h3⟩
  simp only at hk hr h2 h3
  by_cases hlt : k < a.parts.length
  ·have hd := zf0 Ex.nodes a.parts k hlt
   rw [List.drop_eq_getElem_cons hlt, List.map_cons, mnL] at hr
   simp -implicitDefEqProofs only [go_sem, zad, hlt, zai]
   refine ⟨fun h => ?_, fun h => ?_⟩
   ·have hle : n <= m := by simpa using h
    obtain ⟨s1, s2, s3⟩ := zmz a.parts[k] (m - n) (by omega)
    rw [zbh (n := m - n) (by omega) (by omega)]
    refine callF (H a.parts[k] (List.getElem_mem hlt) (m - n) (by omega) (by omega)) (by simp -implicitDefEqProofs only [go_sem, zai]) ?_
    simp -implicitDefEqProofs only [go_sem, zai]
    rw [if_pos hle] at hr
    exact ⟨(k + 1, n + zeg a.parts[k] (m - n)), ⟨hlt, hr, by simp only; omega, by simp only; omega⟩, by simp only; omega, zac (by simp -implicitDefEqProofs only [go_sem]; rw [zap (by omega), zbh (by omega) (by omega)]; exact ⟨rfl, rfl⟩)⟩
   ·rw [hr, if_neg (by simpa using h)]
  ·simp -implicitDefEqProofs only [go_sem, hlt]
   rw [hr, List.drop_of_length_le (by omega)]; rfl
theorem zzt : ∀ a : Ex, a.wt <= 1099511627776 -> ∀ m : Int, 0 <= m -> m <= 1099511627776 -> FC Tryz.prog 136 [exD a, iD m] [iD (zeg a m)] :=
 zcd fun b0 b1 xs ih hs => zw4 (.mk b0 b1 xs) hs fun x hx => ih x hx (Nat.le_trans (zcx (a := .mk b0 b1 xs) hx) hs)
theorem zih (f : Fm) (i : Int) (b : Bool) : FC Tryz.prog 150 [fmD f, iD i, bD b] [bD (b != (f.op == 4 || (f.op == 7 && i == 0)))] := by
 simp only [fmD, zab]
 refine zaj Tryz.call150 Tryz.func150 rfl (by kernel_rfl) (zav (by kernel_rfl)) ?_
 simp -implicitDefEqProofs only [go_sem, Tryz.results150]
 generalize (f.op == 4) = x
 generalize (f.op == 7) = y
 generalize (i == 0) = z
 cases x <;> cases y <;> cases z <;> cases b <;> simp
theorem zid (f : Fm) (b : Bool) : FC Tryz.prog 153 [fmD f, bD b] [bD ((f.op == 8) == b)] := by
 simp only [fmD, zab]
 refine zaj Tryz.call153 Tryz.func153 rfl (by kernel_rfl) (zav (by kernel_rfl)) ?_
 simp -implicitDefEqProofs only [go_sem, Tryz.results153]
theorem zet (f : Fm) (i : Int) (b : Bool) : FC Tryz.prog 139 [fmD f, iD i, bD b] [bD (b != (f.op == 4 || (f.op == 7 && i == 0)))] := by
 simp only [fmD, zab]
 refine zaj Tryz.call139 Tryz.func139 rfl (by kernel_rfl) (zav (by kernel_rfl)) ?_
 simp -implicitDefEqProofs only [go_sem, Tryz.results139]
 generalize (f.op == 4) = x
 generalize (f.op == 7) = y
 generalize (i == 0) = z
 cases x <;> cases y <;> cases z <;> cases b <;> simp
theorem zd2 (f : Fm) : FC Tryz.prog 141 [fmD f] [bD (isQ f.op)] := by
 simp only [fmD, zab]
 refine zaj Tryz.call141 Tryz.func141 rfl (by kernel_rfl) (zav (by kernel_rfl)) ?_
 simp -implicitDefEqProofs only [go_sem, Tryz.results141]
 unfold isQ
 generalize (f.op == 8) = x
 generalize (f.op == 9) = y
 cases x <;> cases y <;> simp
theorem zfa (f : Fm) (b : Bool) : FC Tryz.prog 142 [fmD f, bD b] [bD (isQ f.op && ((f.op == 8) == b))] := by
 simp only [fmD, zab]
 have h89 : (f.op == 8) = true -> (f.op == 9) = false := fun h => by
  rw [beq_iff_eq] at h
  rw [h]; decide
 refine zaj Tryz.call142 Tryz.func142 rfl (by kernel_rfl) (zav (by kernel_rfl)) ?_
 simp -implicitDefEqProofs only [go_sem, Tryz.results142]
 unfold isQ
 revert h89
 generalize (f.op == 8) = x
 generalize (f.op == 9) = y
 cases x <;> cases y <;> cases b <;> simp
theorem zp7 (a t : Tm) : FC Tryz.prog 207 [tmD a, .one (.ptr (tmC t))] [bD (same a t)] := by
 have H := zfy a t
 simp only [tmD, zaa] at H ⊢
 refine zaj Tryz.call207 Tryz.func207 rfl (by kernel_rfl) (zav (by kernel_rfl)) ?_
 simp -implicitDefEqProofs only [go_sem, Tryz.results207]
 refine callF (H) (by simp -implicitDefEqProofs only [go_sem]) ?_
 simp -implicitDefEqProofs only [go_sem]
theorem zh5 (xs : List Tm) (t : Tm) : FC Tryz.prog 167 [.one (tmS xs), tmD t] [iD (zfd xs fun a => same a t)] := by
 have H := zfv xs (fun a => same a t) 207 [.ptr (tmC t)] fun x _ => zp7 x t
 simp only [tmD, zaa t] at H ⊢
 refine zaj Tryz.call167 Tryz.func167 rfl (by kernel_rfl) (zav (by kernel_rfl)) ?_
 simp -implicitDefEqProofs only [go_sem, Tryz.results167]
 refine callF (H) (by simp -implicitDefEqProofs only [go_sem]) ?_
 simp -implicitDefEqProofs only [go_sem]
theorem zig (xs : List Tm) (t : Tm) : FC Tryz.prog 163 [.one (tmS xs), tmD t] [iD (zfd xs fun a => same a t)] := by
 refine zc1 (fun hw => ?_) Tryz.call163
 have hl : xs.length <= 9223372036854775807 := by simpa [zfq, wfT] using hw.1.1
 simp only [tmD, zaa t]
 refine zaj Tryz.call163 Tryz.func163 rfl (by kernel_rfl) (zav (by kernel_rfl)) ?_
 simp -implicitDefEqProofs only [go_sem, Tryz.results163]
 refine zae (fun k : Nat => hd [(0, vT (tmS xs)), (3, .one (.bx 3 0)), (5, vI k)] [(3, [.t (.str t.name), .t (tmS t.args)])] []) (fun k => k <= xs.length /\ ∀ x ∈ xs.take k, same x t = false) (fun k => xs.length - k) 0 (zac ?_) ⟨Nat.zero_le _, by simp⟩ ?_
 ·simp -implicitDefEqProofs only [go_sem]
 ·rintro k ⟨hk, hT⟩
  by_cases hlt : k < xs.length
  ·have HC := znl xs[k] t
   simp only [tmD, zaa xs[k], zaa t] at HC
   simp -implicitDefEqProofs only [go_sem, hlt]
   refine drawn (by kernel_rfl) ?_
   simp -implicitDefEqProofs only [go_sem, zad, hlt, zaa xs[k]]
   refine zao (HC) (by simp -implicitDefEqProofs only [go_sem]) ?_
   simp -implicitDefEqProofs only [go_sem]
   refine ⟨by kernel_rfl, fun h => ?_, fun h => ?_⟩
   ·rw [zc6 hlt hT h]
   ·refine ⟨k + 1, ⟨hlt, zb8 hlt hT h⟩, by omega, zac ?_⟩
    simp -implicitDefEqProofs only [go_sem]
    rw [zap (by omega)]
  ·simp -implicitDefEqProofs only [go_sem, hlt]
   rw [List.take_of_length_le (by omega)] at hT
   rw [zdz hT]
end Go.Proofs.YtbccfiillleimaaGreat
namespace Go.Proofs.YtbccfiillleimaaGreat
set_option linter.unusedSimpArgs false
set_option linter.unusedVariables false
set_option linter.unusedSectionVars false
set_option maxRecDepth 4000
open Go.RowKit
variable {P : Program}
theorem qlx {w : World} {A : Nat -> Prop} {x : Ev} {v : Value} {fp : List Nat} (h : EvR w A x v fp) (hd : x.deep = true) (hf : flR x.rows = true) : ∀ b ∈ fp, fp.head? = some b := by
 obtain ⟨ao, cap, e1, e2, e3, e4⟩ := h
 rcases e4 with ⟨_, _, _, rfl⟩ | ⟨b', cells, ty, fps, _, rfl, e7, e8, e9⟩
 ·intro b hb; simp at hb
 ·rw [if_pos hd] at e9
  rw [e9.flat hf]
  intro b hb
  simp at hb
  rw [hb]; rfl
def zt0 (g : Gh) (e n : Nat) (v : Value) (fp : List Nat) : Gh := ⟨g.β, fun e' n' => if e' = e /\ n' = n then v else g.ψ e' n', upd g.φ e fp, g.A0, g.R0⟩
theorem Rel.turnB {n0 : Nat -> Prop} {N : Nat} {σ : St} {g : Gh} {a : Act} {w w' : World} {k e : Nat} {x : Ev} {rows' : List (List T)} {v' : Value} {fp' : List Nat} (h : Rel n0 N σ g a w) (hn0 : LtK n0 w) (hk : σ.bx k ≠ none) (hx : σ.ev e = some x) (hxo : x.on = true) (hxd : x.deep = true) (hfl : flR x.rows = true)
  (hb : Bk (fun b => b < w.heap.size /\ b ∉ g.φ e /\ b ≠ g.β k) w w') (ho : zax w' (.sl x.sz rows') v' fp') (hnd : fp'.Nodup) (hfp : ∀ b ∈ fp', b ∈ g.φ e \/ w.heap.size <= b) (hbx : ∃ ty, w'.heap[g.β k]? = some (.cells ⟨[v']⟩ ty (0, 0))) :
  Rel n0 N ⟨σ.sl, upd σ.bx k (some [.ow e (x.gen + 1)]), upd σ.ev e (some ⟨true, x.sz, rows', x.gen + 1, true⟩)⟩ (zt0 g e (x.gen + 1) v' fp') a w' := by
 have hOn : σ.On e := ⟨x, hx, hxo⟩
 have hE := h.evs e x hx hxo
 have hhd := qlx hE hxd hfl
 have hlt : ∀ e', σ.On e' -> ∀ b ∈ g.φ e', b < w.heap.size := fun e' ⟨y, hy, hyo⟩ => (h.evs e' y hy hyo).lt
 have hon : ∀ e', e' ≠ e -> St.On ⟨σ.sl, upd σ.bx k (some [.ow e (x.gen + 1)]), upd σ.ev e (some ⟨true, x.sz, rows', x.gen + 1, true⟩)⟩ e' -> σ.On e' := fun e' hne ⟨y, hy, hyo⟩ => ⟨y, by have hy : upd σ.ev e _ e' = some y := hy; rw [zam _ _ hne] at hy; exact hy, hyo⟩
 have hφn : ∀ e', e' ≠ e -> (zt0 g e (x.gen + 1) v' fp').φ e' = g.φ e' := fun e' hne => zam _ _ hne
 have hφe : (zt0 g e (x.gen + 1) v' fp').φ e = fp' := zah _ _ _
 have hdom : ∀ b, upd σ.bx k (some [C.ow e (x.gen + 1)]) b ≠ none ↔ σ.bx b ≠ none := fun b => by
  by_cases hbk : b = k
  ·subst hbk; rw [zah]; exact ⟨fun _ => hk, fun _ => by simp⟩
  ·rw [zam _ _ hbk]
 have hfixn : ∀ b, Fix σ g w b -> b ∉ g.φ e := fun b hf hm => hf.2.1 e x hx hxo (hhd b hm)
 have hnew : ∀ b, b < w.heap.size -> b ∉ g.φ e -> b ∉ fp' := fun b hl hn hm => by
  rcases hfp b hm with h1 | h1
  ·exact hn h1
  ·omega
 have hψ : ∀ e' n, (e' ≠ e \/ n <= x.gen) -> (zt0 g e (x.gen + 1) v' fp').ψ e' n = g.ψ e' n := fun e' n hh => if_neg fun hc => by
  rcases hh with hh | hh
  ·exact hh hc.1
  ·omega
 have m : Mv σ ⟨σ.sl, upd σ.bx k (some [.ow e (x.gen + 1)]), upd σ.ev e (some ⟨true, x.sz, rows', x.gen + 1, true⟩)⟩ g (zt0 g e (x.gen + 1) v' fp') w w' := by
  refine ⟨fun b hf => hb.block b ⟨hf.2.2.1, hfixn b hf, fun e' => hf.1 k hk e'.symm⟩, fun b hf => ⟨fun j hj => hf.1 j ((hdom j).1 hj), fun e' y hy hyo hh => ?_, Nat.lt_of_lt_of_le hf.2.2.1 hb.size, hf.2.2.2⟩, fun b hbb => ⟨rfl, (hdom b).2 hbb⟩, fun e' n he => ?_, fun b hf e' he hm => ?_⟩
  ·by_cases hee : e' = e
   ·subst hee
    rw [hφe] at hh
    exact hnew b hf.2.2.1 (hfixn b hf) (List.mem_of_mem_head? hh)
   ·rw [hφn e' hee] at hh
    have hy : upd σ.ev e _ e' = some y := hy
    rw [zam _ _ hee] at hy
    exact hf.2.1 e' y hy hyo hh
  ·obtain ⟨y, hy, hg⟩ := he
   by_cases hee : e' = e
   ·subst hee
    rw [hx] at hy
    cases hy
    exact ⟨⟨_, zah _ _ _, Nat.le_succ_of_le hg⟩, hψ _ _ (Or.inr hg)⟩
   ·exact ⟨⟨y, (zam _ _ hee).trans hy, hg⟩, hψ _ _ (Or.inl hee)⟩
  ·by_cases hee : e' = e
   ·subst hee
    rw [hφe] at hm
    exact hnew b hf.1.2.2.1 (hf.2 e' hOn) hm
   ·rw [hφn e' hee] at hm
    exact hf.2 e' (hon e' hee he) hm
 refine ⟨h.defers, h.size, h.anew, fun i => m.vr (h.slots i), fun b cs hbb => ?_, fun b hbb => h.base b ((hdom b).1 hbb), fun b b' h1 h2 h3 => h.inj b b' ((hdom b).1 h1) ((hdom b').1 h2) h3, fun e' y he hyo => ?_, fun e' y he hyo => ?_, fun e' n => ?_, fun e' he b hbb => ?_, fun e' he b hbb => ?_, fun e' he => ?_, fun e1 e2 h1 h2 hne b hb1 hb2 => ?_, fun e' j he hj hm => ?_⟩
 ·have hbb : upd σ.bx k _ b = some cs := hbb
  by_cases hbk : b = k
  ·subst hbk
   rw [zah] at hbb
   cases hbb
   obtain ⟨ty, hbx⟩ := hbx
   exact ⟨_, ty, hbx, v', [], rfl, ⟨(if_pos ⟨rfl, rfl⟩).symm, _, zah _ _ _, Nat.le_refl _⟩, rfl⟩
  ·rw [zam _ _ hbk] at hbb
   obtain ⟨vs, ty, k1, k2⟩ := h.boxes b cs hbb
   have hne0 : σ.bx b ≠ none := by rw [hbb]; simp
   exact ⟨vs, ty, by rw [<- k1]; exact hb.block _ ⟨h.lt hne0, h.ebx e b hOn hne0, fun e' => hbk (h.inj b k hne0 hk e')⟩, m.crs k2⟩
 ·by_cases hee : e' = e
  ·subst hee
   have he : upd σ.ev e' _ e' = some y := he
   rw [zah] at he
   cases he
   rw [hφe]
   show EvR w' _ _ (if e' = e' /\ x.gen + 1 = x.gen + 1 then v' else _) fp'
   rw [if_pos ⟨rfl, rfl⟩]
   unfold zax at ho
   obtain ⟨ao, cap, j1, j2, j3, j4⟩ := ho
   refine ⟨ao, cap, j1, j2, j3, ?_⟩
   rcases j4 with j4 | ⟨b, cells, ty, fps, j4, j5, j6, j7, j8⟩
   ·exact Or.inl j4
   ·exact Or.inr ⟨b, cells, ty, fps, j4, j5, j6, j7, by rw [if_pos rfl]; exact j8⟩
  ·have he : upd σ.ev e _ e' = some y := he
   rw [zam _ _ hee] at he
   rw [hφn e' hee, hψ _ _ (Or.inl hee)]
   refine m.evr (h.evs e' y he hyo) fun b hbb => hb.block b ⟨hlt e' ⟨y, he, hyo⟩ b hbb, fun hm => h.apart e' e ⟨y, he, hyo⟩ hOn hee b hbb hm, fun e'' => h.ebx e' k ⟨y, he, hyo⟩ hk (e'' ▸ hbb)⟩
 ·by_cases hee : e' = e
  ·subst hee
   have he : upd σ.ev e' _ e' = some y := he
   rw [zah] at he
   cases he
   cases hyo
  ·have he : upd σ.ev e _ e' = some y := he
   rw [zam _ _ hee] at he
   rw [hψ _ _ (Or.inl hee)]
   exact ⟨m.rep (h.offs e' y he hyo).1, (h.offs e' y he hyo).2⟩
 ·by_cases hc : e' = e /\ n = x.gen + 1
  ·obtain ⟨rfl, rfl⟩ := hc
   unfold zax at ho
   obtain ⟨ao, cap, j1, _⟩ := ho
   exact ⟨ao, _, cap, by rw [<- j1]; exact if_pos ⟨rfl, rfl⟩⟩
  ·show ∃ ao l c, (if e' = e /\ n = x.gen + 1 then v' else g.ψ e' n) = _
   rw [if_neg hc]
   exact h.slc e' n
 ·by_cases hee : e' = e
  ·subst hee
   rw [hφe] at hbb
   rcases hfp b hbb with h1 | h1
   ·exact h.ebase e' hOn b h1
   ·exact h.anew b (hn0.new h1)
  ·rw [hφn e' hee] at hbb
   exact h.ebase e' (hon e' hee he) b hbb
 ·by_cases hee : e' = e
  ·subst hee
   rw [hφe] at hbb
   rcases hfp b hbb with h1 | h1
   ·exact h.etop e' hOn b h1
   ·exact hn0.new h1
  ·rw [hφn e' hee] at hbb
   exact h.etop e' (hon e' hee he) b hbb
 ·by_cases hee : e' = e
  ·subst hee; rw [hφe]; exact hnd
  ·rw [hφn e' hee]; exact h.nodup e' (hon e' hee he)
 ·by_cases g1 : e1 = e
  ·subst g1
   rw [hφe] at hb1
   have hee : e2 ≠ e1 := fun hh => hne hh.symm
   rw [hφn e2 hee] at hb2
   rcases hfp b hb1 with h3 | h3
   ·exact h.apart e1 e2 hOn (hon e2 hee h2) hne b h3 hb2
   ·have := hlt e2 (hon e2 hee h2) b hb2; omega
  ·rw [hφn e1 g1] at hb1
   by_cases g2 : e2 = e
   ·subst g2
    rw [hφe] at hb2
    rcases hfp b hb2 with h3 | h3
    ·exact h.apart e1 e2 (hon e1 g1 h1) hOn hne b hb1 h3
    ·have := hlt e1 (hon e1 g1 h1) b hb1; omega
   ·rw [hφn e2 g2] at hb2
    exact h.apart e1 e2 (hon e1 g1 h1) (hon e2 g2 h2) hne b hb1 hb2
 ·have hj' := (hdom j).1 hj
  by_cases hee : e' = e
  ·subst hee
   rw [hφe] at hm
   rcases hfp _ hm with h3 | h3
   ·exact h.ebx e' j hOn hj' h3
   ·have h3 : w.heap.size <= g.β j := h3
    have := h.lt hj'; omega
  ·rw [hφn e' hee] at hm
   exact h.ebx e' j (hon e' hee he) hj' hm
def qhy (σ : St) (k : Nat) (sz : Nat) (rows : List (List T)) (K : Nat -> Ev -> Prop) : Prop := match σ.bx k with
 | some [.ow e n] => zas (σ.ev e) fun x => x.deep = true /\ x.on = true /\ x.gen = n /\ x.sz = sz /\ x.rows = rows /\ flR rows = true /\ K e x
 | _ => False
theorem zzv {σ : St} {k sz : Nat} {rows : List (List T)} {K : Nat -> Ev -> Prop} (h : qhy σ k sz rows K) : ∃ e x, σ.bx k = some [.ow e x.gen] /\ σ.ev e = some x /\ x.deep = true /\ x.on = true /\ x.sz = sz /\ x.rows = rows /\ flR rows = true /\ K e x := by
 unfold qhy at h
 split at h
 ·rename_i e n hb
  obtain ⟨x, h1, h2, h3, rfl, h5, h6, h7, h8⟩ := zan h
  exact ⟨e, x, hb, h1, h2, h3, h5, h6, h7, h8⟩
 ·exact h.elim
def St.bxE (σ : St) (k : Nat) : Nat := match σ.bx k with
 | some [.ow e _] => e
 | _ => 0
def zo7 (σ : St) (k : Nat) (rows' : List (List T)) : List (Nat × Ev) := match σ.ev (σ.bxE k) with
 | some x => [(σ.bxE k, ⟨true, x.sz, rows', x.gen + 1, true⟩)]
 | none => []
def zn2 (σ : St) (k : Nat) : List (Nat × List C) := match σ.ev (σ.bxE k) with
 | some x => [(k, [.ow (σ.bxE k) (x.gen + 1)])]
 | none => []
def flD : List (Bool × D) -> Bool
 | [] => true
 | (_, .one t) :: ds => t.flat && flD ds
 | _ => false
def flV : List (Bool × D) -> List V
 | [] => []
 | (_, .one t) :: ds => .one (.t t) :: flV ds
 | (_, .agg ts) :: ds => .agg (ts.map .t) :: flV ds
theorem zsf : ∀ (ds : List (Bool × D)), ∀ v ∈ flV ds, v.isTup = false
 | [], v, h => by simp [flV] at h
 | (_, .one t) :: ds, v, h => by
  simp only [flV, List.mem_cons] at h
  rcases h with rfl | h
  ·rfl
  ·exact zsf ds v h
 | (_, .agg t) :: ds, v, h => by
  simp only [flV, List.mem_cons] at h
  rcases h with rfl | h
  ·rfl
  ·exact zsf ds v h
theorem qdj {σ : St} {g : Gh} {w w' : World} {A : Nat -> Prop} : ∀ {ds : List (Bool × D)} {us : List Value} {fp tp : List Nat}, flD ds = true -> zaw w' A ds us fp tp -> VRl σ g w (flV ds) us /\ fp = []
 | [], us, fp, tp, _, h => ⟨h.1, h.2.1⟩
 | (false, .one t) :: ds, us, fp, tp, hf, h => by
  rw [flD, Bool.and_eq_true] at hf
  obtain ⟨v, vs', rfl, h1, h2⟩ := h
  obtain ⟨k1, k2⟩ := qdj (σ := σ) (g := g) (w := w) hf.2 h2
  have h1 : zaq w' A t v := h1
  exact ⟨⟨v, vs', rfl, zfb hf.1 h1, k1⟩, k2⟩
 | (true, .one t) :: ds, us, fp, tp, hf, h => by
  rw [flD, Bool.and_eq_true] at hf
  obtain ⟨v, vs', f1, f2, t1, t2, rfl, rfl, rfl, h1, h2⟩ := h
  obtain ⟨k1, k2⟩ := qdj (σ := σ) (g := g) (w := w) hf.2 h2
  have h1 : zax w' t v f1 := h1.1
  have h0 : f1 = [] /\ zaq w (Fix σ g w) t v := by
   have hf1 := hf.1
   cases t <;> simp only [T.flat, Bool.false_eq_true] at hf1
   ·unfold zax at h1; unfold zaq; exact ⟨h1.2.2.2, h1.1, h1.2.1, h1.2.2.1⟩
   ·unfold zax at h1; unfold zaq; exact ⟨h1.2, h1.1⟩
   ·unfold zax at h1; unfold zaq; exact ⟨h1.2.2, h1.1, h1.2.1⟩
   ·unfold zax at h1; unfold zaq; exact ⟨h1.2, h1.1⟩
  exact ⟨⟨v, vs', rfl, h0.2, k1⟩, by rw [h0.1, k2]; rfl⟩
 | (_, .agg _) :: _, _, _, _, hf, _ => by cases hf
def St.callT (σ : St) (d k : Nat) (rows' : List (List T)) (res : List (Bool × D)) : St := (σ.upEB (zo7 σ k rows') (zn2 σ k)).put (some d) (zly (flV res))
theorem zp3 {o : Oper} {σ : St} {x : Operand} {asx : Array Operand} {ts : Array TypeId} {f : FuncId} {cvs : List V} {d k sz : Nat} {rows rows' : List (List T)} {l : List AF} {res : List (Bool × D)} (ho : o.op = .call ⟨.value x, asx, ts⟩) (hd : o.dst = some d)
  (h : PC P f [[(true, .sl sz rows)]] l [[(true, .sl sz rows')]] res) (hc : zau (σ.get P 0 x) = some (f, cvs)) (hr : flD res = true)
  (hv : mtK [k] l (σ.gets P asx ts ++ cvs) fun us => gvQ us (AF.ds l)) (hb : qhy σ k sz rows fun _ _ => True) : zag P o σ (σ.callT d k rows' res) := by
 intro n0 N g a w hR hn hdN
 obtain ⟨vs, h1, h2⟩ := zc0 hR ho hc h.1
 unfold Oper.wp
 rw [h1]
 obtain ⟨e, z, hbx, hz, zd, zo, rfl, rfl, zf, _⟩ := zzv hb
 have hk : σ.bx k ≠ none := by rw [hbx]; simp
 have hOn : σ.On e := ⟨z, hz, zo⟩
 let bs : Nat -> Nat := fun j => g.β (([k] : List Nat).getD j 0)
 have hbs : ∀ j b, ([k] : List Nat)[j]? = some b -> bs j = g.β b := fun j b hj => by show g.β (([k] : List Nat).getD j 0) = _; rw [List.getD_eq_getElem?_getD, hj]; rfl
 obtain ⟨us, dvs, a1, a2, a3, rfl⟩ := zem hbs hv h2
 have k2 := zh2 a1 a2
 obtain ⟨cvs', ty, b1, b2⟩ := hR.boxes k _ hbx
 obtain ⟨v, vs', e1, ⟨b3, _⟩, b4⟩ := b2
 have b4 : vs' = [] := b4
 subst b4
 have hown : zax w (.sl z.sz z.rows) (g.ψ e z.gen) (g.φ e) := zeq hR (by obtain ⟨zd', zs', zr', zg', zo'⟩ := z; simp only at zd zo; subst zd zo; exact hz)
 have hfn : ∀ b, zcn σ g w b -> b ∉ g.φ e := fun b hb => hb.2 e hOn
 have hbs0 : bs 0 = g.β k := rfl
 have hga : zaw w (fun q => (q < w.heap.size /\ q ∉ g.φ e /\ ∀ j, j < 1 -> q ≠ bs j) /\ zcn σ g w q) (AF.ds l ++ bxA [(true, .sl z.sz z.rows)]) (dvs ++ [v]) ([] ++ g.φ e) ([] ++ zjg (.sl z.sz z.rows) (g.φ e)) := by
  have hq : ∀ b, zcn σ g w b -> ∀ j, j < 1 -> b ≠ bs j := fun b hb j hj he => by
   have hj0 : j = 0 := by omega
   subst hj0
   exact hb.1.1 k hk (by rw [<- hbs0, he])
  refine zaw.append (zaw.keepA (fun b hb => ⟨⟨hb.1.2.2.1, hfn b hb, hq b hb⟩, hb⟩) k2) ?_
  ·exact ⟨v, [], g.φ e, [], _, [], rfl, by simp, by simp, ⟨by rw [b3]; exact hown, rfl⟩, rfl, rfl, rfl⟩
 rw [List.nil_append, List.nil_append] at hga
 have hbf : ∀ j, j < ([[(true, T.sl z.sz z.rows)]] : Bxs).length -> bs j ∉ g.φ e := fun j hj => by
  simp only [List.length_singleton] at hj
  have hj0 : j = 0 := by omega
  subst hj0
  rw [hbs0]
  exact hR.ebx e k hOn hk
 have hBI : zxq w bs 0 [[v]] [[(true, T.sl z.sz z.rows)]] := by
  refine ⟨rfl, ⟨ty, ?_⟩, trivial⟩
  rw [hbs0, b1]
  have : cvs' = ⟨[v]⟩ := by cases cvs'; simp only at e1; rw [e1]
  rw [this]
 refine (h.2.2 w bs [[v]] dvs (g.φ e) _ (zcn σ g w) (fun i j hi hj _ => by simp only [List.length_singleton] at hi hj; omega) hbf hBI hga (hR.nodup e hOn) a3).mono ?_
 rintro en w' ⟨us', bvs', fp', tp', rfl, hbx', hlu, o1, o2, o3, hbk⟩
 obtain ⟨v1, v2, f1, f2, t1, t2, ev, rfl, et, p1, p2⟩ := zaw.split o1
 obtain ⟨rfl, rfl⟩ := List.append_inj ev (by rw [hlu, zaw.len p1])
 match bvs', hbx' with
 | [cs], ⟨hl1, ⟨ty', hty⟩, _⟩ =>
  obtain ⟨v', e2⟩ := List.length_eq_one_iff.1 (show cs.length = 1 from hl1)
  subst e2
  have p2 : zaw w' _ [(true, .one (.sl z.sz rows'))] [v'] f2 t2 := p2
  obtain ⟨u, us2, g1, g2, s1, s2, e3, rfl, rfl, ⟨hown', _⟩, e4⟩ := p2
  obtain ⟨rfl, rfl, rfl⟩ := e4
  cases e3
  have hown' : zax w' (.sl z.sz rows') v' g1 := hown'
  obtain ⟨hf1, hf1e⟩ := qdj (σ := ⟨σ.sl, upd σ.bx k (some [.ow e (z.gen + 1)]), upd σ.ev e (some ⟨true, z.sz, rows', z.gen + 1, true⟩)⟩) (g := zt0 g e (z.gen + 1) v' g1) (w := w') hr p1
  subst hf1e
  rw [List.nil_append, List.append_nil] at o2 o3
  have hT := hR.turnB (k := k) (e := e) hn hk hz zo zd zf (w' := w') (rows' := rows') (v' := v') (fp' := g1) ⟨hbk.os, hbk.tape, hbk.output, hbk.size, fun q hq => hbk.block q ⟨hq.1, hq.2.1, fun j hj he => by
   simp only [List.length_singleton] at hj
   have hj0 : j = 0 := by omega
   subst hj0
   exact hq.2.2 (he.trans hbs0)⟩⟩ hown' o2 o3 ⟨ty', by rw [hbs0] at hty; exact hty⟩
  have hBk : Bk n0 w w' := ⟨hbk.os, hbk.tape, hbk.output, hbk.size, fun q hq => hbk.block q ⟨hn q hq, fun hm => hR.etop e hOn q hm hq, fun j hj he => by
   simp only [List.length_singleton] at hj
   have hj0 : j = 0 := by omega
   subst hj0
   exact hR.base k hk (by rw [<- hbs0, <- he]; exact hq)⟩⟩
  have hE : σ.bxE k = e := by unfold St.bxE; rw [hbx]
  have hst : σ.upEB (zo7 σ k rows') (zn2 σ k) = ⟨σ.sl, upd σ.bx k (some [.ow e (z.gen + 1)]), upd σ.ev e (some ⟨true, z.sz, rows', z.gen + 1, true⟩)⟩ := by
   unfold St.upEB zo7 zn2
   rw [hE, hz]
   rfl
  refine ⟨zt0 g e (z.gen + 1) v' g1, ?_, hBk, rfl, rfl⟩
  have hp := hT.put (some d) (x := zly (flV res)) (v := zbz us') (zd5 hf1 (zsf res)) (fun i hi => by cases hi; exact hdN d hd)
  unfold St.callT
  rw [hst, hd]
  exact hp
section
variable {ks : List Fr} {Q : Exit -> St -> Prop} {σ : St} {ops : Array Oper} {os : List Oper} {L : List (List Ky × List Ky)} {gR : List Ky} {ty : TypeId} {ps : String} {af : Array Edge} {d k sz : Nat} {x : Operand} {asx : Array Operand} {ts : Array TypeId} {f : FuncId} {rows rows' : List (List T)} {l : List AF} {res : List (Bool × D)}
theorem callT (k : Nat) (h : PC P f [[(true, .sl sz rows)]] l [[(true, .sl sz rows')]] res) (hr : flD res = true)
  (hp : zas (zau (σ.get P 0 x)) fun p => p.1 = f /\ mtK [k] l (σ.gets P asx ts ++ p.2) fun us => gvQ us (AF.ds l)) (hb : qhy σ k sz rows fun _ _ => True)
  (c : exo P ops os ks Q (σ.callT d k rows' res)) : exo P ops (⟨some d, .call ⟨.value x, asx, ts⟩, ty, ps, af, none⟩ :: os) ks Q σ := by
 obtain ⟨⟨f', cvs⟩, h1, rfl, h2⟩ := zan hp
 exact zcr rfl rfl (zp3 rfl rfl h h1 hr h2 hb) c
theorem qa4 {cvs : List V} (h : PC P f [[(true, .sl sz rows)]] l [[(true, .sl sz rows')]] res) (hr : flD res = true) (hc : zau (σ.get P 0 x) = some (f, cvs))
  (hv : mtK [k] l (σ.gets P asx ts ++ cvs) fun us => gvQ us (AF.ds l)) (hb : qhy σ k sz rows fun _ _ => True) :
  zg0 P ⟨some d, .call ⟨.value x, asx, ts⟩, ty, ps, af, none⟩ (zat (x :: asx.toList) ++ [(1, k), (2, σ.bxE k)]) (dK (some d) ++ (boK (zn2 σ k) ++ eK (zo7 σ k rows'))) σ (σ.callT d k rows' res) := by
 unfold St.callT
 refine zg0.ofB rfl (zbf (zbt _) rfl) fun σ1 hs => ?_
 have e1 : σ1.get P 0 x = σ.get P 0 x := zb9 (l := x :: asx.toList) (fun k hk => hs k (by simp only [List.mem_append]; exact Or.inl hk)) (by simp) 0
 have e2 : σ1.gets P asx ts = σ.gets P asx ts := zrb fun k hk => hs k (by simp only [List.mem_append]; exact Or.inl (zf3 hk))
 have e3 : σ1.bx k = σ.bx k := Eq.symm (hs (1, k) (by simp))
 have e4 : σ1.bxE k = σ.bxE k := by unfold St.bxE; rw [e3]
 have e5 : σ1.ev (σ.bxE k) = σ.ev (σ.bxE k) := Eq.symm (hs (2, σ.bxE k) (by simp))
 have t1 : zo7 σ1 k rows' = zo7 σ k rows' := by unfold zo7; rw [e4, e5]
 have t2 : zn2 σ1 k = zn2 σ k := by unfold zn2; rw [e4, e5]
 have hb1 : qhy σ1 k sz rows fun _ _ => True := by
  obtain ⟨e, z, q1, q2, q3, q4, q5, q6, q7, _⟩ := zzv hb
  have hE : σ.bxE k = e := by unfold St.bxE; rw [q1]
  unfold qhy
  rw [e3, q1]
  rw [hE] at e5
  simp only
  rw [e5, q2]
  exact ⟨q3, q4, rfl, q5, q6, q7, trivial⟩
 rw [<- t1, <- t2]
 exact zp3 rfl rfl h (by rw [e1]; exact hc) hr (by rw [e2]; exact hv) hb1
theorem qjf (k : Nat) (h : PC P f [[(true, .sl sz rows)]] l [[(true, .sl sz rows')]] res) (hr : flD res = true)
  (hp : zas (zau (σ.get P 0 x)) fun p => p.1 = f /\ mtK [k] l (σ.gets P asx ts ++ p.2) fun us => gvQ us (AF.ds l)) (hb : qhy σ k sz rows fun _ _ => True)
  (c : exd P ops os (L ++ [(gR ++ (zat (x :: asx.toList) ++ [(1, k), (2, σ.bxE k)]), dK (some d) ++ (boK (zn2 σ k) ++ eK (zo7 σ k rows')))]) ks Q (σ.callT d k rows' res)) :
  zm8 P ops ⟨some d, .call ⟨.value x, asx, ts⟩, ty, ps, af, none⟩ os L gR ks Q σ := by
 obtain ⟨⟨f', cvs⟩, h1, rfl, h2⟩ := zan hp
 exact qb8 _ _ _ _ _ _ rfl (qa4 h hr h1 h2 hb) c
end
section
variable {d : Option Nat} {ty : TypeId} {ps : String} {af : Array Edge} (ops : Array Oper) (os : List Oper) (L : List (List Ky × List Ky)) (ks : List Fr) (Q : Exit -> St -> Prop) (σ : St)
def exdGS (P : Program) (ops : Array Oper) (o : Oper) (os : List Oper) (L : List (List Ky × List Ky)) (gR : List Ky) (ks : List Fr) (Q : Exit -> St -> Prop) (σ : St) : Prop := zm8 P ops o os L gR ks Q σ
theorem zw8 (gR : List Ky) (t : TypeId) (x : Operand) (l h m : Option Operand) : zm8 P ops ⟨d, .slice t x l h m, ty, ps, af, none⟩ os L gR ks Q σ = owK (σ.get P t x) (exdGS P ops ⟨d, .slice t x l h m, ty, ps, af, none⟩ os L gR ks Q σ) (thn (st P ⟨d, .slice t x l h m, ty, ps, af, none⟩ σ) (exd P ops os (L ++ [(gR ++ (zat (x :: (l.toList ++ h.toList ++ m.toList)) ++ []), dK d ++ [])]) ks Q)) := by
 unfold owK
 split
 ·rfl
 ·rename_i h
  exact zfi _ _ _ _ _ _ (by unfold znb zyy; simpa [zu7] using h)
end
attribute [go_sem ↓] zw8
theorem bxE_at (σ : St) (k : Nat) : σ.bxE k = match σ.bx k with
 | some [.ow e _] => e
 | _ => 0 := rfl
attribute [go_sem] qhy bxE_at zo7 zn2 flV St.upEB St.callT
end Go.Proofs.YtbccfiillleimaaGreat
namespace Go.Proofs.YtbccfiillleimaaGreat
set_option linter.unusedSimpArgs false
set_option linter.unusedVariables false
set_option linter.unusedSectionVars false
set_option maxRecDepth 4000
open Go.RowKit
noncomputable def dec (p : Prop) : Bool := @decide p (Classical.propDecidable _)
theorem zcs {p : Prop} : dec p = true ↔ p := by simp [dec]
theorem zub {p : Prop} : dec p = false ↔ ¬ p := by simp [dec]
def TOk (xs : List Tm) : Prop := ∀ k (h : k < xs.length), xs[k].good = true /\ ((xs.take k).any fun a => same a xs[k]) = false
noncomputable def zb2 (e : Ex) (pos : Bool) (E : List Str) : Bool × List Str :=
 if dec (TOk e.terms) = true then
  (if ((e.form.op == 8) == pos) = true then
   (match e.terms with
   | [t] => if (za2 t.name && !E.contains t.name) = true then (decide (e.parts.length = 1), E ++ [t.name]) else (false, E)
   | _ => (false, E))
  else (decide (e.parts.length = e.terms.length), E))
 else (false, E)
theorem up_var {t : Tm} (h : t.good = true) : zkn (t.name.getD 0 0) = za2 t.name /\ 0 < t.name.length := by
 unfold Tm.good at h
 rw [Bool.and_eq_true] at h
 have h := h.2
 rw [Tm.names_eq] at h
 by_cases hv : za2 t.name = true
 ·obtain ⟨h1, h2⟩ := znx hv
  exact ⟨h1.trans hv.symm, h2⟩
 ·rw [if_neg hv] at h
  simp only [Bool.and_eq_true] at h
  obtain ⟨h1, h2⟩ := zkv h.1.1
  exact ⟨h1.trans (by simpa using hv), h2⟩
theorem TOk.snoc {xs : List Tm} {k : Nat} (h : k < xs.length) (hT : ∀ j, j < k -> ∀ hj : j < xs.length, xs[j].good = true /\ ((xs.take j).any fun a => same a xs[j]) = false) (h1 : xs[k].good = true) (h2 : ((xs.take k).any fun a => same a xs[k]) = false) : ∀ j, j < k + 1 -> ∀ hj : j < xs.length, xs[j].good = true /\ ((xs.take j).any fun a => same a xs[j]) = false := fun j hj hl => by
 by_cases e : j = k
 ·subst e; exact ⟨h1, h2⟩
 ·exact hT j (by omega) hl
theorem qnf (e : Ex) (he : e.wt <= 1048576) (pos : Bool) (E : List Str) (hE : E.length <= 4194304) : PC Tryz.prog 201 [[(true, .sl 1 (E.map fun s => [.str s]))]] [.p 0, .d false (exD e), .d false (bD pos)] [[(true, .sl 1 ((zb2 e pos E).2.map fun s => [.str s]))]] [(true, bD (zb2 e pos E).1)] := by
 have hW := e.wt_eq
 have hTW : zfr e.terms = e.terms.length + (e.terms.map Tm.wt).sum := rfl
 have HS := zid e.form pos
 simp only [exD, zai, fmD, zab] at HS ⊢
 refine zku Tryz.call201 Tryz.func201 rfl (by kernel_rfl) (by simp only [List.length_cons, List.length_nil, Tryz.ntmps201]; omega) (by simp only [Tryz.ntmps201]; omega) rfl rfl (by simp [zbm, T.isPin, AF.ds, bxA]) (by simp [gFS, T.fs, T.flat, AF.ds, bxA]) rfl ?_
 simp -implicitDefEqProofs only [go_sem, Tryz.results201]
 refine zae (fun k : Nat => hd [(0, .one (.bx 1000000 0)), (1000000, .one (.bx 1000000 0)), (2, .one (.t (.bool pos))), (4, .one (.bx 4 0)), (10, .one (.rn (tmS e.terms))), (11, vI e.terms.length), (12, vI k)] [(1000000, [.ow 64 0]), (4, [.t (.int .i64 e.form.op), .t (.str e.form.atom.name), .rn (tmS e.form.atom.args), .t (.str e.form.var), .rn (fmS e.form.parts), .rn (tmS e.terms), .rn (exS e.parts)])] [(64, ⟨true, 1, E.map fun s => [.str s], 0, true⟩)]) (fun k => k <= e.terms.length /\ ∀ j, j < k -> ∀ hj : j < e.terms.length, e.terms[j].good = true /\ ((e.terms.take j).any fun a => same a e.terms[j]) = false) (fun k => e.terms.length - k) 0 (zac ?_) ⟨Nat.zero_le _, fun j hj => by omega⟩ ?_
 ·simp -implicitDefEqProofs only [go_sem]
 ·rintro k ⟨hk, hT⟩
  by_cases hlt : k < e.terms.length
  ·have hwt : e.terms[k].wt <= 1099511627776 := by have := za6 Tm.wt e.terms _ (List.getElem_mem hlt); omega
   have HV := zfg e.terms[k] hwt
   have HI := zh5 (e.terms.take k) e.terms[k]
   have hi2 := zsy (e.terms.take k) fun a => same a e.terms[k]
   have hbad : (e.terms[k].good = false \/ ((e.terms.take k).any fun a => same a e.terms[k]) = true) -> zb2 e pos E = (false, E) := fun h => by
    unfold zb2
    have : dec (TOk e.terms) = false := zub.2 fun hh => by
     obtain ⟨q1, q2⟩ := hh k hlt
     rcases h with h | h
     ·rw [q1] at h; cases h
     ·rw [q2] at h; cases h
    rw [this, if_neg (by simp)]
   simp only [tmD, zaa e.terms[k]] at HV HI
   simp -implicitDefEqProofs only [go_sem, hlt]
   cases hg : e.terms[k].good
   ·rw [hbad (Or.inl hg)]
    rw [hg] at HV
    simp -implicitDefEqProofs only [go_sem, zad, hlt, zaa e.terms[k]]
    refine drawn (by kernel_rfl) ?_
    simp -implicitDefEqProofs only [go_sem]
    refine zao (HV) (by simp -implicitDefEqProofs only [go_sem]) ?_
    simp -implicitDefEqProofs only [go_sem]
    kernel_rfl
   ·rw [hg] at HV
    simp -implicitDefEqProofs only [go_sem, zad, hlt, zaa e.terms[k]]
    refine drawn (by kernel_rfl) ?_
    simp -implicitDefEqProofs only [go_sem]
    refine zao (HV) (by simp -implicitDefEqProofs only [go_sem]) ?_
    simp -implicitDefEqProofs only [go_sem]
    refine ⟨hk, ?_⟩
    have eT : tmS (e.terms.take k) = .sl 2 ((e.terms.map tmC).take k) := by unfold tmS; rw [List.map_take]
    rw [eT] at HI
    cases hi : (e.terms.take k).any fun a => same a e.terms[k]
    ·rw [hi] at hi2
     refine za7 (HI) (by simp -implicitDefEqProofs only [go_sem, hi2]) ?_
     simp -implicitDefEqProofs only [go_sem, hi2]
     refine ⟨by kernel_rfl, k + 1, ⟨hlt, TOk.snoc hlt hT hg hi⟩, by omega, zac ?_⟩
     simp -implicitDefEqProofs only [go_sem]
     rw [zap (by omega)]
    ·rw [hi] at hi2
     rw [hbad (Or.inr hi)]
     refine za7 (HI) (by simp -implicitDefEqProofs only [go_sem, hi2]) ?_
     simp -implicitDefEqProofs only [go_sem, hi2]
     kernel_rfl
  ·have hTok : dec (TOk e.terms) = true := zcs.2 fun j hj => hT j (by omega) hj
   have hval : zb2 e pos E = if ((e.form.op == 8) == pos) = true then (match e.terms with | [t] => if (za2 t.name && !E.contains t.name) = true then (decide (e.parts.length = 1), E ++ [t.name]) else (false, E) | _ => (false, E)) else (decide (e.parts.length = e.terms.length), E) := by
    unfold zb2; rw [hTok, if_pos rfl]
   cases hst : (e.form.op == 8) == pos
   ·rw [hst, if_neg (by simp)] at hval
    rw [hst] at HS
    rw [hval]
    have hle : ((e.parts.length : Int) == (e.terms.length : Int)) = decide (e.parts.length = e.terms.length) := by rw [Bool.eq_iff_iff]; simp only [beq_iff_eq, decide_eq_true_eq]; omega
    simp -implicitDefEqProofs only [go_sem, hlt]
    refine callF (HS) (by simp -implicitDefEqProofs only [go_sem]) ?_
    simp -implicitDefEqProofs only [go_sem]
    exact Or.inl (by rw [hle])
   ·rw [hst, if_pos rfl] at hval
    rw [hst] at HS
    by_cases h1 : e.terms.length = 1
    ·obtain ⟨t, ht⟩ := List.length_eq_one_iff.1 h1
     have htg : t.good = true := by have := (zcs.1 hTok) 0 (by omega); simpa [ht] using this.1
     obtain ⟨hu, hn0⟩ := up_var htg
     have HV := qau t hn0
     rw [hu] at HV
     have hval2 : zb2 e pos E = if (za2 t.name && !E.contains t.name) = true then (decide (e.parts.length = 1), E ++ [t.name]) else (false, E) := by rw [hval, ht]
     have HCt := zbk E t.name
     have e0 : (List.map tmC e.terms).getD 0 [] = tmC t := by rw [ht]; rfl
     have hle : ((e.parts.length : Int) == 1) = decide (e.parts.length = 1) := by rw [Bool.eq_iff_iff]; simp only [beq_iff_eq, decide_eq_true_eq]; omega
     simp only [tmD, zaa t] at HV
     simp -implicitDefEqProofs only [go_sem, hlt]
     refine callF (HS) (by simp -implicitDefEqProofs only [go_sem]) ?_
     simp -implicitDefEqProofs only [go_sem]
     cases hv : za2 t.name
     ·rw [hv, Bool.false_and, if_neg (by simp)] at hval2
      rw [hv] at HV
      rw [hval2]
      refine drawn (by kernel_rfl) ?_
      simp -implicitDefEqProofs only [go_sem, h1, e0, zaa t]
      refine za7 (HV) (by simp -implicitDefEqProofs only [go_sem]) ?_
      simp -implicitDefEqProofs only [go_sem]
      kernel_rfl
     ·rw [hv, Bool.true_and] at hval2
      rw [hv] at HV
      cases hc : E.contains t.name
      ·rw [hc, if_pos (by simp)] at hval2
       rw [hc] at HCt
       rw [hval2]
       refine drawn (by kernel_rfl) ?_
       simp -implicitDefEqProofs only [go_sem, h1, e0, zaa t]
       refine za7 (HV) (by simp -implicitDefEqProofs only [go_sem, h1, e0, zaa t]) ?_
       simp -implicitDefEqProofs only [go_sem, h1, e0, zaa t]
       refine za7 (HCt) (by simp -implicitDefEqProofs only [go_sem]) ?_
       simp -implicitDefEqProofs only [go_sem]
       refine ⟨by kernel_rfl, ?_⟩
       refine drawn (by kernel_rfl) ?_
       simp -implicitDefEqProofs only [go_sem, h1, e0, zaa t]
       have hE2 : E.length <= 4294967295 := by omega
       refine zbj (by simp -implicitDefEqProofs only [go_sem]) ?_
       simp -implicitDefEqProofs only [go_sem]
       refine zfs true (by simp -implicitDefEqProofs only [go_sem, hE2, ne_eq, List.length_map]) ?_
       simp -implicitDefEqProofs only [go_sem, hE2, ne_eq, List.length_map]
       refine ⟨by kernel_rfl, ?_⟩
       simp -implicitDefEqProofs only [go_sem, h1, hle]
       exact Or.inl (Or.inl (by simp))
      ·rw [hc, if_neg (by simp)] at hval2
       rw [hc] at HCt
       rw [hval2]
       refine drawn (by kernel_rfl) ?_
       simp -implicitDefEqProofs only [go_sem, h1, e0, zaa t]
       refine za7 (HV) (by simp -implicitDefEqProofs only [go_sem, h1, e0, zaa t]) ?_
       simp -implicitDefEqProofs only [go_sem, h1, e0, zaa t]
       refine za7 (HCt) (by simp -implicitDefEqProofs only [go_sem]) ?_
       simp -implicitDefEqProofs only [go_sem]
       kernel_rfl
    ·have hval2 : zb2 e pos E = (false, E) := by
      rw [hval]
      split
      ·rename_i t ht; rw [ht] at h1; exact absurd rfl h1
      ·rfl
     rw [hval2]
     have hne : ((e.terms.length : Int) != 1) = true := by rw [bne_iff_ne]; omega
     simp -implicitDefEqProofs only [go_sem, hlt]
     refine callF (HS) (by simp -implicitDefEqProofs only [go_sem]) ?_
     simp -implicitDefEqProofs only [go_sem]
     refine drawn (by kernel_rfl) ?_
     simp -implicitDefEqProofs only [go_sem, hne]
     kernel_rfl
end Go.Proofs.YtbccfiillleimaaGreat
namespace Go.Proofs.YtbccfiillleimaaGreat
set_option linter.unusedSimpArgs false
set_option linter.unusedVariables false
set_option linter.unusedSectionVars false
set_option maxRecDepth 4000
open Go.RowKit
def orE (x y : Int) : Int := if x = 0 then y else x
structure GCmp {α : Type} (c : α -> α -> Int) : Prop where
 neg : ∀ a b, c b a = - c a b
 tr : ∀ a b d, c a b <= 0 -> c b d <= 0 -> c a d <= 0
section
variable {α β : Type} {c c1 c2 : α -> α -> Int}
theorem GCmp.self (h : GCmp c) (a : α) : c a a = 0 := by have := h.neg a a; omega
theorem GCmp.comp (h : GCmp c) (f : β -> α) : GCmp fun x y => c (f x) (f y) := ⟨fun a b => h.neg _ _, fun a b d => h.tr _ _ _⟩
theorem GCmp.lex (h1 : GCmp c1) (h2 : GCmp c2) : GCmp fun a b => orE (c1 a b) (c2 a b) := by
 refine ⟨fun a b => ?_, fun a b d => ?_⟩
 ·have n1 := h1.neg a b
  have n2 := h2.neg a b
  unfold orE
  split <;> split <;> omega
 ·have t1 := h1.tr a b d
  have t2 := h2.tr a b d
  have n1 := h1.neg a b
  have n2 := h1.neg b d
  have n3 := h1.neg a d
  have t3 := h1.tr d a b
  have t4 := h1.tr b d a
  unfold orE
  split <;> split <;> split <;> omega
end
def zys {α : Type} (c : α -> α -> Int) : List α -> List α -> Int
 | [], [] => 0
 | [], _ :: _ => -1
 | _ :: _, [] => 1
 | x :: xs, y :: ys => orE (c x y) (zys c xs ys)
theorem qep {α : Type} {c : α -> α -> Int} (h : GCmp c) : GCmp (zys c) := by
 have hn : ∀ a b, zys c b a = - zys c a b := by
  intro a
  induction a with
  | nil => intro b; cases b <;> rfl
  | cons x xs ih =>
   intro b
   cases b with
   | nil => rfl
   | cons y ys =>
    have n1 := h.neg x y
    have n2 := ih ys
    unfold zys orE
    split <;> split <;> omega
 refine ⟨hn, ?_⟩
 intro a
 induction a with
 | nil => intro b d h1 h2; cases d with
  | nil => exact Int.le_refl _
  | cons => unfold zys; omega
 | cons x xs ih =>
  intro b d h1 h2
  cases b with
  | nil => unfold zys at h1; omega
  | cons y ys =>
   cases d with
   | nil => unfold zys at h2; omega
   | cons z zs =>
    have t1 := h.tr x y z
    have t2 := ih ys zs
    have n1 := h.neg x y
    have n2 := h.neg y z
    have n3 := h.neg x z
    have t3 := h.tr z x y
    have t4 := h.tr y z x
    unfold zys orE at h1 h2 ⊢
    split at h1 <;> split at h2 <;> split <;> omega
def qlw (x y : Bool) : Int := if (x && !y) = true then -1 else if (y && !x) = true then 1 else 0
def cmpN (x y : Nat) : Int := if x < y then -1 else if y < x then 1 else 0
theorem zmy : GCmp qlw := ⟨by decide, by decide⟩
theorem zpl : GCmp cmpN := by
 refine ⟨fun a b => ?_, fun a b d => ?_⟩ <;> unfold cmpN <;> repeat' split
 all_goals omega
theorem zrc : GCmp zph := by
 have hc : ∀ s t : Str, zph s t = if s < t then -1 else if s = t then 0 else 1 := fun s t => by
  unfold zph
  rw [zim]
  simp only [decide_eq_true_eq, beq_iff_eq]
 have tot : ∀ s t : Str, ¬ s < t -> s ≠ t -> t < s := fun s t h1 h2 => by
  rcases List.le_iff_lt_or_eq.1 (List.not_lt.1 h1) with h | h
  ·exact h
  ·exact absurd h.symm h2
 refine ⟨fun a b => ?_, fun a b d => ?_⟩
 ·rw [hc, hc]
  by_cases h1 : a < b
  ·have h2 : ¬ b < a := fun h => zha a (List.lt_trans h1 h)
   have h3 : b ≠ a := fun e => zha a (e ▸ h1)
   rw [if_pos h1, if_neg h2, if_neg h3]; rfl
  ·by_cases h2 : a = b
   ·subst h2
    rw [if_neg h1, if_pos rfl]; rfl
   ·rw [if_neg h1, if_neg h2, if_pos (tot _ _ h1 h2)]
 ·rw [hc, hc, hc]
  intro h1 h2
  by_cases h3 : a < b
  ·by_cases h4 : b < d
   ·rw [if_pos (List.lt_trans h3 h4)]; omega
   ·rw [if_neg h4] at h2
    by_cases h5 : b = d
    ·subst h5; rw [if_pos h3]; omega
    ·rw [if_neg h5] at h2; omega
  ·rw [if_neg h3] at h1
   by_cases h4 : a = b
   ·subst h4; exact h2
   ·rw [if_neg h4] at h1; omega
theorem zlf {s t : Str} : zph s t = 0 ↔ s = t := by
 unfold zph
 rw [zim]
 by_cases h : s < t
 ·have : s ≠ t := fun e => zha t (e ▸ h)
  simp [h, this]
 ·by_cases h2 : s = t
  ·simp [h2]
  ·simp [h, h2]
def hdT (a b : Tm) : Int := orE (qlw (za2 a.name) (za2 b.name)) (orE (zph a.name b.name) (cmpN a.args.length b.args.length))
mutual
def zhd : Tm -> Tm -> Int
 | .mk n xs, b => orE (hdT (.mk n xs) b) (zie xs b.args)
def zie : List Tm -> List Tm -> Int
 | [], _ => 0
 | _ :: _, [] => 0
 | x :: xs, y :: ys => orE (zhd x y) (zie xs ys)
end
theorem zs3 (a b : Tm) : zhd a b = orE (hdT a b) (zie a.args b.args) := by cases a; rw [zhd]; rfl
def cmpK : Nat -> Tm -> Tm -> Int
 | 0, _, _ => 0
 | k + 1, a, b => orE (hdT a b) (zys (cmpK k) a.args b.args)
theorem qh8 : GCmp hdT := GCmp.lex (zmy.comp fun a : Tm => za2 a.name) (GCmp.lex (zrc.comp Tm.name) (zpl.comp fun a : Tm => a.args.length))
theorem zke : ∀ k, GCmp (cmpK k)
 | 0 => ⟨fun _ _ => rfl, fun _ _ _ _ _ => Int.le_refl _⟩
 | k + 1 => GCmp.lex qh8 ((qep (zke k)).comp Tm.args)
theorem zox {a b : Tm} : hdT a b = 0 ↔ a.name = b.name /\ a.args.length = b.args.length := by
 unfold hdT
 constructor
 ·intro h
  unfold orE at h
  split at h
  ·split at h
   ·rename_i h2
    refine ⟨zlf.1 h2, ?_⟩
    unfold cmpN at h
    split at h
    ·omega
    ·split at h <;> omega
   ·exact absurd h ‹_›
  ·exact absurd h ‹_›
 ·rintro ⟨h1, h2⟩
  rw [h1, h2, zmy.self, zrc.self, zpl.self]; rfl
def Tm.dp : Tm -> Nat := Tm.fold fun _ _ rs => 1 + rs.sum
theorem Tm.dp_eq (a : Tm) : a.dp = 1 + (a.args.map Tm.dp).sum := Tm.fold_eq _ a
theorem zwt (c : Tm -> Tm -> Int) : ∀ (xs ys : List Tm), xs.length = ys.length -> (∀ x ∈ xs, ∀ y, zhd x y = c x y) -> zie xs ys = zys c xs ys
 | [], [], _, _ => by rw [zie]; rfl
 | [], _ :: _, h, _ => by simp at h
 | _ :: _, [], h, _ => by simp at h
 | x :: xs, y :: ys, h, H => by
  rw [zie, zys, H x (by simp) y, zwt c xs ys (by simpa using h) fun x hx => H x (by simp [hx])]
theorem zwk : ∀ (a : Tm) (k : Nat), a.dp <= k -> ∀ b, zhd a b = cmpK k a b := zbp fun n xs ih k hk b => by
 have hd : (Tm.mk n xs).dp = 1 + (xs.map Tm.dp).sum := Tm.dp_eq _
 cases k with
 | zero => omega
 | succ k =>
  rw [zs3, cmpK]
  by_cases h : hdT (.mk n xs) b = 0
  ·rw [show (Tm.mk n xs).args = xs from rfl, zwt (cmpK k) xs b.args (zox.1 h).2 fun x hx y => ih x hx k (by have := za6 Tm.dp xs x hx; omega) y]
  ·unfold orE
   rw [if_neg h, if_neg h]
theorem zib (a b : Tm) : zhd b a = - zhd a b := by
 rw [zwk a (a.dp + b.dp) (by omega), zwk b (a.dp + b.dp) (by omega)]
 exact (zke _).neg a b
theorem zsq (a b d : Tm) (h1 : zhd a b <= 0) (h2 : zhd b d <= 0) : zhd a d <= 0 := by
 rw [zwk a (a.dp + b.dp) (by omega)] at h1 ⊢
 rw [zwk b (a.dp + b.dp) (by omega)] at h2
 exact (zke _).tr a b d h1 h2
theorem qeu : GCmp zhd := ⟨zib, zsq⟩
theorem qex : ∀ a b : Tm, zhd a b = 0 ↔ a = b := zbp fun n xs ih b => by
 rw [zs3]
 have hts : ∀ (xs : List Tm), (∀ x ∈ xs, ∀ b, zhd x b = 0 ↔ x = b) -> ∀ ys, xs.length = ys.length -> (zie xs ys = 0 ↔ xs = ys) := fun xs => by
  induction xs with
  | nil => intro _ ys h; cases ys with
   | nil => simp [zie]
   | cons => simp at h
  | cons x xs ih2 =>
   intro H ys h
   cases ys with
   | nil => simp at h
   | cons y ys =>
    have h1 := H x (by simp) y
    have h2 := ih2 (fun x hx => H x (by simp [hx])) ys (by simpa using h)
    rw [zie, List.cons.injEq, <- h1, <- h2]
    unfold orE
    split
    ·rename_i e; simp [e]
    ·rename_i e; simp [e]
 constructor
 ·intro h
  unfold orE at h
  split at h
  ·rename_i h0
   obtain ⟨e1, e2⟩ := zox.1 h0
   have := (hts xs ih b.args e2).1 h
   cases b with
   | mk m ys =>
    obtain rfl : n = m := e1
    obtain rfl : xs = ys := this
    rfl
  ·exact absurd h ‹_›
 ·rintro rfl
  rw [zox.2 ⟨rfl, rfl⟩]
  exact (hts xs ih xs rfl).2 rfl
def ltT (a b : Tm) : Bool := decide (zhd a b < 0)
noncomputable def zk1 (l : List Tm) (t : Tm) : List Tm := if dec ((l.dropWhile fun x => ltT x t).head? = some t) = true then l else l.takeWhile (fun x => ltT x t) ++ [t] ++ l.dropWhile fun x => ltT x t
abbrev SrtT (l : List Tm) : Prop := l.Pairwise fun a b => zhd a b < 0
theorem zor {a b d : Tm} (h1 : zhd a b < 0) (h2 : zhd b d <= 0) : zhd a d < 0 := by
 have n1 := zib a b
 have n2 := zib b d
 have n3 := zib a d
 have t1 := zsq a b d
 have t2 := zsq b d a
 omega
theorem qhg {l : List Tm} {t x : Tm} : x ∈ zk1 l t ↔ x ∈ l \/ x = t := by
 unfold zk1
 split
 ·rename_i h
  have : t ∈ l := (List.dropWhile_suffix _).subset (List.mem_of_mem_head? (zcs.1 h))
  constructor
  ·exact Or.inl
  ·rintro (h | rfl)
   ·exact h
   ·exact this
 ·conv => rhs; rw [<- List.takeWhile_append_dropWhile (p := fun x => ltT x t) (l := l)]
  simp only [List.mem_append, List.mem_singleton]
  constructor
  ·rintro ((h | h) | h)
   ·exact Or.inl (Or.inl h)
   ·exact Or.inr h
   ·exact Or.inl (Or.inr h)
  ·rintro ((h | h) | h)
   ·exact Or.inl (Or.inl h)
   ·exact Or.inr h
   ·exact Or.inl (Or.inr h)
theorem qf8 {l : List Tm} (hs : SrtT l) (t : Tm) : SrtT (zk1 l t) := by
 unfold zk1
 split
 ·exact hs
 ·rename_i h
  have hl := List.takeWhile_append_dropWhile (p := fun x => ltT x t) (l := l)
  have hs' := hs
  rw [<- hl] at hs'
  unfold SrtT at hs' ⊢
  rw [List.pairwise_append] at hs'
  obtain ⟨s1, s2, s3⟩ := hs'
  have h1 : ∀ x ∈ l.takeWhile (fun x => ltT x t), zhd x t < 0 := fun x hx => by
   exact of_decide_eq_true (List.all_eq_true.1 (List.all_takeWhile (p := fun x => ltT x t) (l := l)) x hx)
  have h2 : ∀ x ∈ l.dropWhile (fun x => ltT x t), zhd t x < 0 := fun x hx => by
   cases hd : l.dropWhile fun x => ltT x t with
   | nil => rw [hd] at hx; cases hx
   | cons y ys =>
    have hy : ltT y t = false := by
     have := List.head?_dropWhile_not (fun x => ltT x t) l
     rw [hd] at this
     simpa using this
    rw [hd] at h s2 hx
    have hy1 : ¬ zhd y t < 0 := of_decide_eq_false hy
    have hy2 : zhd y t ≠ 0 := fun e => h (zcs.2 (by rw [List.head?_cons, (qex y t).1 e]))
    have hty : zhd t y < 0 := by have := zib y t; omega
    rcases List.mem_cons.1 hx with rfl | hx
    ·exact hty
    ·exact zor hty (Int.le_of_lt ((List.pairwise_cons.1 s2).1 x hx))
  rw [List.pairwise_append, List.pairwise_append]
  refine ⟨⟨s1, List.pairwise_singleton _ _, fun a ha b hb => ?_⟩, s2, fun a ha b hb => ?_⟩
  ·rw [List.mem_singleton] at hb; subst hb; exact h1 a ha
  ·rcases List.mem_append.1 ha with ha | ha
   ·exact s3 a ha b hb
   ·rw [List.mem_singleton] at ha; subst ha; exact h2 b hb
theorem zx3 {l : List Tm} (h : SrtT l) : l.Nodup := List.Pairwise.imp (fun {a b} h e => by subst e; rw [qeu.self] at h; omega) h
end Go.Proofs.YtbccfiillleimaaGreat
namespace Go.Proofs.YtbccfiillleimaaGreat
set_option linter.unusedSimpArgs false
set_option linter.unusedVariables false
set_option linter.unusedSectionVars false
set_option maxRecDepth 4000
open Go.RowKit
def atF : Fm -> List Tm := Fm.fold fun o a _ _ rs => if (o == 3) = true then [a] else rs.flatten
theorem zi1 (f : Fm) : atF f = if (f.op == 3) = true then [f.atom] else (f.parts.map atF).flatten := Fm.fold_eq _ f
def evF : Fm -> (Tm -> Bool) -> Bool := Fm.fold fun o a _ _ rs v =>
 if (o == 1) = true then true else if (o == 3) = true then v a else if (o == 4) = true then !((rs.map fun r => r v).getD 0 false)
 else if (o == 5) = true then (rs.map fun r => r v).getD 0 false && (rs.map fun r => r v).getD 1 false
 else if (o == 6) = true then (rs.map fun r => r v).getD 0 false || (rs.map fun r => r v).getD 1 false
 else if (o == 7) = true then !((rs.map fun r => r v).getD 0 false) || (rs.map fun r => r v).getD 1 false else false
def evs (f : Fm) (v : Tm -> Bool) : List Bool := f.parts.map fun p => evF p v
theorem zfj (f : Fm) (v : Tm -> Bool) : evF f v = if (f.op == 1) = true then true else if (f.op == 3) = true then v f.atom else if (f.op == 4) = true then !((evs f v).getD 0 false)
 else if (f.op == 5) = true then (evs f v).getD 0 false && (evs f v).getD 1 false
 else if (f.op == 6) = true then (evs f v).getD 0 false || (evs f v).getD 1 false
 else if (f.op == 7) = true then !((evs f v).getD 0 false) || (evs f v).getD 1 false else false := by
 cases f with
 | mk o a w ps =>
  conv => lhs; unfold evF; rw [Fm.fold_eq]
  simp only [List.map_map]
  rfl
theorem qcd : ∀ (f : Fm) (v w : Tm -> Bool), (∀ t ∈ atF f, v t = w t) -> evF f v = evF f w := zbr fun o a x ps ih v w h => by
 rw [zfj, zfj]
 rw [zi1] at h
 have eO : (Fm.mk o a x ps).op = o := rfl
 have eA : (Fm.mk o a x ps).atom = a := rfl
 have eP : (Fm.mk o a x ps).parts = ps := rfl
 simp only [eO, eA, eP] at h ⊢
 cases h3 : o == 3
 ·rw [h3, if_neg (by simp)] at h
  have he : evs (.mk o a x ps) v = evs (.mk o a x ps) w := by
   unfold evs
   exact List.map_congr_left fun p hp => ih p hp v w fun t ht => h t (List.mem_flatten.2 ⟨atF p, List.mem_map_of_mem hp, ht⟩)
  rw [he]; rfl
 ·rw [h3, if_pos rfl] at h
  have := h a (by simp)
  have e1 : o = 3 := by simpa using h3
  subst e1
  simpa using this
def zra (f : Fm) : Prop := ∀ v, evF f v = true
theorem qa6 : ∀ l : List Bool, ∃ m, m < 2 ^ l.length /\ ∀ i (h : i < l.length), m.testBit i = l[i]
 | [] => ⟨0, by simp, fun i h => by simp at h⟩
 | b :: l => by
  obtain ⟨m, h1, h2⟩ := qa6 l
  refine ⟨2 * m + b.toNat, ?_, fun i h => ?_⟩
  ·rw [List.length_cons, Nat.pow_succ]
   have : b.toNat <= 1 := by cases b <;> simp
   omega
  ·cases i with
   | zero => cases b <;> simp [Nat.testBit_zero] <;> omega
   | succ i =>
    have : (2 * m + b.toNat) / 2 = m := by cases b <;> simp <;> omega
    rw [Nat.testBit_succ, this, h2 i (by simpa using h)]
    simp
noncomputable def ixT (l : List Tm) (t : Tm) : Nat := (zfd l fun a => same a t).toNat
theorem qeo {l : List Tm} {t : Tm} (h : t ∈ l) : ∃ hi : ixT l t < l.length, l[ixT l t] = t /\ (zfd l fun a => same a t) = (ixT l t : Nat) := by
 obtain ⟨k, hk, h1, h2⟩ : ∃ k, ∃ hk : k < l.length, l[k] = t /\ ∀ x ∈ l.take k, x ≠ t := by
  induction l with
  | nil => cases h
  | cons a l ih =>
   by_cases e : a = t
   ·exact ⟨0, by simp, by simpa using e, by simp⟩
   ·have hm : t ∈ l := by
     rcases List.mem_cons.1 h with h | h
     ·exact absurd h.symm e
     ·exact h
    obtain ⟨k, hk, h1, h2⟩ := ih hm
    refine ⟨k + 1, by simpa using hk, by simpa using h1, fun x hx => ?_⟩
    rw [List.take_succ_cons] at hx
    rcases List.mem_cons.1 hx with rfl | hx
    ·exact e
    ·exact h2 x hx
 have hI : (zfd l fun a => same a t) = (k : Nat) := zc6 hk (fun x hx => zco.2 (h2 x hx)) (by rw [h1]; exact zb1 _)
 have hx : ixT l t = k := by unfold ixT; rw [hI]; rfl
 rw [hx]
 exact ⟨hk, h1, hI⟩
theorem zri {f : Fm} {l : List Tm} (hl : ∀ t ∈ atF f, t ∈ l) : (∀ m, m < 2 ^ l.length -> evF f (fun t => m.testBit (ixT l t)) = true) ↔ zra f := by
 constructor
 ·intro h v
  obtain ⟨m, h1, h2⟩ := qa6 (l.map v)
  rw [List.length_map] at h1
  rw [<- h m h1]
  refine qcd f _ _ fun t ht => ?_
  obtain ⟨hi, h3, _⟩ := qeo (hl t ht)
  have := h2 (ixT l t) (by simpa using hi)
  rw [this, List.getElem_map, h3]
 ·intro h m _
  exact h _
noncomputable def zo1 (l : List Tm) (t : Tm) : List Tm := if (l.any fun a => same a t) = true then l else l ++ [t]
theorem qhc {l : List Tm} {t x : Tm} : x ∈ zo1 l t ↔ x ∈ l \/ x = t := by
 unfold zo1
 split
 ·rename_i h
  obtain ⟨y, hy, h⟩ := List.any_eq_true.1 h
  have := zba.1 h
  subst this
  constructor
  ·exact Or.inl
  ·rintro (h | rfl)
   ·exact h
   ·exact hy
 ·rw [List.mem_append, List.mem_singleton]
theorem qnc {l : List Tm} (h : l.Nodup) (t : Tm) : (zo1 l t).Nodup := by
 unfold zo1
 split
 ·exact h
 ·rename_i h2
  rw [List.nodup_append]
  refine ⟨h, by simp, fun a ha b hb e => h2 (List.any_eq_true.2 ⟨a, ha, ?_⟩)⟩
  rw [List.mem_singleton] at hb
  rw [zba, e, hb]
theorem zk4 : ∀ (ts l : List Tm) (x : Tm), x ∈ ts.foldl zo1 l ↔ x ∈ l \/ x ∈ ts
 | [], l, x => by simp
 | t :: ts, l, x => by rw [List.foldl_cons, zk4 ts, qhc, List.mem_cons, or_assoc]
theorem zvv : ∀ (ts : List Tm) {l : List Tm}, l.Nodup -> (ts.foldl zo1 l).Nodup
 | [], _, h => h
 | t :: ts, _, h => zvv ts (qnc h t)
theorem zkf : ∀ (ts l : List Tm) (x : Tm), x ∈ ts.foldl zk1 l ↔ x ∈ l \/ x ∈ ts
 | [], l, x => by simp
 | t :: ts, l, x => by rw [List.foldl_cons, zkf ts, qhg, List.mem_cons, or_assoc]
theorem zpp : ∀ (ts : List Tm) {l : List Tm}, SrtT l -> SrtT (ts.foldl zk1 l)
 | [], _, h => h
 | t :: ts, _, h => zpp ts (qf8 h t)
noncomputable def qhj (f : Fm) : List Tm := (atF f).foldl zo1 []
noncomputable def qk7 (f : Fm) : List Tm := (atF f).foldl zk1 []
theorem qkr (f : Fm) : (qhj f).length = (qk7 f).length := by
 have h1 : (qhj f).Nodup := zvv _ List.nodup_nil
 have h2 : (qk7 f).Nodup := zx3 (zpp _ List.Pairwise.nil)
 refine List.Perm.length_eq ((List.perm_ext_iff_of_nodup h1 h2).2 fun t => ?_)
 unfold qhj qk7
 rw [zk4, zkf]
theorem qgp {f : Fm} {t : Tm} (h : t ∈ atF f) : t ∈ qhj f := (zk4 _ _ _).2 (Or.inr h)
theorem qgw {f : Fm} {t : Tm} (h : t ∈ atF f) : t ∈ qk7 f := (zkf _ _ _).2 (Or.inr h)
noncomputable def qdc (f : Fm) : Bool × Bool := if (qhj f).length <= 12 then (dec (zra f), true) else (false, false)
end Go.Proofs.YtbccfiillleimaaGreat
namespace Go.Proofs.YtbccfiillleimaaGreat
set_option linter.unusedSimpArgs false
set_option linter.unusedVariables false
set_option linter.unusedSectionVars false
set_option maxRecDepth 4000
open Go.RowKit
def zg8 : List (Bool × (List Str -> Bool × List Str)) -> List Str -> Bool × List Str
 | [], E => (true, E)
 | (c, g) :: l, E => if c = true then (if (g E).1 = true then zg8 l (g E).2 else (false, (g E).2)) else (false, E)
def Tm.zero : Tm := .mk [] []
noncomputable def zuk (f : Fm) (ts : List Tm) (i : Nat) (p : Ex) : Bool := (sbF f.var (ts.getD i Tm.zero) (f.parts.getD 0 (mkF 0 []))).2 && same (sbF f.var (ts.getD i Tm.zero) (f.parts.getD 0 (mkF 0 []))).1 p.form
noncomputable def zyw (f : Fm) (i : Nat) (p : Ex) : Bool := same (f.parts.getD i (mkF 0 [])) p.form
def sgn (f : Fm) (i : Nat) (pos : Bool) : Bool := pos != (f.op == 4 || (f.op == 7 && ((i : Int) == 0)))
noncomputable def zb0 : Ex -> Bool -> List Str -> Bool × List Str := Ex.fold fun f ts ps rs pos E =>
 if isQ f.op = true then
  (if (zb2 (.mk f ts ps) pos E).1 = true then zg8 ((ps.zip rs).mapIdx fun i q => (zuk f ts i q.1, q.2 pos)) (zb2 (.mk f ts ps) pos E).2 else (false, (zb2 (.mk f ts ps) pos E).2))
 else if ts.length = 0 /\ ps.length = f.parts.length then zg8 ((ps.zip rs).mapIdx fun i q => (zyw f i q.1, q.2 (sgn f i pos))) E
 else (false, E)
theorem ziq {α β γ : Type} (f : α -> β) (g : Nat -> α × β -> γ) (xs : List α) : (xs.zip (xs.map f)).mapIdx g = xs.mapIdx fun i x => g i (x, f x) := by
 have : xs.zip (xs.map f) = xs.map fun x => (x, f x) := by
  induction xs with
  | nil => rfl
  | cons x xs ih => rw [List.map_cons, List.zip_cons_cons, ih]; rfl
 rw [this]
 refine List.ext_getElem? fun i => ?_
 simp only [List.getElem?_mapIdx, List.getElem?_map, Option.map_map, Function.comp_def]
theorem zo3 (e : Ex) (pos : Bool) (E : List Str) : zb0 e pos E = if isQ e.form.op = true then
  (if (zb2 e pos E).1 = true then zg8 (e.parts.mapIdx fun i p => (zuk e.form e.terms i p, zb0 p pos)) (zb2 e pos E).2 else (false, (zb2 e pos E).2))
 else if e.terms.length = 0 /\ e.parts.length = e.form.parts.length then zg8 (e.parts.mapIdx fun i p => (zyw e.form i p, zb0 p (sgn e.form i pos))) E
 else (false, E) := by
 cases e with
 | mk f ts ps =>
  conv => lhs; unfold zb0; rw [Ex.fold_eq]
  simp only [ziq]
  rfl
theorem zm1 (e : Ex) (pos : Bool) (E : List Str) : (zb2 e pos E).2.length <= E.length + 1 := by
 unfold zb2
 split
 ·split
  ·split
   ·split
    ·simp
    ·exact Nat.le_succ _
   ·exact Nat.le_succ _
  ·exact Nat.le_succ _
 ·exact Nat.le_succ _
theorem zu2 (w : Nat -> Nat) : ∀ (l : List (Bool × (List Str -> Bool × List Str))) (j : Nat) (E : List Str), (∀ i (h : i < l.length) (E : List Str), (l[i].2 E).2.length <= E.length + w (j + i)) -> (zg8 l E).2.length <= E.length + ((List.range l.length).map fun i => w (j + i)).sum
 | [], _, E, _ => by simp [zg8]
 | (c, g) :: l, j, E, h => by
  have h0 := h 0 (by simp) E
  rw [Nat.add_zero] at h0
  have h0 : (g E).2.length <= E.length + w j := h0
  have ih := zu2 w l (j + 1) (g E).2 fun i hi E => by
   have := h (i + 1) (by simpa using hi) E
   rw [show j + 1 + i = j + (i + 1) by omega]
   simpa using this
  have e : ((List.range ((c, g) :: l).length).map fun i => w (j + i)).sum = w j + ((List.range l.length).map fun i => w (j + 1 + i)).sum := by
   rw [List.length_cons, List.range_succ_eq_map, List.map_cons, List.sum_cons, List.map_map]
   congr 2
   refine List.map_congr_left fun i _ => ?_
   show w (j + (i + 1)) = _
   rw [show j + (i + 1) = j + 1 + i by omega]
  rw [e]
  unfold zg8
  split
  ·split
   ·omega
   ·show (g E).2.length <= _; omega
  ·show E.length <= _; omega
theorem zqi (ps : List Ex) : ((List.range ps.length).map fun i => (ps.getD i (.mk (mkF 0 []) [] [])).nodes).sum = (ps.map Ex.nodes).sum := by
 congr 1
 refine List.ext_getElem (by simp) fun i h1 h2 => ?_
 have h2 : i < ps.length := by simpa using h2
 simp [List.getD, h2]
theorem zqd : ∀ (e : Ex) (pos : Bool) (E : List Str), (zb0 e pos E).2.length <= E.length + e.nodes := zcd fun f ts ps ih pos E => by
 rw [zo3, Ex.nodes_eq]
 have hr := zqi ps
 have key : ∀ (tst : Nat -> Ex -> Bool) (sg : Nat -> Bool) (E : List Str), (zg8 (ps.mapIdx fun i p => (tst i p, zb0 p (sg i))) E).2.length <= E.length + (ps.map Ex.nodes).sum := fun tst sg E => by
  have := zu2 (fun i => (ps.getD i (.mk (mkF 0 []) [] [])).nodes) (ps.mapIdx fun i p => (tst i p, zb0 p (sg i))) 0 E fun i h E => by
   have hi : i < ps.length := by simpa using h
   have := ih ps[i] (List.getElem_mem hi) (sg i) E
   simp only [List.getElem_mapIdx, Nat.zero_add]
   rw [List.getD_eq_getElem?_getD, List.getElem?_eq_getElem hi]
   exact this
  simp only [List.length_mapIdx, Nat.zero_add] at this
  rw [hr] at this
  exact this
 show (if isQ f.op = true then (if (zb2 (.mk f ts ps) pos E).1 = true then zg8 (ps.mapIdx fun i p => (zuk f ts i p, zb0 p pos)) (zb2 (.mk f ts ps) pos E).2 else (false, (zb2 (.mk f ts ps) pos E).2)) else if ts.length = 0 /\ ps.length = f.parts.length then zg8 (ps.mapIdx fun i p => (zyw f i p, zb0 p (sgn f i pos))) E else (false, E)).2.length <= E.length + (1 + (ps.map Ex.nodes).sum)
 have ht := zm1 (.mk f ts ps) pos E
 split
 ·split
  ·have := key (fun i p => zuk f ts i p) (fun _ => pos) (zb2 (.mk f ts ps) pos E).2
   omega
  ·show (zb2 (.mk f ts ps) pos E).2.length <= _; omega
 ·split
  ·have := key (fun i p => zyw f i p) (fun i => sgn f i pos) E
   omega
  ·show E.length <= _; omega
end Go.Proofs.YtbccfiillleimaaGreat
namespace Go.Proofs.YtbccfiillleimaaGreat
set_option linter.unusedSimpArgs false
set_option linter.unusedVariables false
set_option linter.unusedSectionVars false
set_option maxRecDepth 4000
open Go.RowKit
theorem zlc {a b : Nat} (h : a + b <= 1048576) : a + (1 + a) * b <= 1099511627776 := by
 by_cases hb : b <= 524288
 ·have : (1 + a) * b <= 1048577 * 524288 := Nat.mul_le_mul (by omega) hb
  omega
 ·have : (1 + a) * b <= 524289 * 1048576 := Nat.mul_le_mul (by omega) (by omega)
  omega
theorem zz5 (l : List (Bool × (List Str -> Bool × List Str))) (k : Nat) (h : k < l.length) (E : List Str) : zg8 (l.drop k) E = if l[k].1 = true then (if (l[k].2 E).1 = true then zg8 (l.drop (k + 1)) (l[k].2 E).2 else (false, (l[k].2 E).2)) else (false, E) := by
 rw [List.drop_eq_getElem_cons h]
 rfl
theorem zb5 {α : Type} {xs : List α} {k : Nat} (h : k < xs.length) (d : α) : xs.getD k d = xs[k] := by rw [List.getD_eq_getElem?_getD, List.getElem?_eq_getElem h]; rfl
abbrev ztx (p : Ex) (pos : Bool) (E : List Str) : Prop := PC Tryz.prog 146 [[(true, .sl 1 (E.map fun s => [.str s]))]] [.p 0, .d false (exD p), .d false (bD pos)] [[(true, .sl 1 ((zb0 p pos E).2.map fun s => [.str s]))]] [(true, bD (zb0 p pos E).1)]
theorem zty {e : Ex} {pos : Bool} {E : List Str} (h : (zb2 e pos E).1 = true) : e.parts.length = e.terms.length /\ TOk e.terms := by
 unfold zb2 at h
 split at h
 ·rename_i h0
  refine ⟨?_, zcs.1 h0⟩
  split at h
  ·split at h
   ·rename_i t ht
    split at h
    ·rw [ht]; exact of_decide_eq_true h
    ·cases h
   ·cases h
  ·exact of_decide_eq_true h
 ·cases h
theorem qdn {n : Str} {t : Tm} {f : Fm} (h : (sbF n t f).2 = true) : (sbF n t f).1.forms = true := by
 unfold sbF at h ⊢
 split at h
 ·rename_i h0
  rw [if_pos h0]
  rw [Bool.and_eq_true] at h0
  exact zdt h0.2
 ·cases h
set_option maxHeartbeats 4000000 in
theorem qmm (e : Ex) (he : e.wt <= 1048576) (hf : e.form.forms = true) (H : ∀ p ∈ e.parts, p.form.forms = true -> ∀ pos E, E.length + p.nodes <= 4194304 -> ztx p pos E) (pos : Bool) (E : List Str) (hE : E.length + e.nodes <= 4194304) : ztx e pos E := by
 have hv := zo3 e pos E
 have hW := e.wt_eq
 have hTW : zfr e.terms = e.terms.length + (e.terms.map Tm.wt).sum := rfl
 have hNe := e.nodes_eq
 have HQ := zak e.form.op
 unfold ztx
 cases hq : isQ e.form.op
 ·rw [hq, if_neg (by simp)] at hv
  rw [hq] at HQ
  have hfl : e.form.parts.length <= 1048576 := by have := e.form.wt_eq; omega
  by_cases hc : e.terms.length = 0 /\ e.parts.length = e.form.parts.length
  ·rw [if_pos hc] at hv
   obtain ⟨hc1, hc2⟩ := hc
   have hc3 : ((e.form.parts.length : Int) != (e.form.parts.length : Int)) = false := by simp
   have hps : ∀ x ∈ e.form.parts, x.forms = true := by
    rw [Fm.forms_eq, Bool.and_eq_true] at hf
    exact List.all_eq_true.1 hf.2
   simp only [exD, zai]
   refine zku Tryz.call146 Tryz.func146 rfl (by kernel_rfl) (by simp only [List.length_cons, List.length_nil, Tryz.ntmps146]; omega) (by simp only [Tryz.ntmps146]; omega) rfl rfl (by simp [zbm, T.isPin, AF.ds, bxA]) (by simp [gFS, T.fs, T.flat, AF.ds, bxA]) rfl ?_
   simp -implicitDefEqProofs only [go_sem, Tryz.results146]
   refine callF (HQ) (by simp -implicitDefEqProofs only [go_sem, hc1, hc2, hc3]) ?_
   simp -implicitDefEqProofs only [go_sem, hc1, hc2, hc3]
   refine zae (fun x : Nat × List Str => hd [(0, .one (.bx 1000000 0)), (1000000, .one (.bx 1000000 0)), (2, .one (.t (.bool pos))), (4, .one (.bx 4 0)), (7, .one (.bx 7 0)), (78, .one (.rn (exS e.parts))), (79, vI e.form.parts.length), (80, vI x.1)] [(1000000, [.ow 64 0]), (4, [.t (.int .i64 e.form.op), .t (.str e.form.atom.name), .rn (tmS e.form.atom.args), .t (.str e.form.var), .rn (fmS e.form.parts), .rn (tmS e.terms), .rn (exS e.parts)]), (7, [.t (.int .i64 e.form.op), .t (.str e.form.atom.name), .rn (tmS e.form.atom.args), .t (.str e.form.var), .rn (fmS e.form.parts)])] [(64, ⟨true, 1, x.2.map fun s => [.str s], 0, true⟩)]) (fun x => x.1 <= e.parts.length /\ zg8 ((e.parts.mapIdx fun i p => (zyw e.form i p, zb0 p (sgn e.form i pos))).drop x.1) x.2 = zb0 e pos E /\ x.2.length + zw3 Ex.nodes e.parts x.1 <= E.length + e.nodes) (fun x => e.parts.length - x.1) (0, E) (zac ?_) ⟨Nat.zero_le _, hv.symm, by rw [zdl]; show E.length + _ <= _; omega⟩ ?_
   ·simp -implicitDefEqProofs only [go_sem]
   ·rintro ⟨k, E'⟩ ⟨hk, hr, hl⟩
    simp only at hk hr hl
    by_cases hlt : k < e.parts.length
    ·have hd := zf0 Ex.nodes e.parts k hlt
     have hrk := zz5 (e.parts.mapIdx fun i p => (zyw e.form i p, zb0 p (sgn e.form i pos))) k (by simpa using hlt) E'
     rw [hr] at hrk
     simp only [List.getElem_mapIdx] at hrk
     have hkf : k < e.form.parts.length := by omega
     have htst : zyw e.form k e.parts[k] = same e.form.parts[k] e.parts[k].form := by
      unfold zyw
      rw [zb5 hkf]
     rw [htst] at hrk
     have HSm := zhf e.form.parts[k] e.parts[k].form
     have HPo := zih e.form k pos
     have hsg : (pos != (e.form.op == 4 || (e.form.op == 7 && ((k : Int) == 0)))) = sgn e.form k pos := rfl
     rw [hsg] at HPo
     simp only [fmD, zab e.form.parts[k], zab e.parts[k].form, zab e.form] at HSm HPo
     simp -implicitDefEqProofs only [go_sem, hkf, zad, hlt, zai e.parts[k]]
     cases hsm : same e.form.parts[k] e.parts[k].form
     ·rw [hsm, if_neg (by simp)] at hrk
      rw [hsm] at HSm
      rw [hrk]
      refine drawn (by kernel_rfl) ?_
      simp -implicitDefEqProofs only [go_sem, hkf, zad, zab e.form.parts[k]]
      refine zao (HSm) (by simp -implicitDefEqProofs only [go_sem]) ?_
      simp -implicitDefEqProofs only [go_sem]
      kernel_rfl
     ·rw [hsm, if_pos rfl] at hrk
      rw [hsm] at HSm
      have hpf : e.parts[k].form.forms = true := by rw [<- zba.1 hsm]; exact hps _ (List.getElem_mem hkf)
      have HC := H e.parts[k] (List.getElem_mem hlt) hpf (sgn e.form k pos) E' (by omega)
      have hnl := zqd e.parts[k] (sgn e.form k pos) E'
      unfold ztx at HC
      simp only [exD, zai e.parts[k]] at HC
      generalize hN1 : (zb0 e.parts[k] (sgn e.form k pos) E').1 = b1 at HC hrk
      generalize hN2 : (zb0 e.parts[k] (sgn e.form k pos) E').2 = E2 at HC hrk hnl
      cases hb1 : b1
      ·rw [hb1, if_neg (by simp)] at hrk
       rw [hb1] at HC
       rw [hrk]
       refine drawn (by kernel_rfl) ?_
       simp -implicitDefEqProofs only [go_sem, hkf, zad, zab e.form.parts[k]]
       refine zao (HSm) (by simp -implicitDefEqProofs only [go_sem]) ?_
       simp -implicitDefEqProofs only [go_sem]
       refine za7 (HPo) (by simp -implicitDefEqProofs only [go_sem]) ?_
       simp -implicitDefEqProofs only [go_sem]
       refine qjf 1000000 (HC) rfl (by simp -implicitDefEqProofs only [go_sem, zaz]) (by simp -implicitDefEqProofs only [go_sem, zaz]) ?_
       simp -implicitDefEqProofs only [go_sem, zaz]
       kernel_rfl
      ·rw [hb1, if_pos rfl] at hrk
       rw [hb1] at HC
       refine drawn (by kernel_rfl) ?_
       simp -implicitDefEqProofs only [go_sem, hkf, zad, zab e.form.parts[k]]
       refine zao (HSm) (by simp -implicitDefEqProofs only [go_sem]) ?_
       simp -implicitDefEqProofs only [go_sem]
       refine za7 (HPo) (by simp -implicitDefEqProofs only [go_sem]) ?_
       simp -implicitDefEqProofs only [go_sem]
       refine qjf 1000000 (HC) rfl (by simp -implicitDefEqProofs only [go_sem, zaz]) (by simp -implicitDefEqProofs only [go_sem, zaz]) ?_
       simp -implicitDefEqProofs only [go_sem, zaz]
       refine ⟨by kernel_rfl, (k + 1, E2), ⟨hlt, hrk.symm, by simp only; omega⟩, by simp only; omega, zac ?_⟩
       simp -implicitDefEqProofs only [go_sem]
       rw [zap (by omega)]
    ·have hkf : ¬ k < e.form.parts.length := by omega
     simp -implicitDefEqProofs only [go_sem, hkf]
     rw [List.drop_of_length_le (by rw [List.length_mapIdx]; omega)] at hr
     exact Or.inl ⟨by rw [<- hr]; rfl, Or.inl (by rw [<- hr]; rfl)⟩
  ·rw [if_neg hc] at hv
   rw [hv]
   simp only [exD, zai]
   by_cases hc1 : e.terms.length = 0
   ·have hc2 : ((e.parts.length : Int) != (e.form.parts.length : Int)) = true := by rw [bne_iff_ne]; omega
    refine zku Tryz.call146 Tryz.func146 rfl (by kernel_rfl) (by simp only [List.length_cons, List.length_nil, Tryz.ntmps146]; omega) (by simp only [Tryz.ntmps146]; omega) rfl rfl (by simp [zbm, T.isPin, AF.ds, bxA]) (by simp [gFS, T.fs, T.flat, AF.ds, bxA]) rfl ?_
    simp -implicitDefEqProofs only [go_sem, Tryz.results146]
    refine callF (HQ) (by simp -implicitDefEqProofs only [go_sem, hc1, hc2]) ?_
    simp -implicitDefEqProofs only [go_sem, hc1, hc2]
   ·have hc1' : (0 : Int) < (e.terms.length : Int) := by omega
    refine zku Tryz.call146 Tryz.func146 rfl (by kernel_rfl) (by simp only [List.length_cons, List.length_nil, Tryz.ntmps146]; omega) (by simp only [Tryz.ntmps146]; omega) rfl rfl (by simp [zbm, T.isPin, AF.ds, bxA]) (by simp [gFS, T.fs, T.flat, AF.ds, bxA]) rfl ?_
    simp -implicitDefEqProofs only [go_sem, Tryz.results146]
    refine callF (HQ) (by simp -implicitDefEqProofs only [go_sem, hc1']) ?_
    simp -implicitDefEqProofs only [go_sem, hc1']
 ·rw [hq, if_pos rfl] at hv
  rw [hq] at HQ
  obtain ⟨q, hp, hqf⟩ := zfx hq hf
  have HT := qnf e he pos E (by omega)
  have hTl := zm1 e pos E
  cases ht : (zb2 e pos E).1
  ·rw [ht, if_neg (by simp)] at hv
   rw [ht] at HT
   rw [hv]
   simp only [exD, zai] at HT ⊢
   refine zku Tryz.call146 Tryz.func146 rfl (by kernel_rfl) (by simp only [List.length_cons, List.length_nil, Tryz.ntmps146]; omega) (by simp only [Tryz.ntmps146]; omega) rfl rfl (by simp [zbm, T.isPin, AF.ds, bxA]) (by simp [gFS, T.fs, T.flat, AF.ds, bxA]) rfl ?_
   simp -implicitDefEqProofs only [go_sem, Tryz.results146]
   refine callF (HQ) (by simp -implicitDefEqProofs only [go_sem]) ?_
   simp -implicitDefEqProofs only [go_sem]
   refine callT 1000000 (HT) rfl (by simp -implicitDefEqProofs only [go_sem, zaz, zai e]) (by simp -implicitDefEqProofs only [go_sem, zaz, zai e]) ?_
   simp -implicitDefEqProofs only [go_sem, zaz, zai e]
  ·rw [ht, if_pos rfl] at hv
   rw [ht] at HT
   obtain ⟨hlen, _⟩ := zty ht
   generalize hE1 : (zb2 e pos E).2 = E1 at hv HT hTl
   simp only [exD, zai] at HT ⊢
   refine zku Tryz.call146 Tryz.func146 rfl (by kernel_rfl) (by simp only [List.length_cons, List.length_nil, Tryz.ntmps146]; omega) (by simp only [Tryz.ntmps146]; omega) rfl rfl (by simp [zbm, T.isPin, AF.ds, bxA]) (by simp [gFS, T.fs, T.flat, AF.ds, bxA]) rfl ?_
   simp -implicitDefEqProofs only [go_sem, Tryz.results146]
   refine callF (HQ) (by simp -implicitDefEqProofs only [go_sem]) ?_
   simp -implicitDefEqProofs only [go_sem]
   refine callT 1000000 (HT) rfl (by simp -implicitDefEqProofs only [go_sem, zaz, zai e]) (by simp -implicitDefEqProofs only [go_sem, zaz, zai e]) ?_
   simp -implicitDefEqProofs only [go_sem, zaz, zai e]
   refine zae (fun x : Nat × List Str => hd [(0, .one (.bx 1000000 0)), (1000000, .one (.bx 1000000 0)), (2, .one (.t (.bool pos))), (4, .one (.bx 4 0)), (7, .one (.bx 7 0)), (25, .one (.rn (exS e.parts))), (26, vI e.parts.length), (27, vI x.1)] [(1000000, [.ow 64 0]), (4, [.t (.int .i64 e.form.op), .t (.str e.form.atom.name), .rn (tmS e.form.atom.args), .t (.str e.form.var), .rn (fmS e.form.parts), .rn (tmS e.terms), .rn (exS e.parts)]), (7, [.t (.int .i64 e.form.op), .t (.str e.form.atom.name), .rn (tmS e.form.atom.args), .t (.str e.form.var), .rn (fmS e.form.parts)])] [(64, ⟨true, 1, x.2.map fun s => [.str s], 0, true⟩)]) (fun x => x.1 <= e.parts.length /\ zg8 ((e.parts.mapIdx fun i p => (zuk e.form e.terms i p, zb0 p pos)).drop x.1) x.2 = zb0 e pos E /\ x.2.length + zw3 Ex.nodes e.parts x.1 <= E.length + e.nodes) (fun x => e.parts.length - x.1) (0, E1) (zac ?_) ⟨Nat.zero_le _, hv.symm, by rw [zdl]; show E1.length + _ <= _; omega⟩ ?_
   ·simp -implicitDefEqProofs only [go_sem]
   ·rintro ⟨k, E'⟩ ⟨hk, hr, hl⟩
    simp only at hk hr hl
    by_cases hlt : k < e.parts.length
    ·have hd := zf0 Ex.nodes e.parts k hlt
     have hrk := zz5 (e.parts.mapIdx fun i p => (zuk e.form e.terms i p, zb0 p pos)) k (by simpa using hlt) E'
     rw [hr] at hrk
     simp only [List.getElem_mapIdx] at hrk
     have hkt : k < e.terms.length := by omega
     have hform : e.parts[k].form.wt <= e.wt := Nat.le_trans (zsn _) (zcx (List.getElem_mem hlt))
     have htw : e.terms[k].wt + e.form.wt <= 1048576 := by have := za6 Tm.wt e.terms _ (List.getElem_mem hkt); omega
     have hqw : q.wt <= e.form.wt := zby (by rw [hp]; simp)
     have HSb := zhb q e.form.var e.terms[k] (by omega) (by omega) (zlc (by omega))
     have htst : zuk e.form e.terms k e.parts[k] = ((sbF e.form.var e.terms[k] q).2 && same (sbF e.form.var e.terms[k] q).1 e.parts[k].form) := by
      unfold zuk
      rw [zb5 hkt, hp]; rfl
     rw [htst] at hrk
     have hsf : (sbF e.form.var e.terms[k] q).2 = true -> (sbF e.form.var e.terms[k] q).1.forms = true := qdn
     generalize (sbF e.form.var e.terms[k] q).1 = R at HSb hrk hsf
     generalize (sbF e.form.var e.terms[k] q).2 = ok at HSb hrk hsf
     have HSm := zhf R e.parts[k].form
     simp only [fmD, tmD, zab q, zaa e.terms[k], zab R, zab e.parts[k].form] at HSb HSm
     have e0 : (List.map fmC e.form.parts).getD 0 [] = fmC q := by rw [hp]; rfl
     have hp0 : e.form.parts.length = 1 := by rw [hp]; rfl
     simp -implicitDefEqProofs only [go_sem, hlt, zad, zai e.parts[k]]
     refine drawn (by kernel_rfl) ?_
     simp -implicitDefEqProofs only [go_sem, hp0, e0, zab q, zad, hkt, zaa e.terms[k]]
     refine zao (HSb) (by simp -implicitDefEqProofs only [go_sem]) ?_
     simp -implicitDefEqProofs only [go_sem]
     refine ⟨by kernel_rfl, ?_⟩
     cases hok : ok
     ·rw [hok, Bool.false_and, if_neg (by simp)] at hrk
      rw [hrk]
      simp -implicitDefEqProofs only [go_sem, hok]
     ·rw [hok, Bool.true_and] at hrk
      cases hsm : same R e.parts[k].form
      ·rw [hsm, if_neg (by simp)] at hrk
       rw [hsm] at HSm
       rw [hrk]
       simp -implicitDefEqProofs only [go_sem, hok]
       refine callF (HSm) (by simp -implicitDefEqProofs only [go_sem]) ?_
       simp -implicitDefEqProofs only [go_sem]
      ·rw [hsm, if_pos rfl] at hrk
       rw [hsm] at HSm
       have hpf : e.parts[k].form.forms = true := by rw [<- zba.1 hsm]; exact hsf hok
       have HC := H e.parts[k] (List.getElem_mem hlt) hpf pos E' (by omega)
       have hnl := zqd e.parts[k] pos E'
       unfold ztx at HC
       simp only [exD, zai e.parts[k]] at HC
       generalize hN1 : (zb0 e.parts[k] pos E').1 = b1 at HC hrk
       generalize hN2 : (zb0 e.parts[k] pos E').2 = E2 at HC hrk hnl
       cases hb1 : b1
       ·rw [hb1, if_neg (by simp)] at hrk
        rw [hb1] at HC
        rw [hrk]
        simp -implicitDefEqProofs only [go_sem, hok]
        refine callF (HSm) (by simp -implicitDefEqProofs only [go_sem]) ?_
        simp -implicitDefEqProofs only [go_sem]
        refine callT 1000000 (HC) rfl (by simp -implicitDefEqProofs only [go_sem, zaz]) (by simp -implicitDefEqProofs only [go_sem, zaz]) ?_
        simp -implicitDefEqProofs only [go_sem, zaz]
       ·rw [hb1, if_pos rfl] at hrk
        rw [hb1] at HC
        simp -implicitDefEqProofs only [go_sem, hok]
        refine callF (HSm) (by simp -implicitDefEqProofs only [go_sem]) ?_
        simp -implicitDefEqProofs only [go_sem]
        refine callT 1000000 (HC) rfl (by simp -implicitDefEqProofs only [go_sem, zaz]) (by simp -implicitDefEqProofs only [go_sem, zaz]) ?_
        simp -implicitDefEqProofs only [go_sem, zaz]
        refine ⟨(k + 1, E2), ⟨hlt, hrk.symm, by simp only; omega⟩, by simp only; omega, zac ?_⟩
        simp -implicitDefEqProofs only [go_sem]
        rw [zap (by omega)]
        trace_state
    ·simp -implicitDefEqProofs only [go_sem, hlt]
     rw [List.drop_of_length_le (by rw [List.length_mapIdx]; omega)] at hr
     exact Or.inl ⟨by rw [<- hr]; rfl, Or.inl (by rw [<- hr]; rfl)⟩
theorem node_c : ∀ e : Ex, e.wt <= 1048576 -> e.form.forms = true -> ∀ pos E, E.length + e.nodes <= 4194304 -> ztx e pos E :=
 zcd fun f ts ps ih he hf pos E hE => qmm (.mk f ts ps) he hf (fun p hp hpf pos E hE => ih p hp (Nat.le_trans (zcx (a := .mk f ts ps) hp) he) hpf pos E hE) pos E hE
end Go.Proofs.YtbccfiillleimaaGreat
namespace Go.Proofs.YtbccfiillleimaaGreat
set_option linter.unusedSimpArgs false
set_option linter.unusedVariables false
set_option linter.unusedSectionVars false
set_option maxRecDepth 4000
open Go.RowKit
theorem zge (n : Str) (t : Tm) : ∀ f : Fm, f.forms = true -> (zbe n t f).2 = true -> (zbe n t f).1.forms = true := zbr fun o a v ps ih hf h => by
 have hP := zob n t (.mk o a v ps)
 have hf0 := hf
 rw [Fm.forms_eq, Bool.and_eq_true] at hf0
 obtain ⟨hh, hps⟩ := hf0
 have hps : ∀ x ∈ ps, x.forms = true := List.all_eq_true.1 hps
 cases h3 : o == 3
 ·have ha : a = .mk [] [] := zkq hh h3
  rw [hP] at h ⊢
  change (if (o == 3) = true then _ else if (isQ o && _) = true then _ else if (isQ o && _) = true then _ else (Fm.mk o (.mk [] []) v ((ps.takeWhile fun x => (zbe n t x).2).map fun x => (zbe n t x).1), ps.all fun x => (zbe n t x).2) : Fm × Bool).2 = true at h
  change (if (o == 3) = true then _ else if (isQ o && _) = true then _ else if (isQ o && _) = true then _ else (Fm.mk o (.mk [] []) v ((ps.takeWhile fun x => (zbe n t x).2).map fun x => (zbe n t x).1), ps.all fun x => (zbe n t x).2) : Fm × Bool).1.forms = true
  rw [h3, if_neg (by simp)] at h ⊢
  split
  ·exact hf
  ·rename_i h1
   rw [if_neg h1] at h
   split
   ·rename_i h2
    rw [if_pos h2] at h; cases h
   ·rename_i h2
    rw [if_neg h2] at h
    have h1 : (ps.all fun x => (zbe n t x).2) = true := h
    have hA := List.all_eq_true.1 h1
    have hw : (ps.takeWhile fun x => (zbe n t x).2) = ps := by
     have := (zcf (l := ps) (p := fun x => (zbe n t x).2) (k := ps.length) (Nat.le_refl _) (by rw [List.take_length]; exact hA) fun h => absurd h (Nat.lt_irrefl _)).1
     rw [this, List.take_length]
    rw [hw, <- ha]
    show (Fm.mk o a v (ps.map fun x => (zbe n t x).1)).forms = true
    rw [zgv, Bool.and_eq_true]
    refine ⟨zks (f := .mk o a v ps) hh h3 (by show (ps.map _).length = ps.length; rw [List.length_map]), List.all_eq_true.2 fun y hy => ?_⟩
    obtain ⟨x, hx, rfl⟩ := List.mem_map.1 hy
    exact ih x hx (hps x hx) (hA x hx)
 ·have ho3 : o = 3 := by simpa using h3
  rw [hP] at h ⊢
  change (if (o == 3) = true then (Fm.mk o (zej (bnd n t) a) v [], (zej (bnd n t) a).atomOk) else _ : Fm × Bool).2 = true at h
  change (if (o == 3) = true then (Fm.mk o (zej (bnd n t) a) v [], (zej (bnd n t) a).atomOk) else _ : Fm × Bool).1.forms = true
  rw [h3, if_pos rfl] at h ⊢
  have h9 : (zej (bnd n t) a).atomOk = true := h
  show (Fm.mk o (zej (bnd n t) a) v []).forms = true
  rw [zgv, Bool.and_eq_true]
  refine ⟨?_, rfl⟩
  subst ho3
  unfold Fm.here at hh ⊢
  change (decide (ps.length = 0) && a.atomOk && (v == [])) = true at hh
  change (decide (([] : List Fm).length = 0) && (zej (bnd n t) a).atomOk && (v == [])) = true
  simp only [Bool.and_eq_true] at hh
  rw [h9, hh.2]; rfl
noncomputable def zln (f : Fm) (ts : List Tm) (i : Nat) (p : Ex) : Bool := (ts.getD i Tm.zero).good && !((ts.take i).any fun a => same a (ts.getD i Tm.zero)) && (zbe f.var (ts.getD i Tm.zero) (f.parts.getD 0 (mkF 0 []))).2 && same p.form (zbe f.var (ts.getD i Tm.zero) (f.parts.getD 0 (mkF 0 []))).1
def za0 (f : Fm) (pos : Bool) : Bool := isQ f.op && ((f.op == 8) == pos)
noncomputable def zbg : Ex -> Bool -> Bool := Ex.fold fun f ts ps rs pos =>
 if isQ f.op = true then decide (ts.length = ps.length) && (!za0 f pos || (decide (ts.length = 1) && za2 (ts.getD 0 Tm.zero).name)) && ((ps.zip rs).mapIdx fun i q => (zln f ts i q.1 && q.2 pos)).all id
 else decide (ts.length = 0) && decide (ps.length = f.parts.length) && ((ps.zip rs).mapIdx fun i q => (same q.1.form (f.parts.getD i (mkF 0 [])) && q.2 (sgn f i pos))).all id
theorem zd9 (e : Ex) (pos : Bool) : zbg e pos = if isQ e.form.op = true then decide (e.terms.length = e.parts.length) && (!za0 e.form pos || (decide (e.terms.length = 1) && za2 (e.terms.getD 0 Tm.zero).name)) && (e.parts.mapIdx fun i p => (zln e.form e.terms i p && zbg p pos)).all id
 else decide (e.terms.length = 0) && decide (e.parts.length = e.form.parts.length) && (e.parts.mapIdx fun i p => (same p.form (e.form.parts.getD i (mkF 0 [])) && zbg p (sgn e.form i pos))).all id := by
 cases e with
 | mk f ts ps =>
  conv => lhs; unfold zbg; rw [Ex.fold_eq]
  simp only [ziq]
  rfl
theorem zfl {L : List Bool} {k : Nat} (h : k < L.length) (hf : L[k] = false) : L.all id = false := by
 rw [List.all_eq_false]; exact ⟨_, List.getElem_mem h, by simp [hf]⟩
theorem ztc {L : List Bool} (h : ∀ k (h : k < L.length), L[k] = true) : L.all id = true := by
 rw [List.all_eq_true]; intro x hx; obtain ⟨k, hk, rfl⟩ := List.getElem_of_mem hx; exact h k hk
theorem znz {L : List Bool} {k : Nat} (hT : ∀ j, j < k -> ∀ h : j < L.length, L[j] = true) {hk : k < L.length} (h1 : L[k] = true) : ∀ j, j < k + 1 -> ∀ h : j < L.length, L[j] = true := fun j hj h => by
 by_cases e : j = k
 ·subst e; exact h1
 ·exact hT j (by omega) h
end Go.Proofs.YtbccfiillleimaaGreat
namespace Go.Proofs.YtbccfiillleimaaGreat
set_option linter.unusedSimpArgs false
set_option linter.unusedVariables false
set_option linter.unusedSectionVars false
set_option maxRecDepth 4000
open Go.RowKit
abbrev ziy (p : Ex) (pos : Bool) : Prop := FC Tryz.prog 137 [exD p, bD pos] [bD (zbg p pos)]
set_option maxHeartbeats 4000000 in
theorem zxn (e : Ex) (he : e.wt <= 1048576) (hf : e.form.forms = true) (H : ∀ p ∈ e.parts, p.form.forms = true -> ∀ pos, ziy p pos) (pos : Bool) : ziy e pos := by
 have hv := zd9 e pos
 have hW := e.wt_eq
 have hTW : zfr e.terms = e.terms.length + (e.terms.map Tm.wt).sum := rfl
 have HQ := zd2 e.form
 have hfl : e.form.parts.length <= 1048576 := by have := e.form.wt_eq; omega
 unfold ziy
 cases hq : isQ e.form.op
 ·rw [hq, if_neg (by simp)] at hv
  rw [hq] at HQ
  by_cases hc1 : e.terms.length = 0
  ·by_cases hc2 : e.parts.length = e.form.parts.length
   ·rw [show decide (e.terms.length = 0) = true by simp [hc1], show decide (e.parts.length = e.form.parts.length) = true by simp [hc2], Bool.true_and, Bool.true_and] at hv
    have hc3 : ((e.form.parts.length : Int) != (e.form.parts.length : Int)) = false := by simp
    have hps : ∀ x ∈ e.form.parts, x.forms = true := by
     rw [Fm.forms_eq, Bool.and_eq_true] at hf
     exact List.all_eq_true.1 hf.2
    generalize hL : (e.parts.mapIdx fun i p => (same p.form (e.form.parts.getD i (mkF 0 [])) && zbg p (sgn e.form i pos))) = L at hv
    have hLl : L.length = e.parts.length := by rw [<- hL, List.length_mapIdx]
    simp only [exD, zai, fmD, zab e.form] at HQ ⊢
    refine zaj Tryz.call137 Tryz.func137 rfl (by kernel_rfl) (zav (by kernel_rfl)) ?_
    simp -implicitDefEqProofs only [go_sem, Tryz.results137]
    refine callF (HQ) (by simp -implicitDefEqProofs only [go_sem, hc1, hc2, hc3]) ?_
    simp -implicitDefEqProofs only [go_sem, hc1, hc2, hc3]
    refine zae (fun k : Nat => hd [(1, vT (.bool pos)), (2, .one (.bx 2 0)), (5, .one (.bx 5 0)), (6, vI k)] [(2, [.t (.int .i64 e.form.op), .t (.str e.form.atom.name), .t (tmS e.form.atom.args), .t (.str e.form.var), .t (fmS e.form.parts), .t (tmS e.terms), .t (exS e.parts)]), (5, [.t (.int .i64 e.form.op), .t (.str e.form.atom.name), .t (tmS e.form.atom.args), .t (.str e.form.var), .t (fmS e.form.parts)])] []) (fun k => k <= e.parts.length /\ ∀ j, j < k -> ∀ h : j < L.length, L[j] = true) (fun k => e.parts.length - k) 0 (zac ?_) ⟨Nat.zero_le _, fun j hj => by omega⟩ ?_
    ·simp -implicitDefEqProofs only [go_sem]
    ·rintro k ⟨hk, hT⟩
     by_cases hlt : k < e.parts.length
     ·have hkf : k < e.form.parts.length := by omega
      have hkL : k < L.length := by omega
      have hLk : L[k] = (same e.parts[k].form e.form.parts[k] && zbg e.parts[k] (sgn e.form k pos)) := by
       simp only [<- hL, List.getElem_mapIdx]
       rw [zb5 hkf]
      have HSm := zn8 e.parts[k].form e.form.parts[k]
      have HPo := zet e.form k pos
      have hsg : (pos != (e.form.op == 4 || (e.form.op == 7 && ((k : Int) == 0)))) = sgn e.form k pos := rfl
      rw [hsg] at HPo
      simp only [fmD, zab e.form.parts[k], zab e.parts[k].form, zab e.form] at HSm HPo
      cases hsm : same e.parts[k].form e.form.parts[k]
      ·rw [hsm, Bool.false_and] at hLk
       rw [hsm] at HSm
       rw [hv, zfl hkL hLk]
       simp -implicitDefEqProofs only [go_sem, hc2, hkf]
       refine drawn (by kernel_rfl) ?_
       simp -implicitDefEqProofs only [go_sem, hlt, hkf, zad, zab e.form.parts[k], zai e.parts[k]]
       refine zao (HSm) (by simp -implicitDefEqProofs only [go_sem]) ?_
       simp -implicitDefEqProofs only [go_sem]
       kernel_rfl
      ·rw [hsm, Bool.true_and] at hLk
       rw [hsm] at HSm
       have hpf : e.parts[k].form.forms = true := by rw [zba.1 hsm]; exact hps _ (List.getElem_mem hkf)
       have HC := H e.parts[k] (List.getElem_mem hlt) hpf (sgn e.form k pos)
       unfold ziy at HC
       simp only [exD, zai e.parts[k]] at HC
       cases hb : zbg e.parts[k] (sgn e.form k pos)
       ·rw [hb] at hLk HC
        rw [hv, zfl hkL hLk]
        simp -implicitDefEqProofs only [go_sem, hc2, hkf]
        refine drawn (by kernel_rfl) ?_
        simp -implicitDefEqProofs only [go_sem, hlt, hkf, zad, zab e.form.parts[k], zai e.parts[k]]
        refine zao (HSm) (by simp -implicitDefEqProofs only [go_sem, hlt, hkf, hc2, zad, zai e.parts[k]]) ?_
        simp -implicitDefEqProofs only [go_sem, hlt, hkf, hc2, zad, zai e.parts[k]]
        refine za7 (HPo) (by simp -implicitDefEqProofs only [go_sem]) ?_
        simp -implicitDefEqProofs only [go_sem]
        refine za7 (HC) (by simp -implicitDefEqProofs only [go_sem]) ?_
        simp -implicitDefEqProofs only [go_sem]
        kernel_rfl
       ·rw [hb] at hLk HC
        simp -implicitDefEqProofs only [go_sem, hc2, hkf]
        refine drawn (by kernel_rfl) ?_
        simp -implicitDefEqProofs only [go_sem, hlt, hkf, zad, zab e.form.parts[k], zai e.parts[k]]
        refine zao (HSm) (by simp -implicitDefEqProofs only [go_sem, hlt, hkf, hc2, zad, zai e.parts[k]]) ?_
        simp -implicitDefEqProofs only [go_sem, hlt, hkf, hc2, zad, zai e.parts[k]]
        refine za7 (HPo) (by simp -implicitDefEqProofs only [go_sem]) ?_
        simp -implicitDefEqProofs only [go_sem]
        refine za7 (HC) (by simp -implicitDefEqProofs only [go_sem]) ?_
        simp -implicitDefEqProofs only [go_sem]
        refine ⟨by kernel_rfl, k + 1, ⟨by omega, znz hT hLk⟩, by omega, zac ?_⟩
        simp -implicitDefEqProofs only [go_sem]
        rw [zap (by omega)]
     ·have hkf : ¬ k < e.form.parts.length := by omega
      rw [hv, ztc fun j hj => hT j (by omega) hj]
      simp -implicitDefEqProofs only [go_sem, hc2, hkf]
   ·rw [show decide (e.parts.length = e.form.parts.length) = false by simp [hc2], Bool.and_false, Bool.false_and] at hv
    rw [hv]
    have hc3 : ((e.parts.length : Int) != (e.form.parts.length : Int)) = true := by rw [bne_iff_ne]; omega
    simp only [exD, zai, fmD, zab e.form] at HQ ⊢
    refine zaj Tryz.call137 Tryz.func137 rfl (by kernel_rfl) (zav (by kernel_rfl)) ?_
    simp -implicitDefEqProofs only [go_sem, Tryz.results137]
    refine callF (HQ) (by simp -implicitDefEqProofs only [go_sem, hc1, hc3]) ?_
    simp -implicitDefEqProofs only [go_sem, hc1, hc3]
  ·rw [show decide (e.terms.length = 0) = false by simp [hc1], Bool.false_and, Bool.false_and] at hv
   rw [hv]
   have hc1' : (0 : Int) < (e.terms.length : Int) := by omega
   simp only [exD, zai, fmD, zab e.form] at HQ ⊢
   refine zaj Tryz.call137 Tryz.func137 rfl (by kernel_rfl) (zav (by kernel_rfl)) ?_
   simp -implicitDefEqProofs only [go_sem, Tryz.results137]
   refine callF (HQ) (by simp -implicitDefEqProofs only [go_sem, hc1']) ?_
   simp -implicitDefEqProofs only [go_sem, hc1']
 ·rw [hq, if_pos rfl] at hv
  rw [hq] at HQ
  obtain ⟨q, hp, hqf⟩ := zfx hq hf
  have HSt := zfa e.form pos
  have hse : za0 e.form pos = ((e.form.op == 8) == pos) := by unfold za0; rw [hq, Bool.true_and]
  rw [hq, Bool.true_and, <- hse] at HSt
  by_cases hlen : e.terms.length = e.parts.length
  ·rw [show decide (e.terms.length = e.parts.length) = true by simp [hlen], Bool.true_and] at hv
   have hne : ((e.terms.length : Int) != (e.parts.length : Int)) = false := by rw [hlen]; simp
   generalize hL : (e.parts.mapIdx fun i p => (zln e.form e.terms i p && zbg p pos)) = L at hv
   have hLl : L.length = e.parts.length := by rw [<- hL, List.length_mapIdx]
   simp only [exD, zai, fmD, zab e.form] at HQ HSt ⊢
   cases hst : za0 e.form pos
   ·rw [hst] at hv HSt
    simp only [Bool.not_false, Bool.true_or, Bool.true_and] at hv
    refine zaj Tryz.call137 Tryz.func137 rfl (by kernel_rfl) (zav (by kernel_rfl)) ?_
    simp -implicitDefEqProofs only [go_sem, Tryz.results137]
    refine callF (HQ) (by simp -implicitDefEqProofs only [go_sem, hne]) ?_
    simp -implicitDefEqProofs only [go_sem, hne]
    refine callF (HSt) (by simp -implicitDefEqProofs only [go_sem]) ?_
    simp -implicitDefEqProofs only [go_sem]
    refine zae (fun k : Nat => hd [(1, vT (.bool pos)), (2, .one (.bx 2 0)), (5, .one (.bx 5 0)), (7, vI k)] [(2, [.t (.int .i64 e.form.op), .t (.str e.form.atom.name), .t (tmS e.form.atom.args), .t (.str e.form.var), .t (fmS e.form.parts), .t (tmS e.terms), .t (exS e.parts)]), (5, [.t (.int .i64 e.form.op), .t (.str e.form.atom.name), .t (tmS e.form.atom.args), .t (.str e.form.var), .t (fmS e.form.parts)])] []) (fun k => k <= e.parts.length /\ ∀ j, j < k -> ∀ h : j < L.length, L[j] = true) (fun k => e.parts.length - k) 0 (zac ?_) ⟨Nat.zero_le _, fun j hj => by omega⟩ ?_
    ·simp -implicitDefEqProofs only [go_sem]
    ·rintro k ⟨hk, hT⟩
     by_cases hlt : k < e.parts.length
     ·have hkt : k < e.terms.length := by omega
      have hkL : k < L.length := by omega
      have htw : e.terms[k].wt + e.form.wt <= 1048576 := by have := za6 Tm.wt e.terms _ (List.getElem_mem hkt); omega
      have hqw : q.wt <= e.form.wt := zby (by rw [hp]; simp)
      have htk : zln e.form e.terms k e.parts[k] = (e.terms[k].good && !((e.terms.take k).any fun a => same a e.terms[k]) && (zbe e.form.var e.terms[k] q).2 && same e.parts[k].form (zbe e.form.var e.terms[k] q).1) := by
       unfold zln
       rw [zb5 hkt, hp]
       rfl
      have hLk : L[k] = (e.terms[k].good && !((e.terms.take k).any fun a => same a e.terms[k]) && (zbe e.form.var e.terms[k] q).2 && same e.parts[k].form (zbe e.form.var e.terms[k] q).1 && zbg e.parts[k] pos) := by
       simp only [<- hL, List.getElem_mapIdx]
       rw [htk]
      have HV := zoq e.terms[k] (by omega)
      have HI := zig (e.terms.take k) e.terms[k]
      have hi2 := zsy (e.terms.take k) fun a => same a e.terms[k]
      have HPt := qda e.form.var e.terms[k] (by omega) q hqf (by omega) (zlc (by omega))
      have hpff := zge e.form.var e.terms[k] q hqf
      generalize (zbe e.form.var e.terms[k] q).1 = R at HPt hLk hpff
      generalize (zbe e.form.var e.terms[k] q).2 = ok at HPt hLk hpff
      have HSm := zn8 e.parts[k].form R
      have eT : tmS (e.terms.take k) = .sl 2 ((e.terms.map tmC).take k) := by unfold tmS; rw [List.map_take]
      rw [eT] at HI
      have e0 : (List.map fmC e.form.parts).getD 0 [] = fmC q := by rw [hp]; rfl
      have hp0 : e.form.parts.length = 1 := by rw [hp]; rfl
      simp only [tmD, fmD, zaa e.terms[k], zab q, zab R, zab e.parts[k].form] at HV HI HPt HSm
      cases hg : e.terms[k].good
      ·rw [hg] at hLk HV
       simp only [Bool.false_and] at hLk
       rw [hv, zfl hkL hLk]
       simp -implicitDefEqProofs only [go_sem, hkt]
       refine drawn (by kernel_rfl) ?_
       simp -implicitDefEqProofs only [go_sem, hkt, zad, zaa e.terms[k]]
       refine zao (HV) (by simp -implicitDefEqProofs only [go_sem]) ?_
       simp -implicitDefEqProofs only [go_sem]
       kernel_rfl
      ·rw [hg] at HV
       cases hi : (e.terms.take k).any fun a => same a e.terms[k]
       ·rw [hi] at hi2
        cases hok : ok
        ·rw [hg, hi, hok] at hLk
         simp only [Bool.and_false, Bool.false_and] at hLk
         rw [hv, zfl hkL hLk]
         rw [hok] at HPt
         simp -implicitDefEqProofs only [go_sem, hkt]
         refine drawn (by kernel_rfl) ?_
         simp -implicitDefEqProofs only [go_sem, hkt, zad, zaa e.terms[k]]
         refine zao (HV) (by simp -implicitDefEqProofs only [go_sem, hkt, zad, zaa e.terms[k]]) ?_
         simp -implicitDefEqProofs only [go_sem, hkt, zad, zaa e.terms[k]]
         refine ⟨by omega, ?_⟩
         refine za7 (HI) (by simp -implicitDefEqProofs only [go_sem, hi2]) ?_
         simp -implicitDefEqProofs only [go_sem, hi2]
         refine ⟨by kernel_rfl, ?_⟩
         refine drawn (by kernel_rfl) ?_
         simp -implicitDefEqProofs only [go_sem, hp0, e0, zab q, hkt, zad, zaa e.terms[k]]
         refine zao (HPt) (by simp -implicitDefEqProofs only [go_sem]) ?_
         simp -implicitDefEqProofs only [go_sem]
         refine ⟨by kernel_rfl, ?_⟩
         refine drawn (by kernel_rfl) ?_
         simp -implicitDefEqProofs only [go_sem]
         kernel_rfl
        ·rw [hok] at HPt
         cases hsm : same e.parts[k].form R
         ·rw [hg, hi, hok, hsm] at hLk
          simp only [Bool.and_false, Bool.false_and] at hLk
          rw [hv, zfl hkL hLk]
          rw [hsm] at HSm
          simp -implicitDefEqProofs only [go_sem, hkt]
          refine drawn (by kernel_rfl) ?_
          simp -implicitDefEqProofs only [go_sem, hkt, zad, zaa e.terms[k]]
          refine zao (HV) (by simp -implicitDefEqProofs only [go_sem, hkt, zad, zaa e.terms[k]]) ?_
          simp -implicitDefEqProofs only [go_sem, hkt, zad, zaa e.terms[k]]
          refine ⟨by omega, ?_⟩
          refine za7 (HI) (by simp -implicitDefEqProofs only [go_sem, hi2]) ?_
          simp -implicitDefEqProofs only [go_sem, hi2]
          refine ⟨by kernel_rfl, ?_⟩
          refine drawn (by kernel_rfl) ?_
          simp -implicitDefEqProofs only [go_sem, hp0, e0, zab q, hkt, zad, zaa e.terms[k]]
          refine zao (HPt) (by simp -implicitDefEqProofs only [go_sem]) ?_
          simp -implicitDefEqProofs only [go_sem]
          refine ⟨by kernel_rfl, ?_⟩
          refine drawn (by kernel_rfl) ?_
          simp -implicitDefEqProofs only [go_sem, hlt, zad, zai e.parts[k]]
          refine za7 (HSm) (by simp -implicitDefEqProofs only [go_sem]) ?_
          simp -implicitDefEqProofs only [go_sem]
          kernel_rfl
         ·have hpf : e.parts[k].form.forms = true := by rw [zba.1 hsm]; exact hpff hok
          have HC := H e.parts[k] (List.getElem_mem hlt) hpf pos
          unfold ziy at HC
          simp only [exD, zai e.parts[k]] at HC
          rw [hg, hi, hok, hsm] at hLk
          simp only [Bool.not_false, Bool.and_true, Bool.true_and] at hLk
          rw [hsm] at HSm
          cases hb : zbg e.parts[k] pos
          ·rw [hb] at hLk HC
           rw [hv, zfl hkL hLk]
           simp -implicitDefEqProofs only [go_sem, hkt]
           refine drawn (by kernel_rfl) ?_
           simp -implicitDefEqProofs only [go_sem, hkt, zad, zaa e.terms[k]]
           refine zao (HV) (by simp -implicitDefEqProofs only [go_sem, hkt, zad, zaa e.terms[k]]) ?_
           simp -implicitDefEqProofs only [go_sem, hkt, zad, zaa e.terms[k]]
           refine ⟨by omega, ?_⟩
           refine za7 (HI) (by simp -implicitDefEqProofs only [go_sem, hi2]) ?_
           simp -implicitDefEqProofs only [go_sem, hi2]
           refine ⟨by kernel_rfl, ?_⟩
           refine drawn (by kernel_rfl) ?_
           simp -implicitDefEqProofs only [go_sem, hp0, e0, zab q, hkt, zad, zaa e.terms[k]]
           refine zao (HPt) (by simp -implicitDefEqProofs only [go_sem]) ?_
           simp -implicitDefEqProofs only [go_sem]
           refine ⟨by kernel_rfl, ?_⟩
           refine drawn (by kernel_rfl) ?_
           simp -implicitDefEqProofs only [go_sem, hlt, zad, zai e.parts[k]]
           refine za7 (HSm) (by simp -implicitDefEqProofs only [go_sem, hlt, zad, zai e.parts[k]]) ?_
           simp -implicitDefEqProofs only [go_sem, hlt, zad, zai e.parts[k]]
           refine za7 (HC) (by simp -implicitDefEqProofs only [go_sem]) ?_
           simp -implicitDefEqProofs only [go_sem]
           kernel_rfl
          ·rw [hb] at hLk HC
           simp -implicitDefEqProofs only [go_sem, hkt]
           refine drawn (by kernel_rfl) ?_
           simp -implicitDefEqProofs only [go_sem, hkt, zad, zaa e.terms[k]]
           refine zao (HV) (by simp -implicitDefEqProofs only [go_sem, hkt, zad, zaa e.terms[k]]) ?_
           simp -implicitDefEqProofs only [go_sem, hkt, zad, zaa e.terms[k]]
           refine ⟨by omega, ?_⟩
           refine za7 (HI) (by simp -implicitDefEqProofs only [go_sem, hi2]) ?_
           simp -implicitDefEqProofs only [go_sem, hi2]
           refine ⟨by kernel_rfl, ?_⟩
           refine drawn (by kernel_rfl) ?_
           simp -implicitDefEqProofs only [go_sem, hp0, e0, zab q, hkt, zad, zaa e.terms[k]]
           refine zao (HPt) (by simp -implicitDefEqProofs only [go_sem]) ?_
           simp -implicitDefEqProofs only [go_sem]
           refine ⟨by kernel_rfl, ?_⟩
           refine drawn (by kernel_rfl) ?_
           simp -implicitDefEqProofs only [go_sem, hlt, zad, zai e.parts[k]]
           refine za7 (HSm) (by simp -implicitDefEqProofs only [go_sem, hlt, zad, zai e.parts[k]]) ?_
           simp -implicitDefEqProofs only [go_sem, hlt, zad, zai e.parts[k]]
           refine za7 (HC) (by simp -implicitDefEqProofs only [go_sem]) ?_
           simp -implicitDefEqProofs only [go_sem]
           refine ⟨by kernel_rfl, k + 1, ⟨by omega, znz hT hLk⟩, by omega, zac ?_⟩
           simp -implicitDefEqProofs only [go_sem]
           rw [zap (by omega)]
       ·rw [hg, hi] at hLk
        rw [hi] at hi2
        simp only [Bool.not_true, Bool.and_false, Bool.false_and] at hLk
        rw [hv, zfl hkL hLk]
        simp -implicitDefEqProofs only [go_sem, hkt]
        refine drawn (by kernel_rfl) ?_
        simp -implicitDefEqProofs only [go_sem, hkt, zad, zaa e.terms[k]]
        refine zao (HV) (by simp -implicitDefEqProofs only [go_sem, hkt, zad, zaa e.terms[k]]) ?_
        simp -implicitDefEqProofs only [go_sem, hkt, zad, zaa e.terms[k]]
        refine ⟨by omega, ?_⟩
        refine za7 (HI) (by simp -implicitDefEqProofs only [go_sem, hi2]) ?_
        simp -implicitDefEqProofs only [go_sem, hi2]
        kernel_rfl
     ·have hkt : ¬ k < e.terms.length := by omega
      rw [hv, ztc fun j hj => hT j (by omega) hj]
      simp -implicitDefEqProofs only [go_sem, hkt]
   ·rw [hst] at hv HSt
    simp only [Bool.not_true, Bool.false_or] at hv
    by_cases h1 : e.terms.length = 1
    ·obtain ⟨t, ht⟩ := List.length_eq_one_iff.1 h1
     have hgd : e.terms.getD 0 Tm.zero = t := by rw [ht]; rfl
     rw [show decide (e.terms.length = 1) = true by simp [h1], hgd, Bool.true_and] at hv
     have HVr := zf5 t.name
     have e0 : (List.map tmC e.terms).getD 0 [] = tmC t := by rw [ht]; rfl
     have h1p : e.parts.length = 1 := by omega
     have hne1 : ((1 : Int) != (e.parts.length : Int)) = false := by rw [h1p]; rfl
     cases hvv : za2 t.name
     ·rw [hvv, Bool.false_and] at hv
      rw [hvv] at HVr
      rw [hv]
      refine zaj Tryz.call137 Tryz.func137 rfl (by kernel_rfl) (zav (by kernel_rfl)) ?_
      simp -implicitDefEqProofs only [go_sem, Tryz.results137]
      refine callF (HQ) (by simp -implicitDefEqProofs only [go_sem, h1, h1p, hne1]) ?_
      simp -implicitDefEqProofs only [go_sem, h1, h1p, hne1]
      refine callF (HSt) (by simp -implicitDefEqProofs only [go_sem, h1, h1p, e0, zaa t]) ?_
      simp -implicitDefEqProofs only [go_sem, h1, h1p, e0, zaa t]
      refine callF (HVr) (by simp -implicitDefEqProofs only [go_sem]) ?_
      simp -implicitDefEqProofs only [go_sem]
     ·rw [hvv, Bool.true_and] at hv
      rw [hvv] at HVr
      refine zaj Tryz.call137 Tryz.func137 rfl (by kernel_rfl) (zav (by kernel_rfl)) ?_
      simp -implicitDefEqProofs only [go_sem, Tryz.results137]
      refine callF (HQ) (by simp -implicitDefEqProofs only [go_sem, h1, h1p, hne1]) ?_
      simp -implicitDefEqProofs only [go_sem, h1, h1p, hne1]
      refine callF (HSt) (by simp -implicitDefEqProofs only [go_sem, h1, h1p, e0, zaa t]) ?_
      simp -implicitDefEqProofs only [go_sem, h1, h1p, e0, zaa t]
      refine callF (HVr) (by simp -implicitDefEqProofs only [go_sem]) ?_
      simp -implicitDefEqProofs only [go_sem]
      refine zae (fun k : Nat => hd [(1, vT (.bool pos)), (2, .one (.bx 2 0)), (5, .one (.bx 5 0)), (7, vI k)] [(2, [.t (.int .i64 e.form.op), .t (.str e.form.atom.name), .t (tmS e.form.atom.args), .t (.str e.form.var), .t (fmS e.form.parts), .t (tmS e.terms), .t (exS e.parts)]), (5, [.t (.int .i64 e.form.op), .t (.str e.form.atom.name), .t (tmS e.form.atom.args), .t (.str e.form.var), .t (fmS e.form.parts)])] []) (fun k => k <= e.parts.length /\ ∀ j, j < k -> ∀ h : j < L.length, L[j] = true) (fun k => e.parts.length - k) 0 (zac ?_) ⟨Nat.zero_le _, fun j hj => by omega⟩ ?_
      ·simp -implicitDefEqProofs only [go_sem]
      ·rintro k ⟨hk, hT⟩
       by_cases hlt : k < e.parts.length
       ·have hkt : k < e.terms.length := by omega
        have hkL : k < L.length := by omega
        have htw : e.terms[k].wt + e.form.wt <= 1048576 := by have := za6 Tm.wt e.terms _ (List.getElem_mem hkt); omega
        have hqw : q.wt <= e.form.wt := zby (by rw [hp]; simp)
        have htk : zln e.form e.terms k e.parts[k] = (e.terms[k].good && !((e.terms.take k).any fun a => same a e.terms[k]) && (zbe e.form.var e.terms[k] q).2 && same e.parts[k].form (zbe e.form.var e.terms[k] q).1) := by
         unfold zln
         rw [zb5 hkt, hp]
         rfl
        have hLk : L[k] = (e.terms[k].good && !((e.terms.take k).any fun a => same a e.terms[k]) && (zbe e.form.var e.terms[k] q).2 && same e.parts[k].form (zbe e.form.var e.terms[k] q).1 && zbg e.parts[k] pos) := by
         simp only [<- hL, List.getElem_mapIdx]
         rw [htk]
        have HV := zoq e.terms[k] (by omega)
        have HI := zig (e.terms.take k) e.terms[k]
        have hi2 := zsy (e.terms.take k) fun a => same a e.terms[k]
        have HPt := qda e.form.var e.terms[k] (by omega) q hqf (by omega) (zlc (by omega))
        have hpff := zge e.form.var e.terms[k] q hqf
        generalize (zbe e.form.var e.terms[k] q).1 = R at HPt hLk hpff
        generalize (zbe e.form.var e.terms[k] q).2 = ok at HPt hLk hpff
        have HSm := zn8 e.parts[k].form R
        have eT : tmS (e.terms.take k) = .sl 2 ((e.terms.map tmC).take k) := by unfold tmS; rw [List.map_take]
        rw [eT] at HI
        have e0 : (List.map fmC e.form.parts).getD 0 [] = fmC q := by rw [hp]; rfl
        have hp0 : e.form.parts.length = 1 := by rw [hp]; rfl
        simp only [tmD, fmD, zaa e.terms[k], zab q, zab R, zab e.parts[k].form] at HV HI HPt HSm
        cases hg : e.terms[k].good
        ·rw [hg] at hLk HV
         simp only [Bool.false_and] at hLk
         rw [hv, zfl hkL hLk]
         simp -implicitDefEqProofs only [go_sem, hkt]
         refine drawn (by kernel_rfl) ?_
         simp -implicitDefEqProofs only [go_sem, hkt, zad, zaa e.terms[k]]
         refine zao (HV) (by simp -implicitDefEqProofs only [go_sem]) ?_
         simp -implicitDefEqProofs only [go_sem]
         kernel_rfl
        ·rw [hg] at HV
         cases hi : (e.terms.take k).any fun a => same a e.terms[k]
         ·rw [hi] at hi2
          cases hok : ok
          ·rw [hg, hi, hok] at hLk
           simp only [Bool.and_false, Bool.false_and] at hLk
           rw [hv, zfl hkL hLk]
           rw [hok] at HPt
           simp -implicitDefEqProofs only [go_sem, hkt]
           refine drawn (by kernel_rfl) ?_
           simp -implicitDefEqProofs only [go_sem, hkt, zad, zaa e.terms[k]]
           refine zao (HV) (by simp -implicitDefEqProofs only [go_sem, hkt, zad, zaa e.terms[k]]) ?_
           simp -implicitDefEqProofs only [go_sem, hkt, zad, zaa e.terms[k]]
           refine ⟨by omega, ?_⟩
           refine za7 (HI) (by simp -implicitDefEqProofs only [go_sem, hi2]) ?_
           simp -implicitDefEqProofs only [go_sem, hi2]
           refine ⟨by kernel_rfl, ?_⟩
           refine drawn (by kernel_rfl) ?_
           simp -implicitDefEqProofs only [go_sem, hp0, e0, zab q, hkt, zad, zaa e.terms[k]]
           refine zao (HPt) (by simp -implicitDefEqProofs only [go_sem]) ?_
           simp -implicitDefEqProofs only [go_sem]
           refine ⟨by kernel_rfl, ?_⟩
           refine drawn (by kernel_rfl) ?_
           simp -implicitDefEqProofs only [go_sem]
           kernel_rfl
          ·rw [hok] at HPt
           cases hsm : same e.parts[k].form R
           ·rw [hg, hi, hok, hsm] at hLk
            simp only [Bool.and_false, Bool.false_and] at hLk
            rw [hv, zfl hkL hLk]
            rw [hsm] at HSm
            simp -implicitDefEqProofs only [go_sem, hkt]
            refine drawn (by kernel_rfl) ?_
            simp -implicitDefEqProofs only [go_sem, hkt, zad, zaa e.terms[k]]
            refine zao (HV) (by simp -implicitDefEqProofs only [go_sem, hkt, zad, zaa e.terms[k]]) ?_
            simp -implicitDefEqProofs only [go_sem, hkt, zad, zaa e.terms[k]]
            refine ⟨by omega, ?_⟩
            refine za7 (HI) (by simp -implicitDefEqProofs only [go_sem, hi2]) ?_
            simp -implicitDefEqProofs only [go_sem, hi2]
            refine ⟨by kernel_rfl, ?_⟩
            refine drawn (by kernel_rfl) ?_
            simp -implicitDefEqProofs only [go_sem, hp0, e0, zab q, hkt, zad, zaa e.terms[k]]
            refine zao (HPt) (by simp -implicitDefEqProofs only [go_sem]) ?_
            simp -implicitDefEqProofs only [go_sem]
            refine ⟨by kernel_rfl, ?_⟩
            refine drawn (by kernel_rfl) ?_
            simp -implicitDefEqProofs only [go_sem, hlt, zad, zai e.parts[k]]
            refine za7 (HSm) (by simp -implicitDefEqProofs only [go_sem]) ?_
            simp -implicitDefEqProofs only [go_sem]
            kernel_rfl
           ·have hpf : e.parts[k].form.forms = true := by rw [zba.1 hsm]; exact hpff hok
            have HC := H e.parts[k] (List.getElem_mem hlt) hpf pos
            unfold ziy at HC
            simp only [exD, zai e.parts[k]] at HC
            rw [hg, hi, hok, hsm] at hLk
            simp only [Bool.not_false, Bool.and_true, Bool.true_and] at hLk
            rw [hsm] at HSm
            cases hb : zbg e.parts[k] pos
            ·rw [hb] at hLk HC
             rw [hv, zfl hkL hLk]
             simp -implicitDefEqProofs only [go_sem, hkt]
             refine drawn (by kernel_rfl) ?_
             simp -implicitDefEqProofs only [go_sem, hkt, zad, zaa e.terms[k]]
             refine zao (HV) (by simp -implicitDefEqProofs only [go_sem, hkt, zad, zaa e.terms[k]]) ?_
             simp -implicitDefEqProofs only [go_sem, hkt, zad, zaa e.terms[k]]
             refine ⟨by omega, ?_⟩
             refine za7 (HI) (by simp -implicitDefEqProofs only [go_sem, hi2]) ?_
             simp -implicitDefEqProofs only [go_sem, hi2]
             refine ⟨by kernel_rfl, ?_⟩
             refine drawn (by kernel_rfl) ?_
             simp -implicitDefEqProofs only [go_sem, hp0, e0, zab q, hkt, zad, zaa e.terms[k]]
             refine zao (HPt) (by simp -implicitDefEqProofs only [go_sem]) ?_
             simp -implicitDefEqProofs only [go_sem]
             refine ⟨by kernel_rfl, ?_⟩
             refine drawn (by kernel_rfl) ?_
             simp -implicitDefEqProofs only [go_sem, hlt, zad, zai e.parts[k]]
             refine za7 (HSm) (by simp -implicitDefEqProofs only [go_sem, hlt, zad, zai e.parts[k]]) ?_
             simp -implicitDefEqProofs only [go_sem, hlt, zad, zai e.parts[k]]
             refine za7 (HC) (by simp -implicitDefEqProofs only [go_sem]) ?_
             simp -implicitDefEqProofs only [go_sem]
             kernel_rfl
            ·rw [hb] at hLk HC
             simp -implicitDefEqProofs only [go_sem, hkt]
             refine drawn (by kernel_rfl) ?_
             simp -implicitDefEqProofs only [go_sem, hkt, zad, zaa e.terms[k]]
             refine zao (HV) (by simp -implicitDefEqProofs only [go_sem, hkt, zad, zaa e.terms[k]]) ?_
             simp -implicitDefEqProofs only [go_sem, hkt, zad, zaa e.terms[k]]
             refine ⟨by omega, ?_⟩
             refine za7 (HI) (by simp -implicitDefEqProofs only [go_sem, hi2]) ?_
             simp -implicitDefEqProofs only [go_sem, hi2]
             refine ⟨by kernel_rfl, ?_⟩
             refine drawn (by kernel_rfl) ?_
             simp -implicitDefEqProofs only [go_sem, hp0, e0, zab q, hkt, zad, zaa e.terms[k]]
             refine zao (HPt) (by simp -implicitDefEqProofs only [go_sem]) ?_
             simp -implicitDefEqProofs only [go_sem]
             refine ⟨by kernel_rfl, ?_⟩
             refine drawn (by kernel_rfl) ?_
             simp -implicitDefEqProofs only [go_sem, hlt, zad, zai e.parts[k]]
             refine za7 (HSm) (by simp -implicitDefEqProofs only [go_sem, hlt, zad, zai e.parts[k]]) ?_
             simp -implicitDefEqProofs only [go_sem, hlt, zad, zai e.parts[k]]
             refine za7 (HC) (by simp -implicitDefEqProofs only [go_sem]) ?_
             simp -implicitDefEqProofs only [go_sem]
             refine ⟨by kernel_rfl, k + 1, ⟨by omega, znz hT hLk⟩, by omega, zac ?_⟩
             simp -implicitDefEqProofs only [go_sem]
             rw [zap (by omega)]
         ·rw [hg, hi] at hLk
          rw [hi] at hi2
          simp only [Bool.not_true, Bool.and_false, Bool.false_and] at hLk
          rw [hv, zfl hkL hLk]
          simp -implicitDefEqProofs only [go_sem, hkt]
          refine drawn (by kernel_rfl) ?_
          simp -implicitDefEqProofs only [go_sem, hkt, zad, zaa e.terms[k]]
          refine zao (HV) (by simp -implicitDefEqProofs only [go_sem, hkt, zad, zaa e.terms[k]]) ?_
          simp -implicitDefEqProofs only [go_sem, hkt, zad, zaa e.terms[k]]
          refine ⟨by omega, ?_⟩
          refine za7 (HI) (by simp -implicitDefEqProofs only [go_sem, hi2]) ?_
          simp -implicitDefEqProofs only [go_sem, hi2]
          kernel_rfl
       ·have hkt : ¬ k < e.terms.length := by omega
        rw [hv, ztc fun j hj => hT j (by omega) hj]
        simp -implicitDefEqProofs only [go_sem, hkt]
    ·rw [show decide (e.terms.length = 1) = false by simp [h1], Bool.false_and, Bool.false_and] at hv
     rw [hv]
     have hn1 : ((e.terms.length : Int) != 1) = true := by rw [bne_iff_ne]; omega
     refine zaj Tryz.call137 Tryz.func137 rfl (by kernel_rfl) (zav (by kernel_rfl)) ?_
     simp -implicitDefEqProofs only [go_sem, Tryz.results137]
     refine callF (HQ) (by simp -implicitDefEqProofs only [go_sem, hne]) ?_
     simp -implicitDefEqProofs only [go_sem, hne]
     refine callF (HSt) (by simp -implicitDefEqProofs only [go_sem, hn1]) ?_
     simp -implicitDefEqProofs only [go_sem, hn1]
  ·rw [show decide (e.terms.length = e.parts.length) = false by simp [hlen], Bool.false_and, Bool.false_and] at hv
   rw [hv]
   have hne : ((e.terms.length : Int) != (e.parts.length : Int)) = true := by rw [bne_iff_ne]; omega
   simp only [exD, zai, fmD, zab e.form] at HQ ⊢
   refine zaj Tryz.call137 Tryz.func137 rfl (by kernel_rfl) (zav (by kernel_rfl)) ?_
   simp -implicitDefEqProofs only [go_sem, Tryz.results137]
   refine callF (HQ) (by simp -implicitDefEqProofs only [go_sem, hne]) ?_
   simp -implicitDefEqProofs only [go_sem, hne]
end Go.Proofs.YtbccfiillleimaaGreat
namespace Go.Proofs.YtbccfiillleimaaGreat
set_option linter.unusedSimpArgs false
set_option linter.unusedVariables false
set_option linter.unusedSectionVars false
set_option maxRecDepth 4000
open Go.RowKit
def za9 : Ex -> Bool -> List Str := Ex.fold fun f ts ps rs pos => (if za0 f pos = true then [(ts.getD 0 Tm.zero).name] else []) ++ ((ps.zip rs).mapIdx fun i q => q.2 (sgn f i pos)).flatten
theorem zgb (e : Ex) (pos : Bool) : za9 e pos = (if za0 e.form pos = true then [(e.terms.getD 0 Tm.zero).name] else []) ++ (e.parts.mapIdx fun i p => za9 p (sgn e.form i pos)).flatten := by
 cases e with
 | mk f ts ps =>
  conv => lhs; unfold za9; rw [Ex.fold_eq]
  simp only [ziq]
  rfl
theorem sgn_q {f : Fm} (h : isQ f.op = true) (i : Nat) (pos : Bool) : sgn f i pos = pos := by
 have h8 : f.op = 8 \/ f.op = 9 := by unfold isQ at h; rw [Bool.or_eq_true, beq_iff_eq, beq_iff_eq] at h; exact h
 unfold sgn
 rcases h8 with e | e <;> rw [e] <;> cases pos <;> rfl
theorem zmi (w : Nat -> Nat) : ∀ (l : List (List Str)) (j : Nat), (∀ i (h : i < l.length), l[i].length <= w (j + i)) -> l.flatten.length <= ((List.range l.length).map fun i => w (j + i)).sum
 | [], _, _ => by simp
 | x :: l, j, h => by
  have h0 := h 0 (by simp)
  rw [Nat.add_zero] at h0
  have h0 : x.length <= w j := h0
  have ih := zmi w l (j + 1) fun i hi => by
   have := h (i + 1) (by simpa using hi)
   rw [show j + 1 + i = j + (i + 1) by omega]
   simpa using this
  have e : ((List.range (x :: l).length).map fun i => w (j + i)).sum = w j + ((List.range l.length).map fun i => w (j + 1 + i)).sum := by
   rw [List.length_cons, List.range_succ_eq_map, List.map_cons, List.sum_cons, List.map_map]
   congr 2
   refine List.map_congr_left fun i _ => ?_
   show w (j + (i + 1)) = _
   rw [show j + (i + 1) = j + 1 + i by omega]
  rw [e, List.flatten_cons, List.length_append]
  omega
theorem zgr : ∀ (e : Ex) (pos : Bool), (za9 e pos).length <= e.nodes := zcd fun f ts ps ih pos => by
 rw [zgb, Ex.nodes_eq]
 have hr := zqi ps
 have key := zmi (fun i => (ps.getD i (.mk (mkF 0 []) [] [])).nodes) (ps.mapIdx fun i p => za9 p (sgn f i pos)) 0 fun i h => by
  have hi : i < ps.length := by simpa using h
  have := ih ps[i] (List.getElem_mem hi) (sgn f i pos)
  simp only [List.getElem_mapIdx, Nat.zero_add]
  rw [List.getD_eq_getElem?_getD, List.getElem?_eq_getElem hi]
  exact this
 simp only [List.length_mapIdx, Nat.zero_add] at key
 rw [hr] at key
 show ((if za0 f pos = true then [(ts.getD 0 Tm.zero).name] else []) ++ (ps.mapIdx fun i p => za9 p (sgn f i pos)).flatten).length <= 1 + (ps.map Ex.nodes).sum
 rw [List.length_append]
 split
 ·rw [List.length_singleton]; omega
 ·rw [List.length_nil]; omega
theorem zbu {e : Ex} {pos : Bool} (h : zbg e pos = true) : (∀ i (hi : i < e.parts.length), zbg e.parts[i] (sgn e.form i pos) = true) /\ (za0 e.form pos = true -> e.terms.length = 1) := by
 rw [zd9] at h
 cases hq : isQ e.form.op
 ·rw [hq, if_neg (by simp), Bool.and_eq_true, List.all_eq_true] at h
  refine ⟨fun i hi => ?_, fun hs => by unfold za0 at hs; rw [hq] at hs; cases hs⟩
  have := h.2 _ (List.getElem_mem (l := e.parts.mapIdx fun i p => (same p.form (e.form.parts.getD i (mkF 0 [])) && zbg p (sgn e.form i pos))) (n := i) (by simpa using hi))
  simp only [List.getElem_mapIdx, id, Bool.and_eq_true] at this
  exact this.2
 ·rw [hq, if_pos rfl, Bool.and_eq_true, Bool.and_eq_true, List.all_eq_true] at h
  refine ⟨fun i hi => ?_, fun hs => ?_⟩
  ·have := h.2 _ (List.getElem_mem (l := e.parts.mapIdx fun i p => (zln e.form e.terms i p && zbg p pos)) (n := i) (by simpa using hi))
   simp only [List.getElem_mapIdx, id, Bool.and_eq_true] at this
   rw [sgn_q hq]; exact this.2
  ·have := h.1.2
   rw [hs] at this
   simp only [Bool.not_true, Bool.false_or, Bool.and_eq_true, decide_eq_true_eq] at this
   exact this.1
theorem zt7 (e : Ex) (he : e.wt <= 1048576) (pos : Bool) (hn : zbg e pos = true) (H : ∀ p ∈ e.parts, ∀ pos, zbg p pos = true -> FC Tryz.prog 97 [exD p, bD pos] [.one (zbq (za9 p pos))]) : FC Tryz.prog 97 [exD e, bD pos] [.one (zbq (za9 e pos))] := by
 have hv := zgb e pos
 have hW := e.wt_eq
 have hln := zgr e pos
 have hen := zd3 e
 have HSt := zfa e.form pos
 have hse : (isQ e.form.op && ((e.form.op == 8) == pos)) = za0 e.form pos := rfl
 rw [hse] at HSt
 obtain ⟨hpts, hst1⟩ := zbu hn
 rw [hv]
 rw [hv] at hln
 generalize hL : (e.parts.mapIdx fun i p => za9 p (sgn e.form i pos)) = L at hv hln ⊢
 have hLl : L.length = e.parts.length := by rw [<- hL, List.length_mapIdx]
 have hLf : L.flatten.length <= e.nodes := by rw [List.length_append] at hln; omega
 have hgrow : ∀ k, ((L.take k).flatten).length <= L.flatten.length := fun k => by
  have := congrArg (fun l => l.flatten.length) (List.take_append_drop k L)
  simp only [List.flatten_append, List.length_append] at this
  omega
 simp only [exD, zai, fmD, zab e.form] at HSt ⊢
 cases hst : za0 e.form pos
 ·rw [hst] at HSt hln
  rw [hst] at hv
  refine zaj Tryz.call97 Tryz.func97 rfl (by kernel_rfl) (zav (by kernel_rfl)) ?_
  simp -implicitDefEqProofs only [go_sem, Tryz.results97]
  refine zbd (by simp -implicitDefEqProofs only [go_sem]) ?_
  simp -implicitDefEqProofs only [go_sem]
  refine callF (HSt) (by simp -implicitDefEqProofs only [go_sem]) ?_
  simp -implicitDefEqProofs only [go_sem]
  refine zae (fun k : Nat => hd [(1, vT (.bool pos)), (2, .one (.bx 2 0)), (5, .one (.ow 224 0)), (6, vI k)] [(2, [.t (.int .i64 e.form.op), .t (.str e.form.atom.name), .t (tmS e.form.atom.args), .t (.str e.form.var), .t (fmS e.form.parts), .t (tmS e.terms), .t (exS e.parts)])] [(224, ⟨true, 1, (([] : List Str) ++ (L.take k).flatten).map fun s => [.str s], 0, true⟩)]) (fun k => k <= e.parts.length) (fun k => e.parts.length - k) 0 (zac ?_) (Nat.zero_le _) ?_
  ·simp -implicitDefEqProofs only [go_sem]
  ·intro k hk
   by_cases hlt : k < e.parts.length
   ·have HPo := zet e.form k pos
    have hsg : (pos != (e.form.op == 4 || (e.form.op == 7 && ((k : Int) == 0)))) = sgn e.form k pos := rfl
    rw [hsg] at HPo
    have HC := H e.parts[k] (List.getElem_mem hlt) (sgn e.form k pos) (hpts k hlt)
    have hgk := hgrow k
    have hLk : L[k]'(by omega) = za9 e.parts[k] (sgn e.form k pos) := by simp only [<- hL, List.getElem_mapIdx]
    simp only [fmD, zab e.form, exD, zai e.parts[k]] at HPo HC
    have hg2 := hgrow (k + 1)
    have e9 : (L.take (k + 1)).flatten = (L.take k).flatten ++ za9 e.parts[k] (sgn e.form k pos) := by
     rw [List.take_succ_eq_append_getElem (by omega), List.flatten_append, hLk]; simp
    rw [e9, List.length_append] at hg2
    have hap : (L.take k).flatten.length + (za9 e.parts[k] (sgn e.form k pos)).length <= 4294967296 := by omega
    have hap2 : (L.take k).flatten.length + 1 + (za9 e.parts[k] (sgn e.form k pos)).length <= 4294967296 := by omega
    simp -implicitDefEqProofs only [go_sem, hlt]
    refine drawn (by kernel_rfl) ?_
    simp -implicitDefEqProofs only [go_sem, hlt, zad, zai e.parts[k]]
    refine zao (HPo) (by simp -implicitDefEqProofs only [go_sem]) ?_
    simp -implicitDefEqProofs only [go_sem]
    refine zao (HC) (by simp -implicitDefEqProofs only [go_sem]) ?_
    simp -implicitDefEqProofs only [go_sem]
    refine zfs true (by simp -implicitDefEqProofs only [go_sem, ne_eq, List.length_map, hap, hap2]) ?_
    simp -implicitDefEqProofs only [go_sem, ne_eq, List.length_map, hap, hap2]
    refine ⟨by kernel_rfl, k + 1, hlt, by omega, zac ?_⟩
    simp -implicitDefEqProofs only [go_sem]
    rw [zap (by omega), e9, List.map_append]
    exact ⟨rfl, rfl⟩
   ·have htk : (L.take k) = L := List.take_of_length_le (by omega)
    simp -implicitDefEqProofs only [go_sem, hlt, htk]
 ·rw [hst] at HSt hln
  rw [hst] at hv
  obtain ⟨t, ht⟩ := List.length_eq_one_iff.1 (hst1 hst)
  have h1 : e.terms.length = 1 := hst1 hst
  have hgd : e.terms.getD 0 Tm.zero = t := by rw [ht]; rfl
  have e0 : (List.map tmC e.terms).getD 0 [] = tmC t := by rw [ht]; rfl
  rw [hgd]
  rw [hgd] at hln
  refine zaj Tryz.call97 Tryz.func97 rfl (by kernel_rfl) (zav (by kernel_rfl)) ?_
  simp -implicitDefEqProofs only [go_sem, Tryz.results97]
  refine zbd (by simp -implicitDefEqProofs only [go_sem]) ?_
  simp -implicitDefEqProofs only [go_sem]
  refine callF (HSt) (by simp -implicitDefEqProofs only [go_sem, h1, e0, zaa t]) ?_
  simp -implicitDefEqProofs only [go_sem, h1, e0, zaa t]
  refine zbd (by simp -implicitDefEqProofs only [go_sem]) ?_
  simp -implicitDefEqProofs only [go_sem]
  refine apD true (by simp -implicitDefEqProofs only [go_sem, ne_eq]) ?_
  simp -implicitDefEqProofs only [go_sem, ne_eq]
  refine zae (fun k : Nat => hd [(1, vT (.bool pos)), (2, .one (.bx 2 0)), (5, .one (.ow 224 0)), (6, vI k)] [(2, [.t (.int .i64 e.form.op), .t (.str e.form.atom.name), .t (tmS e.form.atom.args), .t (.str e.form.var), .t (fmS e.form.parts), .t (tmS e.terms), .t (exS e.parts)])] [(224, ⟨true, 1, ([t.name] ++ (L.take k).flatten).map fun s => [.str s], 0, true⟩)]) (fun k => k <= e.parts.length) (fun k => e.parts.length - k) 0 (zac ?_) (Nat.zero_le _) ?_
  ·simp -implicitDefEqProofs only [go_sem]
  ·intro k hk
   by_cases hlt : k < e.parts.length
   ·have HPo := zet e.form k pos
    have hsg : (pos != (e.form.op == 4 || (e.form.op == 7 && ((k : Int) == 0)))) = sgn e.form k pos := rfl
    rw [hsg] at HPo
    have HC := H e.parts[k] (List.getElem_mem hlt) (sgn e.form k pos) (hpts k hlt)
    have hgk := hgrow k
    have hLk : L[k]'(by omega) = za9 e.parts[k] (sgn e.form k pos) := by simp only [<- hL, List.getElem_mapIdx]
    simp only [fmD, zab e.form, exD, zai e.parts[k]] at HPo HC
    have hg2 := hgrow (k + 1)
    have e9 : (L.take (k + 1)).flatten = (L.take k).flatten ++ za9 e.parts[k] (sgn e.form k pos) := by
     rw [List.take_succ_eq_append_getElem (by omega), List.flatten_append, hLk]; simp
    rw [e9, List.length_append] at hg2
    have hap : (L.take k).flatten.length + (za9 e.parts[k] (sgn e.form k pos)).length <= 4294967296 := by omega
    have hap2 : (L.take k).flatten.length + 1 + (za9 e.parts[k] (sgn e.form k pos)).length <= 4294967296 := by omega
    simp -implicitDefEqProofs only [go_sem, hlt]
    refine drawn (by kernel_rfl) ?_
    simp -implicitDefEqProofs only [go_sem, hlt, zad, zai e.parts[k]]
    refine zao (HPo) (by simp -implicitDefEqProofs only [go_sem]) ?_
    simp -implicitDefEqProofs only [go_sem]
    refine zao (HC) (by simp -implicitDefEqProofs only [go_sem]) ?_
    simp -implicitDefEqProofs only [go_sem]
    refine zfs true (by simp -implicitDefEqProofs only [go_sem, ne_eq, List.length_map, hap, hap2]) ?_
    simp -implicitDefEqProofs only [go_sem, ne_eq, List.length_map, hap, hap2]
    refine ⟨by kernel_rfl, k + 1, hlt, by omega, zac ?_⟩
    simp -implicitDefEqProofs only [go_sem]
    rw [zap (by omega), e9, List.map_append]
    exact ⟨rfl, rfl⟩
   ·have htk : (L.take k) = L := List.take_of_length_le (by omega)
    simp -implicitDefEqProofs only [go_sem, hlt, htk]
end Go.Proofs.YtbccfiillleimaaGreat
namespace Go.Proofs.YtbccfiillleimaaGreat
set_option linter.unusedSimpArgs false
set_option linter.unusedVariables false
set_option linter.unusedSectionVars false
set_option maxRecDepth 4000
open Go.RowKit
theorem zmf : ∀ e : Ex, e.wt <= 1048576 -> ∀ pos, zbg e pos = true -> FC Tryz.prog 97 [exD e, bD pos] [.one (zbq (za9 e pos))] :=
 zcd fun f ts ps ih he pos hn => zt7 (.mk f ts ps) he pos hn fun p hp pos hn => ih p hp (Nat.le_trans (zcx (a := .mk f ts ps) hp) he) pos hn
theorem qdv : ∀ e : Ex, e.wt <= 1048576 -> e.form.forms = true -> ∀ pos, ziy e pos :=
 zcd fun f ts ps ih he hf pos => zxn (.mk f ts ps) he hf (fun p hp hpf pos => ih p hp (Nat.le_trans (zcx (a := .mk f ts ps) hp) he) hpf pos) pos
noncomputable def zc7 (e : Ex) (pos : Bool) : Bool := e.form.good && decide (e.nodes <= 60) && zbg e pos && dec ((za9 e pos).Nodup /\ ∀ n ∈ za9 e pos, n ∉ za5 [] (vf e.form []))
set_option maxHeartbeats 2000000 in
theorem zpx (e : Ex) (he : e.wt <= 1048576) (pos : Bool) : FC Tryz.prog 83 [exD e, bD pos] [bD (zc7 e pos)] := by
 have hv : zc7 e pos = (e.form.good && decide (e.nodes <= 60) && zbg e pos && dec ((za9 e pos).Nodup /\ ∀ n ∈ za9 e pos, n ∉ za5 [] (vf e.form []))) := rfl
 have HN := zzt e (by omega) 60 (by omega) (by omega)
 have hs : decide (zeg e 60 <= 60) = decide (e.nodes <= 60) := qgi e 60
 have hfw := zsn e
 have HG := zt8 e.form (by omega)
 simp only [exD, zai, fmD, zab] at HN HG ⊢
 cases hg : e.form.good
 ·rw [hg, Bool.false_and, Bool.false_and, Bool.false_and] at hv
  rw [hv]
  rw [hg] at HG
  refine zaj Tryz.call83 Tryz.func83 rfl (by kernel_rfl) (zav (by kernel_rfl)) ?_
  simp -implicitDefEqProofs only [go_sem, Tryz.results83]
  refine callF (HG) (by simp -implicitDefEqProofs only [go_sem]) ?_
  simp -implicitDefEqProofs only [go_sem]
 ·rw [hg, Bool.true_and] at hv
  rw [hg] at HG
  cases hn : decide (e.nodes <= 60)
  ·have hs2 : decide (60 < zeg e 60) = true := by rw [hn] at hs; rw [decide_eq_true_eq]; rw [decide_eq_false_iff_not] at hs; omega
   rw [hn, Bool.false_and, Bool.false_and] at hv
   rw [hv]
   refine zaj Tryz.call83 Tryz.func83 rfl (by kernel_rfl) (zav (by kernel_rfl)) ?_
   simp -implicitDefEqProofs only [go_sem, Tryz.results83]
   refine callF (HG) (by simp -implicitDefEqProofs only [go_sem]) ?_
   simp -implicitDefEqProofs only [go_sem]
   refine callF (HN) (by simp -implicitDefEqProofs only [go_sem, hs2]) ?_
   simp -implicitDefEqProofs only [go_sem, hs2]
  ·have hs2 : decide (60 < zeg e 60) = false := by rw [hn] at hs; rw [decide_eq_false_iff_not]; rw [decide_eq_true_eq] at hs; omega
   rw [hn, Bool.true_and] at hv
   have HD := qdv e he (zdt hg) pos
   unfold ziy at HD
   simp only [exD, zai] at HD
   cases hnd : zbg e pos
   ·rw [hnd, Bool.false_and] at hv
    rw [hv]
    rw [hnd] at HD
    refine zaj Tryz.call83 Tryz.func83 rfl (by kernel_rfl) (zav (by kernel_rfl)) ?_
    simp -implicitDefEqProofs only [go_sem, Tryz.results83]
    refine callF (HG) (by simp -implicitDefEqProofs only [go_sem]) ?_
    simp -implicitDefEqProofs only [go_sem]
    refine callF (HN) (by simp -implicitDefEqProofs only [go_sem, hs2]) ?_
    simp -implicitDefEqProofs only [go_sem, hs2]
    refine callF (HD) (by simp -implicitDefEqProofs only [go_sem]) ?_
    simp -implicitDefEqProofs only [go_sem]
   ·rw [hnd, Bool.true_and] at hv
    rw [hnd] at HD
    have HM := zmf e he pos hnd
    have HF := zv3 e.form (zdt hg) (by omega)
    have hnl := zgr e pos
    have hen := zd3 e
    generalize za9 e pos = ns at hv HM hnl
    generalize za5 [] (vf e.form []) = V at hv HF
    simp only [exD, zai, fmD, zab] at HM HF
    refine zcv Tryz.call83 Tryz.func83 rfl (by kernel_rfl) (zav (by kernel_rfl)) ?_
    simp -implicitDefEqProofs only [go_sem, Tryz.results83]
    refine callF (HG) (by simp -implicitDefEqProofs only [go_sem]) ?_
    simp -implicitDefEqProofs only [go_sem]
    refine callF (HN) (by simp -implicitDefEqProofs only [go_sem, hs2]) ?_
    simp -implicitDefEqProofs only [go_sem, hs2]
    refine callF (HD) (by simp -implicitDefEqProofs only [go_sem]) ?_
    simp -implicitDefEqProofs only [go_sem]
    refine zkl (HM) (by simp -implicitDefEqProofs only [go_sem]) ?_
    simp -implicitDefEqProofs only [go_sem]
    refine zkl (HF) (by simp -implicitDefEqProofs only [go_sem]) ?_
    simp -implicitDefEqProofs only [go_sem]
    refine zae (fun k : Nat => hd [(5, .one (.rn (zbq ns))), (6, .one (.rn (zbq V))), (7, vI k)] [] []) (fun k => k <= ns.length /\ (ns.take k).Nodup /\ ∀ n ∈ ns.take k, n ∉ V) (fun k => ns.length - k) 0 (zac ?_) ⟨Nat.zero_le _, List.nodup_nil, by simp⟩ ?_
    ·simp -implicitDefEqProofs only [go_sem]
    ·rintro k ⟨hk, hT, hT2⟩
     by_cases hlt : k < ns.length
     ·have H1 := zi0 (ns.take k) ns[k]
      have H2 := zi0 V ns[k]
      have eT : zbq (ns.take k) = .sl 1 ((ns.map fun s => [T.str s]).take k) := by unfold zbq; rw [List.map_take]
      rw [eT] at H1
      cases h1 : (ns.take k).contains ns[k]
      ·rw [h1] at H1
       cases h2 : V.contains ns[k]
       ·rw [h2] at H2
        simp -implicitDefEqProofs only [go_sem, hlt]
        refine drawn (by kernel_rfl) ?_
        simp -implicitDefEqProofs only [go_sem, zad, hlt]
        refine ⟨hk, ?_⟩
        refine zao (H1) (by simp -implicitDefEqProofs only [go_sem, zad, hlt]) ?_
        simp -implicitDefEqProofs only [go_sem, zad, hlt]
        refine za7 (H2) (by simp -implicitDefEqProofs only [go_sem]) ?_
        simp -implicitDefEqProofs only [go_sem]
        refine ⟨by kernel_rfl, k + 1, ⟨hlt, ?_, ?_⟩, by omega, zac ?_⟩
        ·rw [List.take_succ_eq_append_getElem hlt, List.nodup_append]
         refine ⟨hT, by simp, ?_⟩
         rintro a ha b hb rfl
         rw [List.mem_singleton] at hb
         subst hb
         rw [List.contains_iff_mem.2 ha] at h1
         cases h1
        ·intro n hn
         rw [List.take_succ_eq_append_getElem hlt] at hn
         rcases List.mem_append.1 hn with hn | hn
         ·exact hT2 n hn
         ·rw [List.mem_singleton] at hn
          subst hn
          intro hm
          rw [List.contains_iff_mem.2 hm] at h2
          cases h2
        ·simp -implicitDefEqProofs only [go_sem]
         rw [zap (by omega)]
       ·rw [h2] at H2
        have hbad : dec (ns.Nodup /\ ∀ n ∈ ns, n ∉ V) = false := zub.2 fun h => h.2 _ (List.getElem_mem hlt) (List.contains_iff_mem.1 h2)
        rw [hv, hbad]
        simp -implicitDefEqProofs only [go_sem, hlt]
        refine drawn (by kernel_rfl) ?_
        simp -implicitDefEqProofs only [go_sem, zad, hlt]
        refine ⟨hk, ?_⟩
        refine zao (H1) (by simp -implicitDefEqProofs only [go_sem, zad, hlt]) ?_
        simp -implicitDefEqProofs only [go_sem, zad, hlt]
        refine za7 (H2) (by simp -implicitDefEqProofs only [go_sem]) ?_
        simp -implicitDefEqProofs only [go_sem]
        kernel_rfl
      ·rw [h1] at H1
       have hbad : dec (ns.Nodup /\ ∀ n ∈ ns, n ∉ V) = false := zub.2 fun h => by
        have h3 := h.1.sublist (List.take_sublist (k + 1) ns)
        rw [List.take_succ_eq_append_getElem hlt, List.nodup_append] at h3
        exact h3.2.2 _ (List.contains_iff_mem.1 h1) _ (by simp) rfl
       rw [hv, hbad]
       simp -implicitDefEqProofs only [go_sem, hlt]
       refine drawn (by kernel_rfl) ?_
       simp -implicitDefEqProofs only [go_sem, zad, hlt]
       refine ⟨hk, ?_⟩
       refine zao (H1) (by simp -implicitDefEqProofs only [go_sem, zad, hlt]) ?_
       simp -implicitDefEqProofs only [go_sem, zad, hlt]
       kernel_rfl
     ·rw [List.take_of_length_le (by omega)] at hT hT2
      rw [show dec (ns.Nodup /\ ∀ n ∈ ns, n ∉ V) = true from zcs.2 ⟨hT, hT2⟩] at hv
      rw [hv]
      simp -implicitDefEqProofs only [go_sem, hlt]
end Go.Proofs.YtbccfiillleimaaGreat
namespace Go.Proofs.YtbccfiillleimaaGreat
set_option linter.unusedSimpArgs false
set_option linter.unusedVariables false
set_option linter.unusedSectionVars false
set_option maxRecDepth 4000
open Go.RowKit
theorem zlq (xs : List Str) (p : Str -> Bool) (g : FuncId) (caps : List T) (H : ∀ x ∈ xs, FC Tryz.prog g (sD x :: caps.map .one) [bD (p x)]) : FC Tryz.prog 202 [.one (zbq xs), .one (.fn g caps)] [iD (zfd xs p)] := by
 refine zc1 (fun hw => ?_) Tryz.call202
 have hl : xs.length <= 9223372036854775807 := by simpa [zfq, wfT] using hw.1.1
 refine zaj Tryz.call202 Tryz.func202 rfl (by kernel_rfl) (zav (by kernel_rfl)) ?_
 simp -implicitDefEqProofs only [go_sem, Tryz.results202]
 refine zae (fun k : Nat => hd [(0, vT (zbq xs)), (1, vT (.fn g caps)), (7, vI xs.length), (8, vI k)] [] []) (fun k => k <= xs.length /\ ∀ x ∈ xs.take k, p x = false) (fun k => xs.length - k) 0 (zac ?_) ?_ ?_
 ·simp -implicitDefEqProofs only [go_sem]
 ·simp
 ·intro k ⟨hk, hr⟩
  by_cases hlt : k < xs.length
  ·simp -implicitDefEqProofs only [go_sem, zad, hlt, ne_eq]
   refine callF (H xs[k] (List.getElem_mem hlt)) (by simp -implicitDefEqProofs only [go_sem, ne_eq]) ?_
   simp -implicitDefEqProofs only [go_sem, ne_eq]
   refine ⟨fun h => ?_, fun h => ⟨k + 1, ⟨hlt, zb8 hlt hr h⟩, by omega, zac (by simp -implicitDefEqProofs only [go_sem]; rw [zap (by omega)])⟩⟩
   rw [zc6 hlt hr h]
  ·simp -implicitDefEqProofs only [go_sem, hlt]
   rw [List.take_of_length_le (by omega)] at hr
   rw [zdz hr]
theorem ziu (xs : List Str) (p : Str -> Bool) (g : FuncId) (caps : List T) (H : ∀ x ∈ xs, FC Tryz.prog g (sD x :: caps.map .one) [bD (p x)]) : FC Tryz.prog 147 [.one (zbq xs), .one (.fn g caps)] [bD (xs.any p)] := by
 refine zaj Tryz.call147 Tryz.func147 rfl (by kernel_rfl) (zav (by kernel_rfl)) ?_
 simp -implicitDefEqProofs only [go_sem, Tryz.results147]
 refine callF (zlq xs p g caps H) (by simp -implicitDefEqProofs only [go_sem]) ?_
 simp -implicitDefEqProofs only [go_sem]
 rw [zhh]
end Go.Proofs.YtbccfiillleimaaGreat
namespace Go.Proofs.YtbccfiillleimaaGreat
set_option linter.unusedSimpArgs false
set_option linter.unusedVariables false
set_option linter.unusedSectionVars false
set_option maxRecDepth 4000
open Go.RowKit
noncomputable def qgj (e : Ex) (pos : Bool) : Bool := decide (e.nodes <= 60) && e.form.good && (zb0 e pos []).1 && !((zb0 e pos []).2.any fun n => (za5 [] (vf e.form [])).contains n)
theorem znn (V : List Str) (s : Str) : FC Tryz.prog 148 [sD s, .one (.ptr [zbq V])] [bD (V.contains s)] := by
 have H := zbk V s
 refine zaj Tryz.call148 Tryz.func148 rfl (by kernel_rfl) (zav (by kernel_rfl)) ?_
 simp -implicitDefEqProofs only [go_sem, Tryz.results148]
 refine callF (H) (by simp -implicitDefEqProofs only [go_sem]) ?_
 simp -implicitDefEqProofs only [go_sem]
theorem zhr (e : Ex) (he : e.wt <= 1048576) (pos : Bool) : FC Tryz.prog 87 [exD e, bD pos] [bD (qgj e pos)] := by
 have hv : qgj e pos = (decide (e.nodes <= 60) && e.form.good && (zb0 e pos []).1 && !((zb0 e pos []).2.any fun n => (za5 [] (vf e.form [])).contains n)) := rfl
 have HN := qct e (by omega)
 have hs := qgr e
 have hfw := zsn e
 have HG := zcy e.form (by omega)
 simp only [exD, zai, fmD, zab] at HN HG ⊢
 cases hn : decide (e.nodes <= 60)
 ·have hs2 : decide (60 < zff e) = true := by rw [hn] at hs; rw [decide_eq_true_eq]; rw [decide_eq_false_iff_not] at hs; omega
  rw [hn, Bool.false_and, Bool.false_and, Bool.false_and] at hv
  rw [hv]
  refine zcv Tryz.call87 Tryz.func87 rfl (by kernel_rfl) (zav (by kernel_rfl)) ?_
  simp -implicitDefEqProofs only [go_sem, Tryz.results87]
  refine callF (HN) (by simp -implicitDefEqProofs only [go_sem, hs2]) ?_
  simp -implicitDefEqProofs only [go_sem, hs2]
 ·have hs2 : decide (60 < zff e) = false := by rw [hn] at hs; rw [decide_eq_false_iff_not]; rw [decide_eq_true_eq] at hs; omega
  cases hg : e.form.good
  ·rw [hn, hg, Bool.true_and, Bool.false_and, Bool.false_and] at hv
   rw [hv]
   rw [hg] at HG
   refine zcv Tryz.call87 Tryz.func87 rfl (by kernel_rfl) (zav (by kernel_rfl)) ?_
   simp -implicitDefEqProofs only [go_sem, Tryz.results87]
   refine callF (HN) (by simp -implicitDefEqProofs only [go_sem, hs2]) ?_
   simp -implicitDefEqProofs only [go_sem, hs2]
   refine callF (HG) (by simp -implicitDefEqProofs only [go_sem]) ?_
   simp -implicitDefEqProofs only [go_sem]
  ·rw [hn, hg, Bool.true_and, Bool.true_and] at hv
   rw [hg] at HG
   have HF := qkb e.form (zdt hg) (by omega)
   have hen := zd3 e
   have HI := node_c e he (zdt hg) pos [] (by simp only [List.length_nil]; omega)
   unfold ztx at HI
   generalize (zb0 e pos []).1 = b at hv HI
   generalize (zb0 e pos []).2 = E at hv HI
   generalize za5 [] (vf e.form []) = V at hv HF
   have HA := ziu E (fun s => V.contains s) 148 [.ptr [zbq V]] fun s _ => znn V s
   simp only [exD, zai, fmD, zab, List.map_nil] at HI HF
   refine zcv Tryz.call87 Tryz.func87 rfl (by kernel_rfl) (zav (by kernel_rfl)) ?_
   simp -implicitDefEqProofs only [go_sem, Tryz.results87]
   refine callF (HN) (by simp -implicitDefEqProofs only [go_sem, hs2]) ?_
   simp -implicitDefEqProofs only [go_sem, hs2]
   refine callF (HG) (by simp -implicitDefEqProofs only [go_sem]) ?_
   simp -implicitDefEqProofs only [go_sem]
   refine zkl (HF) (by simp -implicitDefEqProofs only [go_sem]) ?_
   simp -implicitDefEqProofs only [go_sem]
   refine zvu [4, 5, 6] [21, 22, 23] [17] [] (HI) (by decide) rfl (by simp -implicitDefEqProofs only [go_sem]) (by simp -implicitDefEqProofs only [go_sem]) (by simp -implicitDefEqProofs only [go_sem]) (by simp -implicitDefEqProofs only [go_sem]) ?_
   simp -implicitDefEqProofs only [go_sem]
   refine ⟨fun hb => ?_, fun hb => Or.inl (by rw [hv, hb]; rfl)⟩
   refine callF (HA) (by simp -implicitDefEqProofs only [go_sem]) ?_
   simp -implicitDefEqProofs only [go_sem]
   exact Or.inl (by rw [hv, hb]; rfl)
end Go.Proofs.YtbccfiillleimaaGreat
namespace Go.Proofs.YtbccfiillleimaaGreat
set_option linter.unusedSimpArgs false
set_option linter.unusedVariables false
set_option linter.unusedSectionVars false
set_option maxRecDepth 4000
open Go.RowKit
theorem zq6 (n : Str) (t : Tm) : ∀ f : Fm, f.forms = true -> (zbe n t f).2 = true -> (zbe n t f).1.nodes = f.nodes := zbr fun o a v ps ih hf h => by
 have hP := zob n t (.mk o a v ps)
 have hf0 := hf
 rw [Fm.forms_eq, Bool.and_eq_true] at hf0
 obtain ⟨hh, hps⟩ := hf0
 have hps : ∀ x ∈ ps, x.forms = true := List.all_eq_true.1 hps
 cases h3 : o == 3
 ·rw [hP] at h ⊢
  change (if (o == 3) = true then _ else if (isQ o && _) = true then _ else if (isQ o && _) = true then _ else (Fm.mk o (.mk [] []) v ((ps.takeWhile fun x => (zbe n t x).2).map fun x => (zbe n t x).1), ps.all fun x => (zbe n t x).2) : Fm × Bool).2 = true at h
  change (if (o == 3) = true then _ else if (isQ o && _) = true then _ else if (isQ o && _) = true then _ else (Fm.mk o (.mk [] []) v ((ps.takeWhile fun x => (zbe n t x).2).map fun x => (zbe n t x).1), ps.all fun x => (zbe n t x).2) : Fm × Bool).1.nodes = _
  rw [h3, if_neg (by simp)] at h ⊢
  split
  ·rfl
  ·rename_i h1
   rw [if_neg h1] at h
   split
   ·rename_i h2
    rw [if_pos h2] at h; cases h
   ·rename_i h2
    rw [if_neg h2] at h
    have h1 : (ps.all fun x => (zbe n t x).2) = true := h
    have hA := List.all_eq_true.1 h1
    have hw : (ps.takeWhile fun x => (zbe n t x).2) = ps := by
     have := (zcf (l := ps) (p := fun x => (zbe n t x).2) (k := ps.length) (Nat.le_refl _) (by rw [List.take_length]; exact hA) fun h => absurd h (Nat.lt_irrefl _)).1
     rw [this, List.take_length]
    rw [hw]
    show (Fm.mk o (.mk [] []) v (ps.map fun x => (zbe n t x).1)).nodes = _
    rw [Fm.nodes_eq, Fm.nodes_eq]
    show 1 + ((ps.map fun x => (zbe n t x).1).map Fm.nodes).sum = 1 + (ps.map Fm.nodes).sum
    rw [List.map_map]
    show 1 + (ps.map fun x => (zbe n t x).1.nodes).sum = _
    rw [List.map_congr_left (g := Fm.nodes) fun x hx => ih x hx (hps x hx) (hA x hx)]
 ·have ho3 : o = 3 := by simpa using h3
  obtain ⟨_, hp⟩ := zer (f := .mk o a v ps) hh ho3
  have hp : ps = [] := hp
  rw [hP]
  change (if (o == 3) = true then (Fm.mk o (zej (bnd n t) a) v [], (zej (bnd n t) a).atomOk) else _ : Fm × Bool).1.nodes = _
  rw [h3, if_pos rfl, hp, Fm.nodes_eq, Fm.nodes_eq]
  rfl
theorem zpu {α : Type} (a b : α) : same a b = same b a := by
 rw [Bool.eq_iff_iff, zba, zba]; exact eq_comm
theorem sb_put (n : Str) (t : Tm) (q : Fm) (hq : q.good = true) (hn : za2 n = true) (ht : t.good = true) (g : Fm) : ((sbF n t q).2 && same (sbF n t q).1 g) = ((zbe n t q).2 && same g (zbe n t q).1) := by
 have htn : t.names = true := ((Bool.and_eq_true _ _).mp ht).2
 have hqf := zdt hq
 have h1 := qfq n t hn htn q hqf
 have h2 := zzy n t hn htn q hqf
 unfold sbF
 rw [hq, hn, ht]
 simp only [Bool.and_self, Bool.true_and]
 rw [h1]
 cases hp : (zbe n t q).2
 ·simp only [Bool.false_and, Bool.false_eq_true, if_false]
 ·have hpf := zge n t q hqf hp
  have hpg : (zbe n t q).1.good = true := by
   unfold Fm.good at hq ⊢
   rw [Bool.and_eq_true, decide_eq_true_eq] at hq ⊢
   rw [zq6 n t q hqf hp]
   exact ⟨hq.1, hpf⟩
  rw [hpg]
  simp only [Bool.and_self, if_true, Bool.true_and]
  rw [h2.2 hp hpf, zpu]
theorem zre {f q : Fm} (h : f.good = true) (hm : q ∈ f.parts) : q.good = true := by
 unfold Fm.good at h ⊢
 rw [Bool.and_eq_true, decide_eq_true_eq] at h ⊢
 have hp := zyf hm
 have := h.2
 rw [Fm.forms_eq, Bool.and_eq_true] at this
 exact ⟨by omega, List.all_eq_true.1 this.2 q hm⟩
theorem zqp : ∀ (L : List (Bool × (List Str -> Bool × List Str))) (S : List (Bool × List Str)) (hl : L.length = S.length) (E : List Str), E.Nodup -> (∀ i (h : i < L.length), L[i].1 = true -> ∀ E : List Str, E.Nodup -> ((L[i].2 E).1 = true ↔ (S[i]'(by omega)).1 = true /\ (E ++ (S[i]'(by omega)).2).Nodup) /\ ((L[i].2 E).1 = true -> (L[i].2 E).2 = E ++ (S[i]'(by omega)).2)) →
  ((zg8 L E).1 = true ↔ (∀ i (h : i < L.length), L[i].1 = true /\ (S[i]'(by omega)).1 = true) /\ (E ++ (S.map Prod.snd).flatten).Nodup) /\ ((zg8 L E).1 = true -> (zg8 L E).2 = E ++ (S.map Prod.snd).flatten)
 | [], [], _, E, hE, _ => ⟨⟨fun _ => ⟨fun i h => by simp at h, by simpa using hE⟩, fun _ => rfl⟩, fun _ => by simp [zg8]⟩
 | [], _ :: _, hl, _, _, _ => by simp at hl
 | _ :: _, [], hl, _, _, _ => by simp at hl
 | (c, g) :: L, (s, N) :: S, hl, E, hE, h => by
  have hl' : L.length = S.length := by simpa using hl
  cases hc : c
  ·have : zg8 ((false, g) :: L) E = (false, E) := rfl
   rw [this]
   refine ⟨⟨fun h => (by cases h), fun h => ?_⟩, fun h => (by cases h)⟩
   have := (h.1 0 (by simp)).1
   cases this
  ·subst hc
   obtain ⟨k1, k2⟩ := h 0 (by simp) rfl E hE
   have k1 : (g E).1 = true ↔ s = true /\ (E ++ N).Nodup := k1
   have k2 : (g E).1 = true -> (g E).2 = E ++ N := k2
   cases hg : (g E).1
   ·have e0 : zg8 ((true, g) :: L) E = (false, (g E).2) := by unfold zg8; rw [if_pos rfl, hg, if_neg (by simp)]
    rw [e0]
    rw [hg] at k1
    refine ⟨⟨fun h => (by cases h), fun h => ?_⟩, fun h => (by cases h)⟩
    have h1 := (h.1 0 (by simp)).2
    have h2 : (E ++ N).Nodup := by
     have := h.2
     rw [List.map_cons, List.flatten_cons, <- List.append_assoc] at this
     exact (List.nodup_append.1 this).1
    exact (by have := k1.2 ⟨h1, h2⟩; cases this)
   ·have e0 : zg8 ((true, g) :: L) E = zg8 L (g E).2 := by unfold zg8; rw [if_pos rfl, hg, if_pos rfl]; cases L <;> rfl
    rw [e0, k2 hg]
    obtain ⟨s1, n1⟩ := k1.1 hg
    obtain ⟨r1, r2⟩ := zqp L S hl' (E ++ N) n1 fun i hi hci E hE => by
     have := h (i + 1) (by simpa using hi) (by simpa using hci) E hE
     simpa using this
    rw [List.map_cons, List.flatten_cons, <- List.append_assoc]
    refine ⟨r1.trans ⟨fun ⟨a, b⟩ => ⟨fun i hi => ?_, b⟩, fun ⟨a, b⟩ => ⟨fun i hi => ?_, b⟩⟩, r2⟩
    ·cases i with
     | zero => exact ⟨rfl, s1⟩
     | succ i => exact a i (by simpa using hi)
    ·exact a (i + 1) (by simpa using hi)
end Go.Proofs.YtbccfiillleimaaGreat
namespace Go.Proofs.YtbccfiillleimaaGreat
set_option linter.unusedSimpArgs false
set_option linter.unusedVariables false
set_option linter.unusedSectionVars false
set_option maxRecDepth 4000
open Go.RowKit
theorem zj0 {ps : List Ex} (t : Nat -> Ex -> Bool) (s : Nat -> Ex -> Bool) : (ps.mapIdx fun i p => (t i p && s i p)).all id = true ↔ ∀ i (h : i < ps.length), t i ps[i] = true /\ s i ps[i] = true := by
 rw [List.all_eq_true]
 constructor
 ·intro h i hi
  have := h _ (List.getElem_mem (l := ps.mapIdx fun i p => (t i p && s i p)) (n := i) (by simpa using hi))
  simpa only [List.getElem_mapIdx, id, Bool.and_eq_true] using this
 ·intro h x hx
  obtain ⟨i, hi, rfl⟩ := List.getElem_of_mem hx
  have hi' : i < ps.length := by simpa using hi
  simp only [List.getElem_mapIdx, id, Bool.and_eq_true]
  exact h i hi'
theorem zl0 (ps : List Ex) (t : Nat -> Ex -> Bool) (sg : Nat -> Bool) (ih : ∀ i (h : i < ps.length), t i ps[i] = true -> ∀ E : List Str, E.Nodup -> ((zb0 ps[i] (sg i) E).1 = true ↔ zbg ps[i] (sg i) = true /\ (E ++ za9 ps[i] (sg i)).Nodup) /\ ((zb0 ps[i] (sg i) E).1 = true -> (zb0 ps[i] (sg i) E).2 = E ++ za9 ps[i] (sg i))) (E : List Str) (hE : E.Nodup) :
  ((zg8 (ps.mapIdx fun i p => (t i p, zb0 p (sg i))) E).1 = true ↔ (ps.mapIdx fun i p => (t i p && zbg p (sg i))).all id = true /\ (E ++ (ps.mapIdx fun i p => za9 p (sg i)).flatten).Nodup) /\ ((zg8 (ps.mapIdx fun i p => (t i p, zb0 p (sg i))) E).1 = true -> (zg8 (ps.mapIdx fun i p => (t i p, zb0 p (sg i))) E).2 = E ++ (ps.mapIdx fun i p => za9 p (sg i)).flatten) := by
 have h := zqp (ps.mapIdx fun i p => (t i p, zb0 p (sg i))) (ps.mapIdx fun i p => (zbg p (sg i), za9 p (sg i))) (by simp) E hE fun i hi hc E hE => by
  have hi' : i < ps.length := by simpa using hi
  simp only [List.getElem_mapIdx] at hc ⊢
  exact ih i hi' hc E hE
 have em : (ps.mapIdx fun i p => (zbg p (sg i), za9 p (sg i))).map Prod.snd = ps.mapIdx fun i p => za9 p (sg i) := by
  refine List.ext_getElem? fun i => ?_
  simp only [List.getElem?_map, List.getElem?_mapIdx, Option.map_map, Function.comp_def]
 rw [em] at h
 refine ⟨h.1.trans (and_congr_left fun _ => ?_), h.2⟩
 rw [zj0]
 constructor
 ·intro a i hi
  have := a i (by simpa using hi)
  simpa only [List.getElem_mapIdx] using this
 ·intro a i hi
  have := a i (by simpa using hi)
  simpa only [List.getElem_mapIdx] using this
theorem qb5 : ∀ e : Ex, e.form.good = true -> ∀ pos (E : List Str), E.Nodup -> ((zb0 e pos E).1 = true ↔ zbg e pos = true /\ (E ++ za9 e pos).Nodup) /\ ((zb0 e pos E).1 = true -> (zb0 e pos E).2 = E ++ za9 e pos) := zcd fun f ts ps ih hg pos E hE => by
 rw [zo3, zd9, zgb]
 have hg : f.good = true := hg
 have eF : (Ex.mk f ts ps).form = f := rfl
 have eT : (Ex.mk f ts ps).terms = ts := rfl
 have eP : (Ex.mk f ts ps).parts = ps := rfl
 simp only [eF, eT, eP]
 cases hq : isQ f.op
 ·have hst : za0 f pos = false := by unfold za0; rw [hq]; rfl
  rw [hst]
  simp only [Bool.false_eq_true, if_false, List.nil_append]
  by_cases hc : ts.length = 0 /\ ps.length = f.parts.length
  ·rw [if_pos hc]
   have h := zl0 ps (zyw f) (fun i => sgn f i pos) (fun i hi ht E hE => ih ps[i] (List.getElem_mem hi) (by
    have hif : i < f.parts.length := by omega
    unfold zyw at ht
    rw [zb5 hif] at ht
    rw [<- zba.1 ht]
    exact zre hg (List.getElem_mem hif)) _ E hE) E hE
   rw [show decide (ts.length = 0) = true by simp [hc.1], show decide (ps.length = f.parts.length) = true by simp [hc.2], Bool.true_and, Bool.true_and]
   have e1 : (fun (i : Nat) (p : Ex) => (same p.form (f.parts.getD i (mkF 0 [])) && zbg p (sgn f i pos))) = fun i p => (zyw f i p && zbg p (sgn f i pos)) := by
    funext i p; unfold zyw; rw [zpu]
   rw [e1]
   exact h
  ·rw [if_neg hc]
   refine ⟨⟨fun h => (by cases h), fun h => ?_⟩, fun h => (by cases h)⟩
   have h := h.1
   simp only [Bool.and_eq_true, decide_eq_true_eq] at h
   exact absurd h.1 hc
 ·obtain ⟨q, hp, hqf⟩ := zfx hq (zdt hg)
  have hqg : q.good = true := zre hg (by rw [hp]; simp)
  have hvar : za2 f.var = true := by
   have := zdt hg
   rw [Fm.forms_eq, Bool.and_eq_true] at this
   exact qju this.1 hq
  have esg : (fun (i : Nat) (p : Ex) => za9 p (sgn f i pos)) = fun i p => za9 p pos := by funext i p; rw [sgn_q hq]
  have hse : za0 f pos = ((f.op == 8) == pos) := by unfold za0; rw [hq, Bool.true_and]
  simp only [if_true]
  rw [esg]
  have core : TOk ts -> ts.length = ps.length -> ∀ E1 : List Str, E1.Nodup -> ((zg8 (ps.mapIdx fun i p => (zuk f ts i p, zb0 p pos)) E1).1 = true ↔ (ps.mapIdx fun i p => (zln f ts i p && zbg p pos)).all id = true /\ (E1 ++ (ps.mapIdx fun i p => za9 p pos).flatten).Nodup) /\ ((zg8 (ps.mapIdx fun i p => (zuk f ts i p, zb0 p pos)) E1).1 = true -> (zg8 (ps.mapIdx fun i p => (zuk f ts i p, zb0 p pos)) E1).2 = E1 ++ (ps.mapIdx fun i p => za9 p pos).flatten) := fun hT hl E1 hE1 => by
   have et : ∀ i (h : i < ps.length), zuk f ts i ps[i] = zln f ts i ps[i] := fun i hi => by
    have hit : i < ts.length := by omega
    obtain ⟨g1, g2⟩ := hT i hit
    have hpq : f.parts.getD 0 (mkF 0 []) = q := by
     have hp : f.parts = [q] := hp
     rw [hp]; rfl
    unfold zuk zln
    rw [zb5 hit, hpq, sb_put f.var ts[i] q hqg hvar g1, g1, g2]
    simp only [Bool.not_false, Bool.and_self, Bool.true_and]
   have em : (ps.mapIdx fun i p => (zuk f ts i p, zb0 p pos)) = ps.mapIdx fun i p => (zln f ts i p, zb0 p pos) := by
    refine List.ext_getElem (by simp) fun i h1 h2 => ?_
    simp only [List.getElem_mapIdx]
    rw [et i (by simpa using h1)]
   rw [em]
   refine zl0 ps (zln f ts) (fun _ => pos) (fun i hi ht E hE => ih ps[i] (List.getElem_mem hi) ?_ _ E hE) E1 hE1
   have hit : i < ts.length := by omega
   have hpq : f.parts.getD 0 (mkF 0 []) = q := by
    have hp : f.parts = [q] := hp
    rw [hp]; rfl
   unfold zln at ht
   rw [zb5 hit, hpq] at ht
   simp only [Bool.and_eq_true] at ht
   rw [zba.1 ht.2]
   unfold Fm.good at hqg ⊢
   rw [Bool.and_eq_true, decide_eq_true_eq] at hqg ⊢
   rw [zq6 _ _ q hqf ht.1.2]
   exact ⟨hqg.1, zge _ _ q hqf ht.1.2⟩
  have hTS : ts.length = ps.length -> (ps.mapIdx fun i p => (zln f ts i p && zbg p pos)).all id = true -> TOk ts := fun hl h k hk => by
   have h := (zj0 (zln f ts) (fun _ p => zbg p pos)).1 h k (by omega)
   have h := h.1
   unfold zln at h
   rw [zb5 hk] at h
   simp only [Bool.and_eq_true, Bool.not_eq_true'] at h
   exact ⟨h.1.1.1, h.1.1.2⟩
  unfold zb2
  simp only [eF, eT, eP]
  cases hd : dec (TOk ts)
  ·rw [if_neg (by simp)]
   simp only [Bool.false_eq_true, if_false, false_iff, false_implies, and_true]
   rintro ⟨h1, _⟩
   simp only [Bool.and_eq_true, decide_eq_true_eq] at h1
   exact zub.1 hd (hTS h1.1.1 h1.2)
  ·have hT : TOk ts := zcs.1 hd
   rw [if_pos rfl, <- hse]
   cases hst : za0 f pos
   ·simp only [Bool.false_eq_true, if_false, Bool.not_false, Bool.true_or, Bool.and_true, List.nil_append]
    by_cases hl : ps.length = ts.length
    ·have hl' : ts.length = ps.length := hl.symm
     rw [show decide (ps.length = ts.length) = true by simp [hl], show decide (ts.length = ps.length) = true by simp [hl'], if_pos rfl, Bool.true_and]
     exact core hT hl' E hE
    ·rw [show decide (ps.length = ts.length) = false by simp [hl], show decide (ts.length = ps.length) = false by simp; omega]
     simp
   ·simp only [if_true, Bool.not_true, Bool.false_or]
    have hbad : ts.length ≠ 1 -> ∀ X : Prop, ¬ ((decide (ts.length = ps.length) && (decide (ts.length = 1) && za2 (ts.getD 0 Tm.zero).name) && (ps.mapIdx fun i p => (zln f ts i p && zbg p pos)).all id) = true /\ X) := fun h X hh => by
     have := hh.1
     simp only [Bool.and_eq_true, decide_eq_true_eq] at this
     exact h this.1.2.1
    match ts, hT, core, hbad with
    | [], _, _, hbad => exact ⟨⟨fun h => (by cases h), fun h => absurd h (hbad (by simp) _)⟩, fun h => (by cases h)⟩
    | _ :: _ :: _, _, _, hbad => exact ⟨⟨fun h => (by cases h), fun h => absurd h (hbad (by simp) _)⟩, fun h => (by cases h)⟩
    | [t], hT, core, _ =>
     have e0 : ([t].getD 0 Tm.zero) = t := rfl
     simp only [e0, List.length_singleton, decide_true, Bool.true_and]
     cases hv : za2 t.name
     ·simp only [Bool.false_and, Bool.false_eq_true, if_false, Bool.and_false, false_and, iff_false, not_false_eq_true, false_implies, and_self]
     ·cases hcn : E.contains t.name
      ·have hn : t.name ∉ E := fun hm => by rw [List.contains_iff_mem.2 hm] at hcn; cases hcn
       have hE1 : (E ++ [t.name]).Nodup := by
        rw [List.nodup_append]
        refine ⟨hE, by simp, ?_⟩
        rintro a ha b hb rfl
        rw [List.mem_singleton] at hb
        subst hb; exact hn ha
       by_cases hl : ps.length = 1
       ·simp only [Bool.true_and, Bool.not_false, if_true, hl, decide_true, Bool.and_true]
        have := core hT hl.symm (E ++ [t.name]) hE1
        rw [List.append_assoc] at this
        exact this
       ·have hl2 : ¬ 1 = ps.length := fun h => hl h.symm
        simp only [Bool.true_and, Bool.not_false, if_true, hl, hl2, decide_false, Bool.false_eq_true, if_false, Bool.false_and, false_and, iff_false, not_false_eq_true, false_implies, and_self]
      ·simp only [Bool.not_true, Bool.and_false, Bool.false_eq_true, if_false, false_iff, false_implies, and_true]
       rintro ⟨_, h⟩
       have hm : t.name ∈ E := List.contains_iff_mem.1 hcn
       have := (List.nodup_append.1 h).2.2 _ hm t.name (by simp)
       exact this rfl
theorem qg5 (e : Ex) (pos : Bool) : qgj e pos = zc7 e pos := by
 unfold qgj zc7
 cases hg : e.form.good
 ·simp
 ·obtain ⟨h1, h2⟩ := qb5 e hg pos [] List.nodup_nil
  rw [List.nil_append] at h1 h2
  cases hn : decide (e.nodes <= 60)
  ·simp
  ·simp only [Bool.true_and]
   rw [Bool.eq_iff_iff, Bool.and_eq_true, Bool.and_eq_true, h1, zcs]
   constructor
   ·rintro ⟨⟨a, b⟩, c⟩
    refine ⟨a, b, fun n hn hm => ?_⟩
    rw [h2 (h1.2 ⟨a, b⟩), Bool.not_eq_true', List.any_eq_false] at c
    exact c n hn (List.contains_iff_mem.2 hm)
   ·rintro ⟨a, b, c⟩
    refine ⟨⟨a, b⟩, ?_⟩
    rw [h2 (h1.2 ⟨a, b⟩), Bool.not_eq_true', List.any_eq_false]
    exact fun n hn hm => c n hn (List.contains_iff_mem.1 hm)
end Go.Proofs.YtbccfiillleimaaGreat
namespace Go.Proofs.YtbccfiillleimaaGreat
set_option linter.unusedSimpArgs false
set_option linter.unusedVariables false
set_option linter.unusedSectionVars false
set_option maxRecDepth 4000
open Go.RowKit
def ze8 (f : Fm) (L : List Fm) (pos : Bool) : Fm :=
 if isQ f.op = true then (if ((f.op == 8) == pos) = true then L.getD 0 (mkF 0 []) else if (f.op == 9) = true then zdu 6 L (mkF 2 []) else zdu 5 L (mkF 1 []))
 else .mk f.op f.atom [] L
def zc2 : Ex -> Bool -> Fm := Ex.fold fun f _ ps rs pos => ze8 f ((ps.zip rs).mapIdx fun i q => q.2 (sgn f i pos)) pos
abbrev zjf (e : Ex) (pos : Bool) : List Fm := e.parts.mapIdx fun i p => zc2 p (sgn e.form i pos)
theorem zjw (e : Ex) (pos : Bool) : zc2 e pos = ze8 e.form (zjf e pos) pos := by
 cases e with
 | mk f ts ps =>
  conv => lhs; unfold zc2; rw [Ex.fold_eq]
  simp only [ziq]
  rfl
theorem zhm (e : Ex) (pos : Bool) : (zjf e pos).length = e.parts.length := by simp
theorem zlb {α β γ : Type} (f : β -> γ) (g : Nat -> α -> β) (l : List α) : (l.mapIdx g).map f = l.mapIdx fun i a => f (g i a) := List.ext_getElem (by simp) fun i h1 h2 => by simp
theorem zht {α : Type} (g : Nat -> α -> Nat) (h : α -> Nat) : ∀ (ps : List α), (∀ i (hi : i < ps.length), g i ps[i] <= h ps[i]) -> (ps.mapIdx g).sum <= (ps.map h).sum
 | [], _ => by simp
 | p :: ps, H => by
  rw [List.mapIdx_cons, List.map_cons, List.sum_cons, List.sum_cons]
  have h0 := H 0 (by simp)
  have h1 := zht (fun i => g (i + 1)) h ps fun i hi => by
   have := H (i + 1) (by simpa using hi)
   simpa using this
  simp only [List.getElem_cons_zero] at h0
  omega
theorem zes {e : Ex} {pos : Bool} (h : zbg e pos = true) : (isQ e.form.op = true -> e.terms.length = e.parts.length) /\ (isQ e.form.op = false -> e.parts.length = e.form.parts.length) := by
 rw [zd9] at h
 cases hq : isQ e.form.op
 ·rw [hq, if_neg (by simp)] at h
  simp only [Bool.and_eq_true, decide_eq_true_eq] at h
  exact ⟨fun h => (by cases h), fun _ => h.1.2⟩
 ·rw [hq, if_pos rfl] at h
  simp only [Bool.and_eq_true, decide_eq_true_eq] at h
  exact ⟨fun _ => h.1.1, fun h => (by cases h)⟩
theorem zen {e : Ex} {pos : Bool} (h : zbg e pos = true) (hs : za0 e.form pos = true) : e.terms.length = 1 /\ e.parts.length = 1 := by
 have h1 := (zbu h).2 hs
 have hq : isQ e.form.op = true := by unfold za0 at hs; rw [Bool.and_eq_true] at hs; exact hs.1
 have : e.terms.length = e.parts.length := by
  rw [zd9, hq, if_pos rfl] at h
  simp only [Bool.and_eq_true, decide_eq_true_eq] at h
  exact h.1.1
 omega
theorem zq2 {α β : Type} (ps : List α) (g h : Nat -> α -> β) (H : ∀ i (hi : i < ps.length), g i ps[i] = h i ps[i]) : ps.mapIdx g = ps.mapIdx h := by
 refine List.ext_getElem (by simp) fun i h1 h2 => ?_
 have hi : i < ps.length := by simpa using h1
 simp only [List.getElem_mapIdx]
 exact H i hi
theorem qcq {α : Type} {l : List α} (h : l.Nodup) {i j : Nat} (hi : i < l.length) (hj : j < l.length) (e : l[i] = l[j]) : i = j := by
 rw [List.nodup_iff_pairwise_ne, List.pairwise_iff_getElem] at h
 rcases Nat.lt_trichotomy i j with h1 | h1 | h1
 ·exact absurd e (h i j hi hj h1)
 ·exact h1
 ·exact absurd e.symm (h j i hj hi h1)
theorem qgv (L : List Fm) (z : Fm) (k : Nat) : (L.getD k z).wt <= (L.map Fm.wt).sum + z.wt := by
 by_cases h : k < L.length
 ·rw [zb5 h]
  have := za6 Fm.wt L _ (List.getElem_mem h); omega
 ·rw [List.getD_eq_getElem?_getD, List.getElem?_eq_none (by omega)]
  show z.wt <= _; omega
theorem qai (o : Int) : (mkF o []).wt = 0 := by rw [qj1]; simp
theorem zh4 : ∀ (e : Ex) (pos : Bool), zbg e pos = true -> (zc2 e pos).wt <= e.wt /\ (zjf e pos).length + ((zjf e pos).map Fm.wt).sum <= e.wt := zcd fun f ts ps ih pos hn => by
 have hp := (zbu hn).1
 have hl := zes hn
 have hs : ((zjf (.mk f ts ps) pos).map Fm.wt).sum <= (ps.map Ex.wt).sum := by
  unfold zjf
  rw [zlb]
  exact zht _ _ _ fun i hi => (ih ps[i] (List.getElem_mem hi) _ (hp i hi)).1
 have hW : (Ex.mk f ts ps).wt = f.wt + zfr ts + (ps.length + (ps.map Ex.wt).sum) := Ex.wt_eq _
 have hlen : (zjf (.mk f ts ps) pos).length = ps.length := zhm _ _
 have hT : zfr ts = ts.length + (ts.map Tm.wt).sum := rfl
 refine ⟨?_, by omega⟩
 rw [zjw]
 generalize zjf (.mk f ts ps) pos = L at hs hlen
 show (ze8 f L pos).wt <= _
 have hl1 : isQ f.op = true -> ts.length = ps.length := hl.1
 unfold ze8
 cases hq : isQ f.op
 ·rw [if_neg (by simp), Fm.wt_eq]
  show f.atom.wt + 0 + L.length + (L.map Fm.wt).sum <= _
  have := f.wt_eq; omega
 ·rw [if_pos rfl]
  have hl2 := hl1 hq
  have g0 := qgv L (mkF 0 []) 0
  have g1 := zsr 6 (mkF 2 []) L
  have g2 := zsr 5 (mkF 1 []) L
  rw [qai] at g0 g1 g2
  split
  ·omega
  ·split
   ·omega
   ·omega
theorem znk {f : Fm} (hf : f.forms = true) : f.here = true := by
 rw [Fm.forms_eq, Bool.and_eq_true] at hf; exact hf.1
theorem qiu {f : Fm} (h : f.here = true) (hq : isQ f.op = false) : f.var = [] := by
 unfold Fm.here at h
 rw [hq] at h
 simp only [Bool.false_eq_true, if_false] at h
 (repeat' split at h) <;> first | (simp only [Bool.and_eq_true, beq_iff_eq] at h; exact h.2) | cases h
theorem zmg {f : Fm} (h : f.here = true) (h3 : (f.op == 3) = true) : f.parts.length = 0 := by
 rw [(zer h (by simpa using h3)).2]; rfl
theorem zx4 {f : Fm} (hf : f.forms = true) (h : f.parts.length = 0) (pos : Bool) : ze8 f [] pos = f := by
 have hq : isQ f.op = false := by
  cases hq : isQ f.op
  ·rfl
  ·obtain ⟨q, hp, _⟩ := zfx hq hf
   rw [hp] at h; simp at h
 have hv : f.var = [] := qiu (znk hf) hq
 have hp : f.parts = [] := List.length_eq_zero_iff.1 h
 unfold ze8
 rw [hq, if_neg (by simp)]
 cases f with
 | mk o a v ps =>
  subst hv; subst hp; rfl
theorem zxj {f : Fm} (hf : f.forms = true) (h : f.parts.length ≠ 0) (hq : isQ f.op = false) (L : List Fm) (pos : Bool) : ze8 f L pos = mkF f.op L := by
 have ha : f.atom = .mk [] [] := zkq (znk hf) (by
  cases h3 : f.op == 3
  ·rfl
  ·exact absurd (zmg (znk hf) h3) h)
 unfold ze8
 rw [hq, if_neg (by simp), ha]
 rfl
end Go.Proofs.YtbccfiillleimaaGreat
namespace Go.Proofs.YtbccfiillleimaaGreat
set_option linter.unusedSimpArgs false
set_option linter.unusedVariables false
set_option linter.unusedSectionVars false
set_option maxRecDepth 4000
open Go.RowKit
abbrev Eg := Str × List Str
def zlr : Ex -> Bool -> List Str -> List Eg := Ex.fold fun f ts ps rs pos ab => ((ps.zip rs).mapIdx fun i q =>
 if za0 f pos = true then ((ts.getD i Tm.zero).name, ab) :: q.2 (sgn f i pos) ab else q.2 (sgn f i pos) (if isQ f.op = true then ab ++ za5 [] (voI (ts.getD i Tm.zero)) else ab)).flatten
theorem ztr (e : Ex) (pos : Bool) (ab : List Str) : zlr e pos ab = (e.parts.mapIdx fun i p =>
 if za0 e.form pos = true then ((e.terms.getD i Tm.zero).name, ab) :: zlr p (sgn e.form i pos) ab else zlr p (sgn e.form i pos) (if isQ e.form.op = true then ab ++ za5 [] (voI (e.terms.getD i Tm.zero)) else ab)).flatten := by
 cases e with
 | mk f ts ps =>
  conv => lhs; unfold zlr; rw [Ex.fold_eq]
  simp only [ziq]
  rfl
def zgy : Ex -> Bool -> List Str -> List (Str × Str) := Ex.fold fun f ts ps rs pos ab => (if za0 f pos = true then ab.map fun x => (x, (ts.getD 0 Tm.zero).name) else []) ++
 ((ps.zip rs).mapIdx fun i q => q.2 (sgn f i pos) (if (isQ f.op && !za0 f pos) = true then za5 ab (voS (ts.getD i Tm.zero)) else ab)).flatten
theorem zpc (e : Ex) (pos : Bool) (ab : List Str) : zgy e pos ab = (if za0 e.form pos = true then ab.map fun x => (x, (e.terms.getD 0 Tm.zero).name) else []) ++
 (e.parts.mapIdx fun i p => zgy p (sgn e.form i pos) (if (isQ e.form.op && !za0 e.form pos) = true then za5 ab (voS (e.terms.getD i Tm.zero)) else ab)).flatten := by
 cases e with
 | mk f ts ps =>
  conv => lhs; unfold zgy; rw [Ex.fold_eq]
  simp only [ziq]
  rfl
theorem zm9 : ∀ (e : Ex) (pos : Bool) (ab : List Str), zbg e pos = true -> (zlr e pos ab).map Prod.fst = za9 e pos := zcd fun f ts ps ih pos ab hn => by
 rw [ztr, zgb, List.map_flatten, zlb]
 have hp := (zbu hn).1
 have eF : (Ex.mk f ts ps).form = f := rfl
 have eT : (Ex.mk f ts ps).terms = ts := rfl
 have eP : (Ex.mk f ts ps).parts = ps := rfl
 simp only [eF, eT, eP] at hp ⊢
 cases hs : za0 f pos
 ·simp only [Bool.false_eq_true, if_false, List.nil_append]
  congr 1
  exact zq2 _ _ _ fun i hi => ih ps[i] (List.getElem_mem hi) _ _ (hp i hi)
 ·obtain ⟨_, h1⟩ := zen hn hs
  have h1 : ps.length = 1 := h1
  obtain ⟨p, rfl⟩ := List.length_eq_one_iff.1 h1
  have h0 := ih p (by simp) (sgn f 0 pos) ab (hp 0 (by simp))
  simp only [if_true, List.mapIdx_cons, List.mapIdx_nil, List.flatten_cons, List.flatten_nil, List.append_nil, List.map_cons, h0]
  rfl
theorem zmj {l ss : List Str} {x : Str} : x ∈ za5 l ss ↔ x ∈ l \/ x ∈ ss := (zic ss l x).trans or_comm
theorem zgt {a : Tm} (h : a.good = true) : a.names = true := by unfold Tm.good at h; rw [Bool.and_eq_true] at h; exact h.2
theorem ze6 {e : Ex} {pos : Bool} (h : zbg e pos = true) (hq : isQ e.form.op = true) : ∀ i, i < e.terms.length -> (e.terms.getD i Tm.zero).good = true := fun i hi => by
 rw [zd9, hq, if_pos rfl] at h
 simp only [Bool.and_eq_true, decide_eq_true_eq] at h
 obtain ⟨⟨hl, _⟩, h⟩ := h
 have hi' : i < e.parts.length := by omega
 have := (zj0 (ps := e.parts) (fun i p => zln e.form e.terms i p) (fun i p => zbg p pos)).1 h i hi'
 have := this.1
 unfold zln at this
 simp only [Bool.and_eq_true] at this
 exact this.1.1.1
theorem qd9 : ∀ (e : Ex) (pos : Bool) (ab ab' : List Str), zbg e pos = true -> (∀ x, x ∈ ab' ↔ x ∈ ab) -> ∀ x y, (x, y) ∈ zgy e pos ab' ↔ ∃ a, (y, a) ∈ zlr e pos ab /\ x ∈ a := zcd fun f ts ps ih pos ab ab' hn hab x y => by
 have hp := (zbu hn).1
 have hl := (zes hn).1
 have hg := ze6 hn
 have hso := zen hn
 rw [zpc, ztr]
 have eF : (Ex.mk f ts ps).form = f := rfl
 have eT : (Ex.mk f ts ps).terms = ts := rfl
 have eP : (Ex.mk f ts ps).parts = ps := rfl
 simp only [eF, eT, eP] at hp hl hg hso ⊢
 have mf : ∀ {β : Type} (g : Nat -> Ex -> List β) (z : β), z ∈ (ps.mapIdx g).flatten ↔ ∃ i, ∃ h : i < ps.length, z ∈ g i ps[i] := fun g z => by
  rw [List.mem_flatten]
  constructor
  ·rintro ⟨l, hl, hz⟩
   obtain ⟨i, hi, rfl⟩ := List.getElem_of_mem hl
   have hi' : i < ps.length := by simpa using hi
   rw [List.getElem_mapIdx] at hz
   exact ⟨i, hi', hz⟩
  ·rintro ⟨i, hi, hz⟩
   exact ⟨g i ps[i], by rw [List.mem_iff_getElem]; exact ⟨i, by simpa using hi, by simp⟩, hz⟩
 cases hs : za0 f pos
 ·simp only [Bool.false_eq_true, if_false, List.nil_append, Bool.not_false, Bool.and_true]
  rw [mf]
  constructor
  ·rintro ⟨i, hi, hm⟩
   have hab2 : ∀ z, z ∈ (if isQ f.op = true then za5 ab' (voS (ts.getD i Tm.zero)) else ab') ↔ z ∈ (if isQ f.op = true then ab ++ za5 [] (voI (ts.getD i Tm.zero)) else ab) := fun z => by
    cases hq : isQ f.op
    ·simpa using hab z
    ·have hv := zgn _ (zgt (hg hq i (by have := hl hq; omega)))
     simp only [if_true, zmj, List.mem_append, hv.1, hab z]
     simp
   obtain ⟨a, h1, h2⟩ := (ih ps[i] (List.getElem_mem hi) (sgn f i pos) _ _ (hp i hi) hab2 x y).1 hm
   exact ⟨a, (mf _ _).2 ⟨i, hi, h1⟩, h2⟩
  ·rintro ⟨a, hm, hx⟩
   obtain ⟨i, hi, h1⟩ := (mf _ _).1 hm
   have hab2 : ∀ z, z ∈ (if isQ f.op = true then za5 ab' (voS (ts.getD i Tm.zero)) else ab') ↔ z ∈ (if isQ f.op = true then ab ++ za5 [] (voI (ts.getD i Tm.zero)) else ab) := fun z => by
    cases hq : isQ f.op
    ·simpa using hab z
    ·have hv := zgn _ (zgt (hg hq i (by have := hl hq; omega)))
     simp only [if_true, zmj, List.mem_append, hv.1, hab z]
     simp
   exact ⟨i, hi, (ih ps[i] (List.getElem_mem hi) (sgn f i pos) _ _ (hp i hi) hab2 x y).2 ⟨a, h1, hx⟩⟩
 ·obtain ⟨h2, h1⟩ := hso hs
  obtain ⟨p, rfl⟩ := List.length_eq_one_iff.1 h1
  have h0 := ih p (by simp) (sgn f 0 pos) ab ab' (hp 0 (by simp)) hab x y
  simp only [if_true, Bool.not_true, Bool.and_false, Bool.false_eq_true, if_false, List.mapIdx_cons, List.mapIdx_nil, List.flatten_cons, List.flatten_nil, List.append_nil, List.mem_append, List.mem_map, List.mem_cons, h0]
  constructor
  ·rintro (⟨z, hz, e⟩ | ⟨a, h3, h4⟩)
   ·cases e
    exact ⟨ab, Or.inl rfl, (hab _).1 hz⟩
   ·exact ⟨a, Or.inr h3, h4⟩
  ·rintro ⟨a, h3 | h3, h4⟩
   ·cases h3
    exact Or.inl ⟨x, (hab x).2 h4, rfl⟩
   ·exact Or.inr ⟨a, h3, h4⟩
def zwg (L : List Eg) (out : List Str) (x : Eg) : Bool := !out.contains x.1 && !(L.any fun y => x.2.contains y.1 && !out.contains y.1)
def qe8 (N : List Str) (Pr : List (Str × Str)) (out : List Str) (n : Str) : Bool := !out.contains n && !(Pr.any fun p => p.2 == n && N.contains p.1 && !out.contains p.1)
theorem qgg {L : List Eg} {N : List Str} {Pr : List (Str × Str)} (hN : L.map Prod.fst = N) (hd : N.Nodup) (hP : ∀ x y, (x, y) ∈ Pr ↔ ∃ a, (y, a) ∈ L /\ x ∈ a) (out : List Str) {z : Eg} (hz : z ∈ L) : zwg L out z = qe8 N Pr out z.1 := by
 have huni : ∀ a, (z.1, a) ∈ L -> a = z.2 := fun a ha => by
  rw [<- hN] at hd
  obtain ⟨i, hi, e1⟩ := List.mem_iff_getElem.1 ha
  obtain ⟨j, hj, e2⟩ := List.mem_iff_getElem.1 hz
  have : i = j := qcq hd (by simpa using hi) (by simpa using hj) (by simp [e1, e2])
  subst this
  rw [e1] at e2
  exact congrArg Prod.snd e2
 have key : (L.any fun y => z.2.contains y.1 && !out.contains y.1) = (Pr.any fun p => p.2 == z.1 && N.contains p.1 && !out.contains p.1) := by
  rw [Bool.eq_iff_iff, List.any_eq_true, List.any_eq_true]
  constructor
  ·rintro ⟨y, hy, h⟩
   rw [Bool.and_eq_true, List.contains_iff_mem] at h
   refine ⟨(y.1, z.1), (hP _ _).2 ⟨z.2, hz, h.1⟩, ?_⟩
   simp only [beq_self_eq_true, Bool.true_and, Bool.and_eq_true, List.contains_iff_mem]
   exact ⟨by rw [<- hN]; exact List.mem_map_of_mem hy, h.2⟩
  ·rintro ⟨⟨x, y⟩, hp, h⟩
   simp only [Bool.and_eq_true, beq_iff_eq, List.contains_iff_mem] at h
   obtain ⟨⟨rfl, h1⟩, h2⟩ := h
   obtain ⟨a, h3, h4⟩ := (hP _ _).1 hp
   obtain rfl := huni a h3
   rw [<- hN] at h1
   obtain ⟨w, hw, rfl⟩ := List.mem_map.1 h1
   exact ⟨w, hw, by rw [Bool.and_eq_true, List.contains_iff_mem]; exact ⟨h4, h2⟩⟩
 unfold zwg qe8
 rw [key]
end Go.Proofs.YtbccfiillleimaaGreat
