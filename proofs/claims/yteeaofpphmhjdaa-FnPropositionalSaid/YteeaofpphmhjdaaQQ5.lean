/-
  The walk over plain data, and contracts of functions of the program and of its laws.
  Conditions: those that each theorem names.
-/
import Derived.Shelf.SlSortCmp.Whole1
import Derived.Test.YteeaofpphmhjdaaQQ4
import Derived.MapKept
import Derived.Lib.SliceRun
import Derived.Deep.LoopGhost
import Derived.Sort.OwnSortedInts
import Derived.RegionTactic
import Derived.BigRegion
namespace Go.Proofs
open Go.Shelf
set_option maxRecDepth 100000
def Try.laysSF_ren : Go.Shelf.Ren := ⟨fun | 6 => 61 | 15 => 107 | 14 => 106 | 28 => 127 | 29 => 128 | 20 => 119 | 21 => 120 | 22 => 121 | 23 => 122 | 24 => 123 | 25 => 124 | 26 => 125 | 27 => 126 | 46 => 132 | 47 => 133 | 48 => 134 | 49 => 135 | 50 => 136 | 57 => 137 | n => n, fun | 22 => 27 | 24 => 3 | 25 => 74 | 3 => 3 | 39 => 113 | 0 => 0 | 53 => 127 | 55 => 58 | 4 => 4 | 46 => 121 | 45 => 120 | 50 => 37 | 5 => 5 | 9 => 9 | 66 => 130 | 70 => 134 | 76 => 136 | 77 => 75 | n => n, fun | n => n⟩
theorem Try.laysSF : Go.Proofs.SlLaysF.n6 Try.prog Try.laysSF_ren := {
 mixed := by kernel_rfl
 f6 := ⟨Try.f61.name, by decide, Try.func61.trans (congrArg some (by kernel_rfl))⟩
 f14 := ⟨Try.f106.name, by decide, Try.func106.trans (congrArg some (by kernel_rfl))⟩
 f15 := Try.func107.trans (congrArg some (by kernel_rfl))
 f20 := ⟨Try.f119.name, by decide, Try.func119.trans (congrArg some (by kernel_rfl))⟩
 f21 := ⟨Try.f120.name, by decide, Try.func120.trans (congrArg some (by kernel_rfl))⟩
 f22 := ⟨Try.f121.name, by decide, Try.func121.trans (congrArg some (by kernel_rfl))⟩
 f23 := ⟨Try.f122.name, by decide, Try.func122.trans (congrArg some (by kernel_rfl))⟩
 f24 := ⟨Try.f123.name, by decide, Try.func123.trans (congrArg some (by kernel_rfl))⟩
 f25 := ⟨Try.f124.name, by decide, Try.func124.trans (congrArg some (by kernel_rfl))⟩
 f26 := ⟨Try.f125.name, by decide, Try.func125.trans (congrArg some (by kernel_rfl))⟩
 f27 := ⟨Try.f126.name, by decide, Try.func126.trans (congrArg some (by kernel_rfl))⟩
 f28 := Try.func127.trans (congrArg some (by kernel_rfl))
 f29 := Try.func128.trans (congrArg some (by kernel_rfl))
 f46 := ⟨Try.f132.name, by decide, Try.func132.trans (congrArg some (by kernel_rfl))⟩
 f47 := Try.func133.trans (congrArg some (by kernel_rfl))
 f48 := Try.func134.trans (congrArg some (by kernel_rfl))
 f49 := ⟨Try.f135.name, by decide, Try.func135.trans (congrArg some (by kernel_rfl))⟩
 f50 := ⟨Try.f136.name, by decide, Try.func136.trans (congrArg some (by kernel_rfl))⟩
 f57 := ⟨Try.f137.name, by decide, Try.func137.trans (congrArg some (by kernel_rfl))⟩
 t0 := Try.underlying0
 a0 := Try.isAgg0
 z0 := Try.sizeOf0
 v0 := Try.zeroValue0
 t3 := Try.underlying3
 a3 := Try.isAgg3
 z3 := Try.sizeOf3
 v3 := Try.zeroValue3
 t4 := Try.underlying4
 a4 := Try.isAgg4
 z4 := Try.sizeOf4
 v4 := Try.zeroValue4
 t5 := Try.underlying5
 a5 := Try.isAgg5
 z5 := Try.sizeOf5
 v5 := Try.zeroValue5
 t9 := Try.underlying9
 a9 := Try.isAgg9
 z9 := Try.sizeOf9
 v9 := Try.zeroValue9
 t22 := Try.underlying27
 a22 := Try.isAgg27
 z22 := Try.sizeOf27
 v22 := Try.zeroValue27
 a24 := Try.isAgg3
 z24 := Try.sizeOf3
 t25 := Try.underlying74
 a25 := Try.isAgg74
 z25 := Try.sizeOf74
 v25 := Try.zeroValue74
 t39 := Try.underlying113
 a39 := Try.isAgg113
 z39 := Try.sizeOf113
 v39 := Try.zeroValue113
 t45 := Try.underlying120
 a45 := Try.isAgg120
 z45 := Try.sizeOf120
 v45 := Try.zeroValue120
 t46 := Try.underlying121
 a46 := Try.isAgg121
 z46 := Try.sizeOf121
 v46 := Try.zeroValue121
 t50 := Try.underlying37
 a50 := Try.isAgg37
 z50 := Try.sizeOf37
 v50 := Try.zeroValue37
 t53 := Try.underlying127
 a53 := Try.isAgg127
 z53 := Try.sizeOf127
 v53 := Try.zeroValue127
 t55 := Try.underlying58
 a55 := Try.isAgg58
 z55 := Try.sizeOf58
 v55 := Try.zeroValue58
 t66 := Try.underlying130
 a66 := Try.isAgg130
 z66 := Try.sizeOf130
 v66 := Try.zeroValue130
 t70 := Try.underlying134
 a70 := Try.isAgg134
 z70 := Try.sizeOf134
 v70 := Try.zeroValue134
 t76 := Try.underlying136
 a76 := Try.isAgg136
 z76 := Try.sizeOf136
 v76 := Try.zeroValue136
 t77 := Try.underlying75
 a77 := Try.isAgg75
 z77 := Try.sizeOf75
 v77 := Try.zeroValue75 }
end Go.Proofs
namespace Go.Proofs.Yteeaofpphmhjdaa
set_option linter.unusedSimpArgs false
set_option linter.unusedVariables false
set_option linter.unusedSectionVars false
set_option maxRecDepth 4000
open Go.RowKit
variable {P : Program} {N : Nat}
def zb5 (P : Program) (N : Nat) (c : Code) (σ : St) (Q : Exit -> St -> Prop) : Prop := ∀ n0 w0 A0 g a w, Rel n0 N σ g a w -> LtK n0 w -> Bk n0 w0 w -> (g.A0, g.R0) = A0 -> c.wp P (Ends n0 N w0 A0 Q) a w
theorem Ends.mono {n0 : Nat -> Prop} {w0 : World} {A0 : (Nat -> Prop) × RP} {Q Q' : Exit -> St -> Prop} (h : ∀ e σ, Q e σ -> Q' e σ) {e : Exit} {a : Act} {w : World} : Ends n0 N w0 A0 Q e a w -> Ends n0 N w0 A0 Q' e a w
 | ⟨σ, g, h1, h2⟩ => ⟨σ, g, h _ _ h1, h2⟩
theorem zb5.mono {c : Code} {σ : St} {Q Q' : Exit -> St -> Prop} (h : ∀ e σ, Q e σ -> Q' e σ) (k : zb5 P N c σ Q) : zb5 P N c σ Q' := fun n0 w0 A0 g a w h1 h2 h3 h4 => wp_mono (k n0 w0 A0 g a w h1 h2 h3 h4) fun _ _ _ => Ends.mono h
theorem zb5.ofEx {c : Code} {σ : St} {Q : Exit -> St -> Prop} (hd : zbz N c = true) (h : ex P c [] Q σ) : zb5 P N c σ Q := fun _ _ _ g a w h1 h2 h3 h4 => za7 c σ Q hd h g a w h1 h2 h3 h4
def zoi (P : Program) (N : Nat) (c : Code) (Q : Exit -> St -> Prop) (e : Exit) (σ : St) : Prop := match e with | .normal => zb5 P N c σ Q | e => Q e σ
theorem zis (c : Code) (Q : Exit -> St -> Prop) (σ : St) : zoi P N c Q .normal σ = zb5 P N c σ Q := rfl
theorem zoy (c : Code) (Q : Exit -> St -> Prop) (σ : St) : zoi P N c Q .ret σ = Q .ret σ := rfl
theorem zmw (c : Code) (Q : Exit -> St -> Prop) (σ : St) (i : Nat) : zoi P N c Q (.exit i) σ = Q (.exit i) σ := rfl
theorem zb5.seq {x y : Code} {σ : St} {Q : Exit -> St -> Prop} (h : zb5 P N x σ (zoi P N y Q)) : zb5 P N (.seq x y) σ Q := fun n0 w0 A0 g a w h1 h2 h3 h4 => by
 refine wp_seq (wp_mono (h n0 w0 A0 g a w h1 h2 h3 h4) fun e a' w' hq => ?_)
 obtain ⟨σ', g', k1, k2, k3, k4, k5⟩ := hq
 cases e with
 | normal => exact k1 n0 w0 A0 g' a' w' k2 k3 k4 k5
 | exit i => exact ⟨σ', g', k1, k2, k3, k4, k5⟩
 | goto l => exact ⟨σ', g', k1, k2, k3, k4, k5⟩
 | ret => exact ⟨σ', g', k1, k2, k3, k4, k5⟩
 | panic ch => exact ⟨σ', g', k1, k2, k3, k4, k5⟩
 | outgrown => exact ⟨σ', g', k1, k2, k3, k4, k5⟩
def preC : Nat -> Code -> Code
 | 0, .seq x _ => x
 | n + 1, .seq x y => .seq x (preC n y)
 | _, c => c
def sufC : Nat -> Code -> Code
 | 0, .seq _ y => y
 | n + 1, .seq _ y => sufC n y
 | _, _ => .skip
def okC : Nat -> Code -> Bool
 | 0, .seq _ _ => true
 | n + 1, .seq _ y => okC n y
 | _, _ => false
theorem zb5.cut : ∀ (n : Nat) {c : Code} {σ : St} {Q : Exit -> St -> Prop}, okC n c = true -> zbz N (preC n c) = true -> ex P (preC n c) [] (zoi P N (sufC n c) Q) σ -> zb5 P N c σ Q
 | 0, .seq x y, σ, Q, _, hd, h => zb5.seq (zb5.ofEx hd h)
 | n + 1, .seq x y, σ, Q, ho, hd, h => by
  simp only [preC, zbz, Bool.and_eq_true] at hd
  refine zb5.seq (zb5.mono (fun e σ' k => ?_) (zb5.ofEx (Q := _) hd.1 h))
  cases e with
  | normal => exact zb5.cut n ho hd.2 k
  | exit i => exact k
  | goto l => exact k
  | ret => exact k
  | panic ch => exact k
  | outgrown => exact k
attribute [go_sem] zis zoy zmw preC sufC
end Go.Proofs.Yteeaofpphmhjdaa
namespace Go.Proofs.Yteeaofpphmhjdaa
set_option linter.unusedSimpArgs false
set_option linter.unusedVariables false
set_option linter.unusedSectionVars false
set_option maxRecDepth 4000
open Go.RowKit
variable {P : Program} {N : Nat}
theorem zjd {ops : Array Oper} {K : St -> Prop} {n0 : Nat -> Prop} {w0 : World} {A0 : (Nat -> Prop) × RP} {R : Exit -> Act -> World -> Prop} {rest : List Nat} (hg : ∀ o ∈ ops.toList, o.guard = none) (hR : ∀ a w σ g, K σ -> Rel n0 N σ g a w -> LtK n0 w -> Bk n0 w0 w -> (g.A0, g.R0) = A0 -> wpOps P ops R rest a w) :
  ∀ (k i : Nat), i + k <= ops.size -> (∀ o ∈ ops.toList, ∀ d, o.dst = some d -> d < N) -> ∀ (σ : St) (g : Gh) (a : Act) (w : World), za3 P ops ((ops.toList.drop i).take k) σ K -> Rel n0 N σ g a w -> LtK n0 w -> Bk n0 w0 w -> (g.A0, g.R0) = A0 -> wpOps P ops R (List.range' i k ++ rest) a w
 | 0, i, hi, hd, σ, g, a, w, h, hr, hn, hb, hA => by
  rw [List.take_zero] at h
  exact hR a w σ g h hr hn hb hA
 | k + 1, i, hi, hd, σ, g, a, w, h, hr, hn, hb, hA => by
  have hlt : i < ops.size := by omega
  have hcons : ops.toList.drop i = ops[i] :: ops.toList.drop (i + 1) := by
   rw [List.drop_eq_getElem_cons (by simpa using hlt)]; rfl
  rw [hcons, List.take_succ_cons] at h
  rw [show List.range' i (k + 1) ++ rest = i :: (List.range' (i + 1) k ++ rest) from rfl, wpOps_cons]
  have ho : ops[i]? = some ops[i] := by simp [hlt]
  have hdi : ∀ d, ops[i].dst = some d -> d < N := hd _ (by simp)
  have hgi : ops[i].guard = none := hg _ (by simp)
  unfold wpOp
  simp only [ho]
  unfold za3 exG at h
  rw [hgi] at h
  have : Region.wanted ops[i] (yielded ops a.tmps) = true := by simp [Region.wanted, hgi]
  rw [if_pos this]
  exact Or.inl (zca (fun a' w' ⟨σ', g', h0, k1, k2, k3, k4⟩ => zjd hg hR k (i + 1) (by omega) hd σ' g' a' w' h0 k1 (hn.mono k2.size) (hb.trans k2) (by rw [k3, k4]; exact hA)) (zdx h n0 N g a w hr hn hdi))
end Go.Proofs.Yteeaofpphmhjdaa
namespace Go.Proofs.Yteeaofpphmhjdaa
set_option linter.unusedSimpArgs false
set_option linter.unusedVariables false
set_option linter.unusedSectionVars false
set_option maxRecDepth 4000
open Go.RowKit
variable {P : Program} {N : Nat}
attribute [go_sem] Option.bind_some Option.map_some
end Go.Proofs.Yteeaofpphmhjdaa
namespace Go.Proofs.Yteeaofpphmhjdaa
set_option linter.unusedSimpArgs false
set_option linter.unusedVariables false
set_option linter.unusedSectionVars false
set_option maxRecDepth 4000
open Go.RowKit
variable {P : Program} {N : Nat}
theorem zcp {w : World} {zt : T} {z : Value} (h : zaq w zt z []) : ∀ n, zal w (List.replicate n [zt]).flatten (List.replicate n z) []
 | 0 => ⟨rfl, rfl⟩
 | n + 1 => by
  rw [List.replicate_succ, List.replicate_succ, List.flatten_cons]
  exact ⟨z, List.replicate n z, [], [], rfl, rfl, h, zcp h n⟩
theorem zil : ∀ {rows : List (List T)}, lens 1 rows -> rows.flatten.length = rows.length
 | [], _ => rfl
 | r :: rs, h => by
  rw [List.flatten_cons, List.length_append, zil fun x hx => h x (by simp [hx]), h r (by simp), List.length_cons]; omega
theorem zf6 : ∀ {rows : List (List T)} (k : Nat), lens 1 rows -> (rows.take k).flatten = rows.flatten.take k
 | [], k, _ => by simp
 | r :: rs, 0, _ => rfl
 | r :: rs, k + 1, h => by
  obtain ⟨x, rfl⟩ := List.length_eq_one_iff.1 (h r (by simp))
  rw [List.take_succ_cons, List.flatten_cons, List.flatten_cons, zf6 k fun y hy => h y (by simp [hy])]
  rfl
theorem zig : ∀ {rows : List (List T)} (k : Nat), flR rows = true -> flR (rows.take k) = true
 | [], k, _ => by simp [flR]
 | r :: rs, 0, _ => rfl
 | r :: rs, k + 1, h => by
  unfold flR at h
  rw [Bool.and_eq_true] at h
  rw [List.take_succ_cons]
  unfold flR
  rw [h.1, zig k h.2]; rfl
def clrM (P : Program) (t : TypeId) (x lo : Operand) (d : Nat) (zt : T) (K : St -> Prop) (σ : St) : Prop := match σ.get P t x, σ.get P 0 lo with
 | .one (.ow e gn), .one (.t (.int _ k)) => zan (σ.ev e) fun y => y.gen = gn /\ y.on = true /\ y.deep = true /\ y.sz = 1 /\ flR y.rows = true /\ 0 <= k /\ k < y.rows.length /\ K ((σ.apd e [] ⟨true, 1, y.rows.take k.toNat ++ List.replicate (y.rows.length - k.toNat) [zt], gn, true⟩).put (some d) (.one .any))
 | _, _ => False
theorem zu8 {t : TypeId} {x lo : Operand} {d : Nat} {zt : T} {K : St -> Prop} {σ : St} (h : clrM P t x lo d zt K σ) : ∃ e gn kk k rows, σ.get P t x = .one (.ow e gn) /\ σ.get P 0 lo = .one (.t (.int kk k)) /\ σ.ev e = some ⟨true, 1, rows, gn, true⟩ /\ flR rows = true /\ 0 <= k /\ k < rows.length /\ K ((σ.apd e [] ⟨true, 1, rows.take k.toNat ++ List.replicate (rows.length - k.toNat) [zt], gn, true⟩).put (some d) (.one .any)) := by
 unfold clrM at h
 split at h
 ·rename_i e gn kk k h1 h2
  obtain ⟨y, he, h3⟩ := zai h
  obtain ⟨dp, sz, rows, g, on⟩ := y
  obtain ⟨rfl, rfl, rfl, rfl, h4, h5, h6, h7⟩ := h3
  exact ⟨e, _, kk, k, rows, h1, h2, he, h4, h5, h6, h7⟩
 ·exact h.elim
theorem zb5.clr {i d : Nat} {ops : Array Oper} {t el : TypeId} {x lo : Operand} {y0 y1 : TypeId} {p0 p1 : String} {f0 f1 : Array Edge} {σ : St} {Q : Exit -> St -> Prop} {z : Value} (m : Nat) (zt : T) (hz : ops.size = m + 2) (c0 : ops[m]? = some ⟨some d, .slice t x (some lo) none none, y0, p0, f0, none⟩) (c1 : ops[m + 1]? = some ⟨none, .call ⟨.builtin .clear, #[.tmp d], #[t]⟩, y1, p1, f1, none⟩)
  (hg : (ops.toList.all fun o => o.guard.isNone) = true) (hd : zbz N (.region i ops false) = true) (hdN : d < N) (hel : elT P t = some el) (hsz : za5 P el = some 1) (hzv : ∀ w, (zeroValue el).run P w = .ok z w) (hzc : z.cells = #[z]) (hz1 : z.oneCell' = true) (hzt : ∀ w, zaq w zt z []) (hzf : zt.flat = true)
  (h : exo P ops (ops.toList.take m) [] (fun _ σ' => clrM P t x lo d zt (Q .normal) σ') σ) : zb5 P N (.region i ops false) σ Q := fun n0 w0 A0 g a w hR hn hb hA => by
 refine wp_region ?_
 have hd' : ∀ o ∈ ops.toList, ∀ d, o.dst = some d -> d < N := fun o ho d hdd => by
  simp only [zbz, Array.all_eq_true_iff_forall_mem] at hd
  have := hd o (by simpa using ho)
  rw [hdd] at this
  simpa using this
 have hg' : ∀ o ∈ ops.toList, o.guard = none := fun o ho => by
  have := List.all_eq_true.1 hg o ho
  simpa using this
 rw [hz, List.range_eq_range', show List.range' 0 (m + 2) = List.range' 0 m ++ [m, m + 1] by rw [show m + 2 = m + 1 + 1 from rfl, List.range'_1_concat, List.range'_1_concat]; simp]
 refine zjd (w0 := w0) (A0 := A0) hg' ?_ m 0 (by omega) hd' σ g a w (by simpa [exo, zn9] using h) hR hn hb hA
 intro a w σ g hK hR hn hb hA
 obtain ⟨e, gn, kk, k, rows, s1, s2, he, hfl, hk0, hkl, hK⟩ := zu8 hK
 have v1 := hR.get P t x
 rw [s1] at v1
 obtain ⟨v1, -⟩ := v1
 obtain ⟨vs0, fps, top, hT⟩ := hR.tgt he rfl
 have hlens := hT.lens
 simp only at hlens
 rcases hT.val with ⟨_, hh, _⟩ | ⟨b, cap, cells, cty, w1, w2, w3, w4, w5, w6, w7⟩
 ·simp only at hh; rw [hh] at hkl; simp at hkl; omega
 simp only at w1 w2 w5 w6
 obtain ⟨kn, rfl⟩ : ∃ kn : Nat, k = kn := ⟨k.toNat, by omega⟩
 rw [Int.toNat_natCast] at hK
 have hkl : kn < rows.length := by omega
 have hfps : fps = [] := by
  have hown := hT.own rfl
  simp only at hown
  have : ∀ {ts : List T} {vs : List Value} {f : List Nat}, (∀ c ∈ ts, c.flat = true) -> zal w ts vs f -> f = [] := fun {ts} => by
   induction ts with
   | nil => intro vs f _ h; exact h.2
   | cons c ts ih =>
    intro vs f hc h
    obtain ⟨v, vs', f1, f2, _, rfl, h1, h2⟩ := h
    rw [ih (fun c' hc' => hc c' (by simp [hc'])) h2, List.append_nil]
    have hcf := hc c (by simp)
    cases c <;> simp only [T.flat, Bool.false_eq_true] at hcf <;> unfold zaq at h1
    ·exact h1.2.2.2
    ·exact h1.2
    ·exact h1.2.2
    ·exact h1.2
  exact this (zd8 hfl) hown
 subst hfps
 have hbn := zbv (P := P) (low := some lo) (high := none) (len := rows.length) (cap := cap) hR true (l := (kn : Int)) (u := (rows.length : Int)) (by simp only [zfu, s2]) rfl (by omega) (by omega) (by omega) w2
 have hun : P.underlying t = some (.slice el) := zcx hel
 have e0 : (execOp a.eval ⟨some d, .slice t x (some lo) none none, y0, p0, f0, none⟩).run P w = .ok (.value (.slice (some ⟨b, kn, none⟩) (rows.length - kn) (cap - kn))) w := by
  unfold execOp
  have hcp : ¬ cap = kn := by omega
  rw [Int.toNat_natCast, Int.toNat_natCast, Option.map_some, Option.map_none] at hbn
  simp only [Instr.sliceAt, Instr.slice, Sem.run_bind, run_underlying hun, Result.andThen, v1, w1, Option.map_some, Option.map_none, hbn, za4 hsz, Sem.run_pure]
  rw [if_neg hcp]
  simp only [Addr.add]
  congr 2
  split <;> simp_all
 rw [wpOps_cons]
 unfold wpOp
 simp only [c0]
 rw [if_pos (by simp [Region.wanted])]
 refine Or.inl ?_
 unfold Oper.wp
 rw [e0]
 show wpOps P ops _ [m + 1] _ w
 rw [wpOps_cons]
 unfold wpOp
 simp only [c1]
 rw [if_pos (by simp [Region.wanted])]
 refine Or.inl ?_
 unfold Oper.wp
 have ev : (a.put (some d) (.slice (some ⟨b, kn, none⟩) (rows.length - kn) (cap - kn))).eval (.tmp d) = .slice (some ⟨b, kn, none⟩) (rows.length - kn) (cap - kn) := by
  show (a.tmps.setIfInBounds d _).getD d undef = _
  exact zck hR.size hdN _ _
 have hcs : kn + (rows.length - kn) <= cells.size := by rw [w5]; omega
 have hst := run_storeCells_at P b kn cty (List.replicate (rows.length - kn) z) 0 cells w w4 (by simpa using hcs) (fun v hv => by rw [List.eq_of_mem_replicate hv]; exact hz1)
 have hzc' : (Builtin.zeroCells z.cells (rows.length - kn)).toList = List.replicate (rows.length - kn) z := by
  rw [hzc]
  simp [Builtin.zeroCells]
  apply List.ext_getElem
  ·simp
  ·intro i h1 h2
   simp [Nat.mod_one]
 simp only [Nat.add_zero, List.length_replicate] at hst
 have e1 : (execOp (a.put (some d) (.slice (some ⟨b, kn, none⟩) (rows.length - kn) (cap - kn))).eval ⟨none, .call ⟨.builtin .clear, #[.tmp d], #[t]⟩, y1, p1, f1, none⟩).run P w = .ok (.value (.tuple #[])) (w.setRow b (cells.toList.take kn ++ List.replicate (rows.length - kn) z ++ cells.toList.drop (kn + (rows.length - kn))).toArray) := by
  obtain ⟨n', hn'⟩ : ∃ n', rows.length - kn = n' + 1 := ⟨rows.length - kn - 1, by omega⟩
  rw [hn'] at ev hst hzc' ⊢
  unfold execOp
  simp [resolve, invoke, builtin, ev, Builtin.clear_, run_underlying hun, hzv, hzc', hst, Result.andThen]
 rw [e1]
 have hown := hT.own rfl
 simp only at hown
 rw [<- List.take_append_drop kn rows.flatten] at hown
 obtain ⟨u1, u2, f1, f2, hu, hf, k1, k2⟩ := hown.split
 obtain ⟨rfl, rfl⟩ := List.append_eq_nil_iff.1 hf.symm
 have hfl1 := zil hlens
 have l1 : u1.length = kn := by rw [k1.len, List.length_take]; omega
 rw [Nat.mul_one] at w6
 obtain ⟨rest, hrest⟩ : ∃ rest, cells.toList = vs0 ++ rest := ⟨cells.toList.drop rows.length, by rw [<- w6, List.take_append_drop]⟩
 have hvl : vs0.length = rows.length := by
  have := hT.len
  simp only at this
  omega
 have hnew : cells.toList.take kn ++ List.replicate (rows.length - kn) z ++ cells.toList.drop (kn + (rows.length - kn)) = u1 ++ List.replicate (rows.length - kn) z ++ rest := by
  rw [show kn + (rows.length - kn) = vs0.length by omega, hrest, List.drop_left, hu, List.append_assoc u1 u2, <- l1, List.take_left]
 rw [hnew]
 have hsame : ∀ k, k ≠ b -> (w.setRow b (u1 ++ List.replicate (rows.length - kn) z ++ rest).toArray).heap[k]? = w.heap[k]? := fun k hk => setRow_other w _ k _ hk
 have hblk := setRow_heap w b cells (u1 ++ List.replicate (rows.length - kn) z ++ rest).toArray cty (0, 0) w4
 have hsize : (w.setRow b (u1 ++ List.replicate (rows.length - kn) z ++ rest).toArray).heap.size = w.heap.size := setRow_size _ _ _
 have hbk : Bk n0 w (w.setRow b (u1 ++ List.replicate (rows.length - kn) z ++ rest).toArray) := ⟨rfl, rfl, rfl, Nat.le_of_eq hsize.symm, fun k hk => hsame k fun e' => (hT.bx b (Or.inl w7.symm)).2.1.2.2 (e' ▸ hk)⟩
 generalize w.setRow b (u1 ++ List.replicate (rows.length - kn) z ++ rest).toArray = w' at hsame hblk hsize hbk ⊢
 have hyl : (rows.take kn ++ List.replicate (rows.length - kn) [zt]).length = rows.length := by simp; omega
 have hR' := hR.apd_fin (w' := w') (y := ⟨true, 1, rows.take kn ++ List.replicate (rows.length - kn) [zt], gn, true⟩) (v' := g.ψ e gn) (fp' := [b]) (fps2 := []) hT rfl (fun m hm => ⟨by
   obtain ⟨q, hq, hmq⟩ := hm
   rw [he, Option.some.injEq] at hq
   subst hq
   exact hmq, fun em => by simp only at em; rw [em]⟩) (cons := []) (fun p hp => by simp at hp) (fun b hb => by simp at hb) b (Or.inl w7.symm) (fun k _ hk => hsame k hk) (Nat.le_of_eq hsize.symm) hn (by simp) (fun c hc => by
   simp only [List.mem_singleton] at hc
   exact Or.inl hc) (fun c hc => by simpa using hc.symm) fun A' hA' => by
  refine ⟨some ⟨b, 0, none⟩, cap, by rw [hyl]; exact w1, by rw [hyl]; exact w2, w3, Or.inr ⟨b, _, cty, [], rfl, rfl, hblk, ?_, ?_⟩⟩
  ·have := congrArg List.length hrest
   simp only [List.length_append, Array.length_toList] at this
   simp only [List.size_toArray, List.length_append, List.length_replicate]
   omega
  ·simp only [if_true]
   have hl2 : lens 1 (rows.take kn ++ List.replicate (rows.length - kn) [zt]) := fun r hr => by
    rcases List.mem_append.1 hr with h | h
    ·exact hlens r (List.mem_of_mem_take h)
    ·rw [List.eq_of_mem_replicate h]; rfl
   have ha : zal w' (rows.take kn ++ List.replicate (rows.length - kn) [zt]).flatten (u1 ++ List.replicate (rows.length - kn) z) [] := by
    rw [List.flatten_append, zf6 kn hlens]
    exact (k1.keep fun c hc => by simp at hc).append (zcp (hzt w') _)
   refine zad.of_vals hl2 ha fun j u hu => ?_
   rw [Nat.zero_add]
   simp only [List.getElem?_toArray]
   rw [List.getElem?_append_left (List.getElem?_eq_some_iff.1 hu).1]
   exact hu
 refine ⟨_, _, hK, (hR'.put (some d) (x := .one .any) (v := .slice (some ⟨b, kn, none⟩) (rows.length - kn) (cap - kn)) trivial fun j hj => by cases hj; exact hdN), hn.mono hbk.size, hb.trans hbk, hA⟩
def cutM (P : Program) (t : TypeId) (x hi : Operand) (d r : Nat) (K : St -> Prop) (σ : St) : Prop := match σ.get P t x, σ.get P 0 hi with
 | .one (.ow e gn), .one (.t (.int _ k)) => zan (σ.ev e) fun y => y.gen = gn /\ y.on = true /\ y.deep = true /\ y.sz = 1 /\ flR y.rows = true /\ 0 <= k /\ k < y.rows.length /\ K (((σ.apd e [] ⟨true, 1, y.rows.take k.toNat, gn + 1, true⟩).put (some d) (.one (.ow e (gn + 1)))).put (some r) (.one (.ow e (gn + 1))))
 | _, _ => False
theorem zv9 {t : TypeId} {x hi : Operand} {d r : Nat} {K : St -> Prop} {σ : St} (h : cutM P t x hi d r K σ) : ∃ e gn kk k rows, σ.get P t x = .one (.ow e gn) /\ σ.get P 0 hi = .one (.t (.int kk k)) /\ σ.ev e = some ⟨true, 1, rows, gn, true⟩ /\ flR rows = true /\ 0 <= k /\ k < rows.length /\ K (((σ.apd e [] ⟨true, 1, rows.take k.toNat, gn + 1, true⟩).put (some d) (.one (.ow e (gn + 1)))).put (some r) (.one (.ow e (gn + 1)))) := by
 unfold cutM at h
 split at h
 ·rename_i e gn kk k h1 h2
  obtain ⟨y, he, h3⟩ := zai h
  obtain ⟨dp, sz, rows, g, on⟩ := y
  obtain ⟨rfl, rfl, rfl, rfl, h4, h5, h6, h7⟩ := h3
  exact ⟨e, _, kk, k, rows, h1, h2, he, h4, h5, h6, h7⟩
 ·exact h.elim
theorem zb5.cutO {i d r : Nat} {ops : Array Oper} {t el : TypeId} {x hi : Operand} {y0 y1 : TypeId} {p0 p1 : String} {f0 f1 : Array Edge} {σ : St} {Q : Exit -> St -> Prop} (m : Nat) (hz : ops.size = m + 2) (c0 : ops[m]? = some ⟨some d, .slice t x none (some hi) none, y0, p0, f0, none⟩) (c1 : ops[m + 1]? = some ⟨some r, .assign (.tmp d), y1, p1, f1, none⟩)
  (hg : (ops.toList.all fun o => o.guard.isNone) = true) (hd : zbz N (.region i ops false) = true) (hdN : d < N /\ r < N) (hel : elT P t = some el) (hsz : za5 P el = some 1)
  (h : exo P ops (ops.toList.take m) [] (fun _ σ' => cutM P t x hi d r (Q .normal) σ') σ) : zb5 P N (.region i ops false) σ Q := fun n0 w0 A0 g a w hR hn hb hA => by
 refine wp_region ?_
 have hd' : ∀ o ∈ ops.toList, ∀ d, o.dst = some d -> d < N := fun o ho d hdd => by
  simp only [zbz, Array.all_eq_true_iff_forall_mem] at hd
  have := hd o (by simpa using ho)
  rw [hdd] at this
  simpa using this
 have hg' : ∀ o ∈ ops.toList, o.guard = none := fun o ho => by
  have := List.all_eq_true.1 hg o ho
  simpa using this
 rw [hz, List.range_eq_range', show List.range' 0 (m + 2) = List.range' 0 m ++ [m, m + 1] by rw [show m + 2 = m + 1 + 1 from rfl, List.range'_1_concat, List.range'_1_concat]; simp]
 refine zjd (w0 := w0) (A0 := A0) hg' ?_ m 0 (by omega) hd' σ g a w (by simpa [exo, zn9] using h) hR hn hb hA
 intro a w σ g hK hR hn hb hA
 obtain ⟨e, gn, kk, k, rows, s1, s2, he, hfl, hk0, hkl, hK⟩ := zv9 hK
 have v1 := hR.get P t x
 rw [s1] at v1
 obtain ⟨v1, -⟩ := v1
 obtain ⟨ao, cap, w1, w2, w3, w4⟩ := hR.evs e _ he rfl
 simp only at w1 w2 w4
 obtain ⟨kn, rfl⟩ : ∃ kn : Nat, k = kn := ⟨k.toNat, by omega⟩
 rw [Int.toNat_natCast] at hK
 have hkl : kn < rows.length := by omega
 rcases w4 with ⟨_, _, hh, _⟩ | ⟨b, cells, cty, fps, rfl, w5, w6, w7, w8⟩
 ·rw [hh] at hkl; simp at hkl
 rw [if_pos trivial] at w8
 have hfps := zad.flat hfl w8
 subst hfps
 have hbn := zbv (P := P) (low := none) (high := some hi) (len := rows.length) (cap := cap) hR true (l := 0) (u := (kn : Int)) rfl (by simp only [zfu, s2]) (by omega) (by omega) (by omega) w2
 have hun : P.underlying t = some (.slice el) := zcx hel
 have e0 : (execOp a.eval ⟨some d, .slice t x none (some hi) none, y0, p0, f0, none⟩).run P w = .ok (.value (.slice (some ⟨b, 0, none⟩) kn cap)) w := by
  unfold execOp
  have hcp : ¬ cap = 0 := by omega
  rw [Int.toNat_natCast, show ((0 : Int).toNat) = 0 from rfl, Option.map_some, Option.map_none] at hbn
  simp only [Instr.sliceAt, Instr.slice, Sem.run_bind, run_underlying hun, Result.andThen, v1, w1, Option.map_some, Option.map_none, hbn, za4 hsz, Sem.run_pure]
  rw [if_neg hcp]
  simp only [Addr.add]
  congr 2
 have ev : (a.put (some d) (.slice (some ⟨b, 0, none⟩) kn cap)).eval (.tmp d) = .slice (some ⟨b, 0, none⟩) kn cap := by
  show (a.tmps.setIfInBounds d _).getD d undef = _
  exact zck hR.size hdN.1 _ _
 rw [wpOps_cons]
 unfold wpOp
 simp only [c0]
 rw [if_pos (by simp [Region.wanted])]
 refine Or.inl ?_
 unfold Oper.wp
 rw [e0]
 show wpOps P ops _ [m + 1] _ w
 rw [wpOps_cons]
 unfold wpOp
 simp only [c1]
 rw [if_pos (by simp [Region.wanted])]
 refine Or.inl ?_
 unfold Oper.wp
 have e1 : ∀ (a : Act) (w : World), (execOp a.eval ⟨some r, .assign (.tmp d), y1, p1, f1, none⟩).run P w = .ok (.value (a.eval (.tmp d))) w := fun a w => rfl
 rw [e1, ev]
 obtain ⟨vs0, fps, top, hT⟩ := hR.tgt he rfl
 have hmem : b ∈ g.φ e := by rw [w5]; simp
 have htop : some b = top := by
  rcases hT.val with ⟨_, hh, _⟩ | ⟨b', cap', cells', cty', q1, _, _, _, _, _, q7⟩
  ·simp only at hh; rw [hh] at hkl; simp at hkl
  ·simp only at q1
   rw [w1] at q1
   injection q1 with q1 _ _
   simp only [Option.some.injEq, Addr.mk.injEq, and_true] at q1
   rw [q1]; exact q7.symm
 have hR' := hR.apd_fin (w' := w) (y := ⟨true, 1, rows.take kn, gn + 1, true⟩) (v' := .slice (some ⟨b, 0, none⟩) kn cap) (fp' := [b]) (fps2 := []) hT rfl (fun m hm => by
   obtain ⟨q, hq, hmq⟩ := hm
   rw [he, Option.some.injEq] at hq
   subst hq
   simp only at hmq ⊢
   exact ⟨by omega, fun em => by omega⟩) (cons := []) (fun p hp => by simp at hp) (fun b hb => by simp at hb) b (Or.inl htop) (fun k _ _ => rfl) (Nat.le_refl _) hn (by simp) (fun c hc => by
   simp only [List.mem_singleton] at hc
   exact Or.inl hc) (fun c hc => by simpa using hc.symm) fun A' hA' => by
  refine ⟨some ⟨b, 0, none⟩, cap, by simp only [List.length_take]; congr 1; omega, by simp only [List.length_take]; omega, w3, Or.inr ⟨b, cells, cty, [], rfl, rfl, w6, w7, ?_⟩⟩
  simp only [if_true]
  have : ∀ (rs : List (List T)) (o k : Nat), flR rs = true -> zad w cells o 1 rs [] -> zad w cells o 1 (rs.take k) [] := fun rs => by
   induction rs with
   | nil => intro o k _ h; rw [List.take_nil]; exact h
   | cons r rs ih =>
    intro o k hf h
    cases k with
    | zero => rw [List.take_zero]; unfold zad; rfl
    | succ k =>
     unfold flR at hf
     rw [Bool.and_eq_true] at hf
     unfold zad at h
     obtain ⟨h1, f1, f2, h2, h3, h4⟩ := h
     obtain ⟨rfl, rfl⟩ := List.append_eq_nil_iff.1 h2.symm
     rw [List.take_succ_cons]
     unfold zad
     exact ⟨h1, [], [], rfl, h3, ih _ k hf.2 h4⟩
  exact this rows 0 kn hfl w8
 have hval : ∀ (σ' : St) (g' : Gh), σ'.ev e = some ⟨true, 1, rows.take kn, gn + 1, true⟩ -> g'.ψ e (gn + 1) = .slice (some ⟨b, 0, none⟩) kn cap -> VR σ' g' w (.one (.ow e (gn + 1))) (.slice (some ⟨b, 0, none⟩) kn cap) := fun σ' g' h1 h2 => ⟨h2.symm, _, h1, Nat.le_refl _⟩
 have hE : (σ.apd e [] ⟨true, 1, rows.take kn, gn + 1, true⟩).ev e = some ⟨true, 1, rows.take kn, gn + 1, true⟩ := by simp [St.apd, zab]
 have hR1 := hR'.put (some d) (x := .one (.ow e (gn + 1))) (v := .slice (some ⟨b, 0, none⟩) kn cap) (hval _ _ hE (by simp only [zab])) (fun j hj => by cases hj; exact hdN.1)
 have hR2 := hR1.put (some r) (x := .one (.ow e (gn + 1))) (v := .slice (some ⟨b, 0, none⟩) kn cap) (hval _ _ hE (by simp only [zab])) (fun j hj => by cases hj; exact hdN.2)
 exact ⟨_, _, hK, hR2, hn, hb, hA⟩
attribute [go_sem] clrM cutM
end Go.Proofs.Yteeaofpphmhjdaa
namespace Go.Proofs.Yteeaofpphmhjdaa
set_option linter.unusedSimpArgs false
set_option linter.unusedVariables false
set_option linter.unusedSectionVars false
set_option maxRecDepth 4000
open Go.RowKit
variable {P : Program}
theorem zui {f : FuncId} {fn : Func} {c : Code} {bx bx' : Bxs} {l : List AF} {res : List (Bool × D)} (hc : zbd P f) (hf : P.funcs[f]? = some fn) (hb : fn.body = some c) (hN : l.length <= fn.ntmps) (hN2 : fn.ntmps <= 1000000) (hbl : bx'.length = bx.length) (hj : AF.okJ bx.length l = true) (hs : zay (AF.ds l ++ bxA bx.flatten)) (hfs : gFS (AF.ds l ++ bxA bx.flatten) = true) (hrl : fn.results.toList.length = res.length)
  (h : zb5 P fn.ntmps c (zdm l bx) (PB P fn.results.toList res bx')) : PC P f bx l bx' res := by
 refine ⟨hc, hbl, fun w bs bvs dvs fp tp A hinj hbf hbx hv hn hl => ?_⟩
 refine calls_of_wp hf hb ?_
 obtain ⟨g, hg, hR⟩ := zhy (N := fn.ntmps) hinj hbf hbx hv hn hl hj hN hN2 hs hfs (ξ := fun i => if 1000000 <= i then zme (bs (i - 1000000)) else undef) (fun i hi => if_neg (by omega)) (fun i b => by
  by_cases h : 1000000 <= i
  ·rw [if_pos h]; exact fun e => by cases e
  ·rw [if_neg h]; exact fun e => by cases e) (fun j hj => by
  rw [if_pos (by omega), show 1000000 + j - 1000000 = j by omega])
 refine wp_mono (h _ w _ g _ w hR (fun k hk => hk.1) (Bk.refl _ _) hg) fun e a' w' hq => ?_
 obtain ⟨σ', g', h1, h2, h3, h4, h5⟩ := hq
 have hξ : ∀ q, q < bx'.length -> g'.R0.ξ (1000000 + (0 + q)) = zme (bs (0 + q)) := fun q hq => by
  rw [(Prod.mk.inj h5).2, Nat.zero_add]
  show (if 1000000 <= 1000000 + q then zme (bs (1000000 + q - 1000000)) else undef) = _
  rw [if_pos (by omega), show 1000000 + q - 1000000 = q by omega]
 have key : (∃ pl, PB0 P fn.results.toList res bx' pl σ') -> ∃ v, (results fn a'.tmps).run P w' = .ok v w' /\ ∃ us bvs' fp' tp', Ending.returned v = .returned (zb1 us) /\ zl4 w' bs 0 bvs' bx' /\ us.length = res.length ∧
   zao w' (fun k => (k < w'.heap.size /\ k ∉ fp' /\ ∀ j, j < bx.length -> k ≠ bs j) /\ (A k \/ w.heap.size <= k \/ k ∈ fp)) (res ++ bxA bx'.flatten) (us ++ bvs'.flatten) fp' tp' /\ fp'.Nodup /\ (∀ b ∈ fp', b ∈ fp \/ w.heap.size <= b) /\ Bk (fun k => k < w.heap.size /\ k ∉ fp /\ ∀ j, j < bx.length -> k ≠ bs j) w w' := by
  rintro ⟨pl, hk⟩
  obtain ⟨vs, hvs, hk⟩ := zai hk
  obtain ⟨us, r1, r2⟩ := zby h2 fn hvs
  obtain ⟨cs, bvs', k0, b1, b2, b3⟩ := zfo (bs := bs) h2 hN2 hξ hk
  obtain ⟨B, hB⟩ := h2.fam
  obtain ⟨s, k1, ⟨tp', k2⟩, k3, k4⟩ := zc1 h2 hB k0 (VRl.append r2 b2)
  rw [List.append_nil] at k4
  have hsp : s.Pairwise okP := (List.pairwise_reverse.1 (k4 List.Pairwise.nil)).imp fun h => h.symm
  have hin : ∀ b ∈ bks B s, ∃ e, σ'.On e /\ b ∈ g'.φ e := fun b hb => by
   obtain ⟨x, hx, hm⟩ := List.mem_flatMap.1 hb
   exact ⟨x.1, k3 x hx, hB.sub x.1 x.2 b (k3 x hx) hm⟩
  have hbβ : ∀ j, j < bx.length -> σ'.bx (1000000 + j) ≠ none /\ g'.β (1000000 + j) = bs j := fun j hj => by
   have := b3 j (by omega)
   rwa [Nat.zero_add] at this
  have hA : ∀ b, zbw σ' g' w' b -> (b < w'.heap.size /\ b ∉ bks B s /\ ∀ j, j < bx.length -> b ≠ bs j) /\ (A b \/ w.heap.size <= b \/ b ∈ fp) := fun b hb => by
   have hnb : ∀ j, j < bx.length -> b ≠ bs j := fun j hj e => hb.1.1 _ (hbβ j hj).1 (by rw [(hbβ j hj).2, e])
   refine ⟨⟨hb.1.2.2.1, fun hm => ?_, hnb⟩, ?_⟩
   ·obtain ⟨e, ho, hm⟩ := hin b hm
    exact hb.2 e ho hm
   ·have h0 := hb.1.2.2.2
    rw [(Prod.mk.inj h5).1] at h0
    rcases h0 with h0 | h0 | h0 | ⟨j, hj, h0⟩
    ·exact Or.inl h0
    ·exact Or.inr (Or.inl h0)
    ·exact Or.inr (Or.inr h0)
    ·exact absurd h0 (hnb j hj)
  refine ⟨_, r1, us, bvs', bks B s, tp', rfl, b1, by rw [r2.len, <- hrl]; exact zdc hvs, zao.keepA hA k2, zcv h2 hB k3 hsp, fun b hb => ?_, h4⟩
  obtain ⟨e, ho, hm⟩ := hin b hb
  have h0 := (h2.ebase e ho b hm).2
  rw [(Prod.mk.inj h5).2] at h0
  rcases h0 with h0 | h0 | ⟨j, hj, h0⟩
  ·exact Or.inl h0
  ·exact Or.inr h0
  ·have := h2.ebx e _ ho (hbβ j hj).1
   rw [(hbβ j hj).2] at this
   exact absurd (h0 ▸ hm) this
 have key' : ∀ {Y : Prop}, (PB0 P fn.results.toList res bx' [] σ' \/ ∃ pl, PB0 P fn.results.toList res bx' pl σ') -> ((∃ pl, PB0 P fn.results.toList res bx' pl σ') -> Y) -> Y := fun h k => h.elim (fun h => k ⟨[], h⟩) k
 cases e with
 | normal => exact ⟨h2.defers, key' h1 key⟩
 | ret => exact ⟨h2.defers, key' h1 key⟩
 | exit _ => exact h1.elim
 | goto _ => exact h1.elim
 | panic _ => exact h1.elim
 | outgrown => exact h1.elim
end Go.Proofs.Yteeaofpphmhjdaa
namespace Go.Proofs.Yteeaofpphmhjdaa
set_option linter.unusedSimpArgs false
set_option linter.unusedVariables false
set_option linter.unusedSectionVars false
set_option maxRecDepth 4000
open Go.RowKit
theorem zgx (xs : List Int) (i : Nat) (v : Int) (hi : i < xs.length) : zct (xs.map fun s => [T.int .i64 s]) i 0 [.int .i64 v] = (xs.set i v).map fun s => [T.int .i64 s] := by
 unfold zct setR
 rw [List.getD_eq_getElem?_getD, List.getElem?_map, List.getElem?_eq_getElem hi]
 simp [List.map_set]
theorem zvInt : ∀ w, (zeroValue 3).run Try.prog w = .ok (.int .i64 0) w := Try.zeroValue3
theorem zi4 (xs : List Int) (p : Int -> Bool) (g : FuncId) (caps : List T) (H : ∀ x ∈ xs, FC Try.prog g (iD x :: caps.map .one) [bD (p x)]) : FC Try.prog 117 [.one (zaz xs), .one (.fn g caps)] [iD (zjs xs p)] := by
 refine zet (fun hw => ?_) Try.call117
 have hl : xs.length <= 9223372036854775807 := by simpa [zmz, wfT] using hw.1.1
 refine zaw Try.call117 Try.func117 rfl (by kernel_rfl) (zbf (by kernel_rfl)) ?_
 simp -implicitDefEqProofs only [go_sem, Try.results117]
 refine zap (fun k : Nat => hd [(0, vT (zaz xs)), (1, vT (.fn g caps)), (7, vI xs.length), (8, vI k)] [] []) (fun k => k <= xs.length /\ ∀ x ∈ xs.take k, p x = false) (fun k => xs.length - k) 0 (zah ?_) ?_ ?_
 ·simp -implicitDefEqProofs only [go_sem]
 ·simp
 ·intro k ⟨hk, hr⟩
  by_cases hlt : k < xs.length
  ·simp -implicitDefEqProofs only [go_sem, zaj, hlt, ne_eq]
   refine callF (H xs[k] (List.getElem_mem hlt)) (by simp -implicitDefEqProofs only [go_sem, ne_eq]) ?_
   simp -implicitDefEqProofs only [go_sem, ne_eq]
   refine ⟨fun h => ?_, fun h => ⟨k + 1, ⟨hlt, zbt hlt hr h⟩, by omega, zah (by simp -implicitDefEqProofs only [go_sem]; rw [za2 (by omega)])⟩⟩
   rw [zbu hlt hr h]
  ·simp -implicitDefEqProofs only [go_sem, hlt]
   rw [List.take_of_length_le (by omega)] at hr
   rw [zcb hr]
def kq (p : Int -> Bool) (x : Int) : Bool := !p x
def kpq (p : Int -> Bool) (xs : List Int) (j : Nat) : List Int := (xs.take j).filter (kq p)
theorem zkv (p : Int -> Bool) (xs : List Int) {j : Nat} (h : j < xs.length) : kpq p xs (j + 1) = kpq p xs j ++ if kq p xs[j] = true then [xs[j]] else [] := by
 unfold kpq
 rw [List.take_succ_eq_append_getElem h, List.filter_append]
 congr 1
 rw [List.filter_cons]
 split <;> simp
abbrev bxA1 (a : List Int) : Bxs := [[(false, zaz a)]]
set_option maxHeartbeats 2000000 in
theorem delF_c (xs : List Int) (a : List Int) (p : Int -> Bool) (g : FuncId) (hl : xs.length <= 1048577) (H : ∀ x ∈ xs, FC Try.prog g [iD x, .one (.ptr [zaz a])] [bD (p x)]) : PC Try.prog 104 (bxA1 a) [.d true (.one (zaz xs)), .fn g [0]] (bxA1 a) [(true, .one (zaz (xs.filter (kq p))))] := by
 have HI := zi4 xs p g [.ptr [zaz a]] H
 refine zui Try.call104 Try.func104 rfl (by simp only [List.length_cons, List.length_nil, Try.ntmps104]; omega) (by simp only [Try.ntmps104]; omega) rfl rfl (by simp [zay, T.isPin, AF.ds, bxA]) (by simp [gFS, T.fs, T.flat, AF.ds, bxA]) rfl ?_
 by_cases hany : (xs.any p) = true
 ·obtain ⟨c, hc, hid, hno, hye⟩ : ∃ c, ∃ hc : c < xs.length, zjs xs p = (c : Nat) /\ (∀ x ∈ xs.take c, p x = false) /\ p xs[c] = true := by
   have hlt : xs.findIdx p < xs.length := List.findIdx_lt_length.2 (List.any_eq_true.1 hany)
   refine ⟨_, hlt, ?_, fun x hx => ?_, List.findIdx_getElem (p := p) (w := hlt)⟩
   ·unfold zjs; rw [if_pos hany]
   ·obtain ⟨q, hq, rfl⟩ := List.getElem_of_mem hx
    rw [List.length_take] at hq
    rw [List.getElem_take]
    have := List.not_of_lt_findIdx (p := p) (xs := xs) (show q < xs.findIdx p by omega)
    simpa using this
  rw [hid] at HI
  have hn1 : ((c : Int) == -1) = false := by rw [beq_eq_false_iff_ne]; omega
  have hw1 : IntKind.i64.wrap ((c : Int) + 1) = ((c + 1 : Nat) : Int) := za2 (by omega)
  have hk0 : kpq p xs (c + 1) = xs.take c := by
   rw [zkv p xs hc]
   unfold kpq
   rw [show kq p xs[c] = false by unfold kq; rw [hye]; rfl, if_neg (by simp), List.append_nil, List.filter_eq_self]
   intro x hx
   unfold kq
   rw [hno x hx]; rfl
  refine zb5.cut 3 rfl (by kernel_rfl) ?_
  simp -implicitDefEqProofs only [go_sem, Try.results104]
  refine callF (HI) (by simp -implicitDefEqProofs only [go_sem, hn1, hw1]) ?_
  simp -implicitDefEqProofs only [go_sem, hn1, hw1]
  refine zap (fun x : Nat × List Int => hd [(0, .one (.ow 0 0)), (1, .one (.fn g [1000000])), (5, vI (kpq p xs x.1).length), (6, vI x.1), (1000000, .one (.bx 1000000 0))] [(1000000, [.rn (zaz a)])] [(0, ⟨true, 1, x.2.map fun s => [.int .i64 s], 0, true⟩)])
   (fun x => x.1 <= xs.length /\ x.2.length = xs.length /\ x.2.take (kpq p xs x.1).length = kpq p xs x.1 /\ x.2.drop x.1 = xs.drop x.1 /\ (kpq p xs x.1).length < x.1) (fun x => xs.length - x.1) (c + 1, xs) (zah ?_) ?_ ?_
  ·simp -implicitDefEqProofs only [go_sem]
   rw [hk0, List.length_take, Nat.min_eq_left (by omega)]
  ·refine ⟨hc, rfl, ?_, rfl, ?_⟩
   ·rw [hk0, List.length_take, Nat.min_eq_left (by omega)]
   ·rw [hk0, List.length_take]; simp only; omega
  ·rintro ⟨j, R⟩ ⟨hj, hRl, hRt, hRd, hcj⟩
   simp only at hj hRl hRt hRd hcj
   by_cases hlt : j < xs.length
   ·have hjR : j < R.length := by omega
    have hRj : R[j] = xs[j] := by
     have := congrArg (fun l => l[0]?) hRd
     simp only [List.getElem?_drop, Nat.add_zero, List.getElem?_eq_getElem hjR, List.getElem?_eq_getElem hlt] at this
     exact Option.some.inj this
    have hks := zkv p xs hlt
    have HC := H xs[j] (List.getElem_mem hlt)
    have hcR : (kpq p xs j).length < R.length := by omega
    have hlRi : ((j : Int) < (R.length : Int)) = True := by simp; omega
    have hRd2 : R.drop (j + 1) = xs.drop (j + 1) := by
     have := congrArg (List.drop 1) hRd
     simpa [List.drop_drop] using this
    cases hb : p xs[j]
    ·rw [hb] at HC
     rw [show kq p xs[j] = true by unfold kq; rw [hb]; rfl, if_pos rfl] at hks
     have hst := zgx R (kpq p xs j).length xs[j] hcR
     simp -implicitDefEqProofs only [go_sem, hlRi, hjR, zaj, hRj]
     refine callF (HC) (by simp -implicitDefEqProofs only [go_sem]) ?_
     simp -implicitDefEqProofs only [go_sem]
     refine ⟨hcR, ?_⟩
     refine zq9 (by simp -implicitDefEqProofs only [go_sem]; simp) ?_
     simp -implicitDefEqProofs only [go_sem, hst]
     refine ⟨(j + 1, R.set (kpq p xs j).length xs[j]), ⟨hlt, by rw [List.length_set]; exact hRl, ?_, ?_, ?_⟩, by simp only; omega, zah ?_⟩
     ·simp only
      rw [hks, List.length_append, List.length_singleton, List.take_succ_eq_append_getElem (by rw [List.length_set]; exact hcR), List.getElem_set_self, List.take_set_of_le (Nat.le_refl _), hRt]
     ·simp only
      rw [List.drop_set_of_lt (by omega)]
      exact hRd2
     ·simp only
      rw [hks, List.length_append, List.length_singleton]; omega
     ·simp -implicitDefEqProofs only [go_sem]
      rw [za2 (by omega), za2 (by omega), hks, List.length_append, List.length_singleton]
      exact ⟨rfl, rfl⟩
    ·rw [hb] at HC
     rw [show kq p xs[j] = false by unfold kq; rw [hb]; rfl, if_neg (by simp), List.append_nil] at hks
     simp -implicitDefEqProofs only [go_sem, hlRi, hjR, zaj, hRj]
     refine callF (HC) (by simp -implicitDefEqProofs only [go_sem]) ?_
     simp -implicitDefEqProofs only [go_sem]
     refine ⟨(j + 1, R), ⟨hlt, hRl, by rw [hks]; exact hRt, hRd2, by rw [hks]; simp only; omega⟩, by simp only; omega, zah ?_⟩
     simp -implicitDefEqProofs only [go_sem]
     rw [za2 (by omega), hks]
     exact ⟨rfl, rfl⟩
   ·have hlRi : ((j : Int) < (R.length : Int)) = False := by simp; omega
    have hjn : j = xs.length := by omega
    subst hjn
    have hkf : kpq p xs xs.length = xs.filter (kq p) := by unfold kpq; rw [List.take_length]
    rw [hkf] at hRt hcj ⊢
    generalize xs.filter (kq p) = F at hRt hcj ⊢
    have hFR : F.length < R.length := by omega
    have hflR : ∀ l : List Int, flR (l.map fun s => [T.int .i64 s]) = true := fun l => by
     induction l with
     | nil => rfl
     | cons a l ih => rw [List.map_cons]; unfold flR; rw [ih]; rfl
    simp -implicitDefEqProofs only [go_sem, hlRi]
    refine zb5.seq ?_
    refine zb5.clr 2 (.int .i64 0) rfl rfl rfl rfl (by kernel_rfl) (by simp only [Try.ntmps104]; omega) (el := 3) (by kernel_rfl) (by kernel_rfl) zvInt rfl rfl (fun w => by unfold zaq; exact ⟨rfl, by decide, by decide, rfl⟩) rfl ?_
    simp -implicitDefEqProofs only [go_sem, List.take_succ_cons, List.take_zero, hflR]
    refine ⟨hFR, ?_⟩
    obtain ⟨Z, hZ⟩ : ∃ Z, List.take F.length (R.map fun s => [T.int .i64 s]) ++ List.replicate (R.length - F.length) [T.int .i64 0] = Z := ⟨_, rfl⟩
    have hZl : Z.length = R.length := by rw [<- hZ]; simp; omega
    have hZf : flR Z = true := by
     rw [<- hZ]
     have : ∀ a b : List (List T), flR a = true -> flR b = true -> flR (a ++ b) = true := fun a b ha hb => by
      induction a with
      | nil => exact hb
      | cons r rs ih =>
       unfold flR at ha
       rw [Bool.and_eq_true] at ha
       show flR (r :: (rs ++ b)) = true
       unfold flR
       rw [ha.1, ih ha.2]; rfl
     refine this _ _ (zig _ (hflR R)) ?_
     have : ∀ n, flR (List.replicate n [T.int .i64 0]) = true := fun n => by
      induction n with
      | zero => rfl
      | succ n ih => rw [List.replicate_succ]; unfold flR; rw [ih]; rfl
     exact this _
    have hZt : Z.take F.length = F.map fun s => [T.int .i64 s] := by
     rw [<- hZ, List.take_append_of_le_length (by simp; omega), List.take_take, Nat.min_self, <- List.map_take, hRt]
    rw [hZ]
    have hZF : F.length < Z.length := by omega
    refine zb5.seq ?_
    refine zb5.cutO 2 rfl rfl rfl rfl (by kernel_rfl) (by simp only [Try.ntmps104]; omega) (el := 3) (by kernel_rfl) (by kernel_rfl) ?_
    simp -implicitDefEqProofs only [go_sem, List.take_succ_cons, List.take_zero, hZf, hZF, hZt]
    refine zb5.ofEx (by kernel_rfl) ?_
    simp -implicitDefEqProofs only [go_sem]
 ·have hany : (xs.any p) = false := by rw [<- Bool.not_eq_true]; exact hany
  have hid : zjs xs p = -1 := by unfold zjs; rw [hany]; rfl
  rw [hid] at HI
  have hall := List.any_eq_false.1 hany
  have hf : xs.filter (kq p) = xs := by
   rw [List.filter_eq_self]
   intro x hx
   unfold kq
   rw [Bool.not_eq_true', <- Bool.not_eq_true]
   exact hall x hx
  rw [hf]
  refine zb5.cut 3 rfl (by kernel_rfl) ?_
  simp -implicitDefEqProofs only [go_sem, Try.results104]
  refine callF (HI) (by simp -implicitDefEqProofs only [go_sem]) ?_
  simp -implicitDefEqProofs only [go_sem]
end Go.Proofs.Yteeaofpphmhjdaa
namespace Go.Proofs.Yteeaofpphmhjdaa
set_option linter.unusedSimpArgs false
set_option linter.unusedVariables false
set_option linter.unusedSectionVars false
set_option maxRecDepth 4000
open Go.RowKit
theorem zp4 : ∀ {c : List Int}, zbp (c.map fun s => [T.int .i64 s]) -> ∀ l ∈ c, -9223372036854775808 <= l /\ l <= 9223372036854775807
 | [], _, l, hl => by simp at hl
 | x :: c, h, l, hl => by
  have h' : zl7 [T.int .i64 x] /\ zbp (c.map fun s => [T.int .i64 s]) := h
  have m1 : IntKind.min .i64 = -9223372036854775808 := by decide
  have m2 : IntKind.max .i64 = 9223372036854775807 := by decide
  rcases List.mem_cons.1 hl with rfl | hl
  ·have h2 : wfT (T.int .i64 l) := h'.1.1
   unfold wfT at h2
   rw [m1, m2] at h2
   exact h2
  ·exact zp4 h'.2 l hl
def abW (n : Int) : Int := if n < 0 then IntKind.i64.wrap (0 - n) else n
theorem zun {n : Int} (h : -9223372036854775808 < n) (h2 : n <= 9223372036854775807) : abW n = ab n := by
 unfold abW
 split
 ·rw [zak (by omega) (by omega)]; unfold ab; omega
 ·unfold ab; omega
theorem abW_in {n : Int} (h : -9223372036854775808 <= n) (h2 : n <= 9223372036854775807) : inB (abW n) 1 12 = (decide (0 < ab n) && decide (ab n <= 12)) := by
 by_cases e : n = -9223372036854775808
 ·subst e; decide
 ·rw [zun (by omega) h2]
  unfold inB
  congr 1
theorem zgs (n : Int) : FC Try.prog 98 [iD n] [iD (abW n)] := by
 refine zaw Try.call98 Try.func98 rfl (by kernel_rfl) (zbf (by kernel_rfl)) ?_
 simp -implicitDefEqProofs only [go_sem, Try.results98]
 refine ⟨fun h => ?_, fun h => ?_⟩
 ·have : n < 0 := by simpa using h
  unfold abW; rw [if_pos this]
 ·have : ¬ n < 0 := by simpa using h
  unfold abW; rw [if_neg this]
theorem zj9 (c : List Int) : FC Try.prog 63 [.one (zaz c)] [bD (pcl c)] := by
 refine zet (fun hw => ?_) Try.call63
 have hl : c.length <= 9223372036854775807 := by have := hw.1.1; simpa using this
 have hwf := zp4 hw.1.2
 refine zaw Try.call63 Try.func63 rfl (by kernel_rfl) (zbf (by kernel_rfl)) ?_
 simp -implicitDefEqProofs only [go_sem, Try.results63]
 refine zap (fun k : Nat => hd [(0, vT (zaz c)), (3, vI k)] [] []) (fun k => k <= c.length /\ pcl c = zne (pv c k) (c.drop k) /\ (0 < k -> -12 <= c.getD (k - 1) 0 /\ c.getD (k - 1) 0 <= 12)) (fun k => c.length - k) 0 (zah ?_) ?_ ?_
 ·simp -implicitDefEqProofs only [go_sem]
 ·exact ⟨Nat.zero_le _, rfl, fun h => absurd h (by omega)⟩
 ·intro k ⟨hk, hr, hpr⟩
  by_cases hlt : k < c.length
  ·have hsu := zpq c hlt
   have hgd : c.getD k 0 = c[k] := by rw [List.getD_eq_getElem?_getD, List.getElem?_eq_getElem hlt]; rfl
   rw [List.drop_eq_getElem_cons hlt] at hr
   unfold zne at hr
   have hb := hwf c[k] (List.getElem_mem hlt)
   have HA := zgs c[k]
   have HI := zuv (abW c[k]) 1 12
   rw [abW_in hb.1 hb.2] at HI
   cases h1 : (decide (0 < ab c[k]) && decide (ab c[k] <= 12))
   ·rw [h1] at HI
    have hno : pcl c = false := by
     rw [hr]
     have hpv : 0 <= pv c k := by unfold pv ab; split <;> omega
     rw [Bool.and_eq_false_iff, decide_eq_false_iff_not, decide_eq_false_iff_not] at h1
     rcases h1 with h1 | h1
     ·rw [show decide (pv c k < ab c[k]) = false by simp; omega]; rfl
     ·rw [show decide (ab c[k] <= 12) = false by simpa using h1]; simp
    simp -implicitDefEqProofs only [go_sem, hlt]
    refine drawn (by kernel_rfl) ?_
    simp -implicitDefEqProofs only [go_sem, zaj, hlt]
    refine zel (HA) (by simp -implicitDefEqProofs only [go_sem]) ?_
    simp -implicitDefEqProofs only [go_sem]
    refine zel (HI) (by simp -implicitDefEqProofs only [go_sem]) ?_
    simp -implicitDefEqProofs only [go_sem]
    refine ⟨by kernel_rfl, ?_⟩
    rw [hno]
   ·rw [h1] at HI
    have hab : 0 < ab c[k] /\ ab c[k] <= 12 := by simpa using h1
    have hin : -12 <= c[k] /\ c[k] <= 12 := (zvl hab).2
    by_cases hk0 : k = 0
    ·have hkf : ((0 : Int) < (k : Int)) = False := by simp; omega
     simp -implicitDefEqProofs only [go_sem, hlt]
     refine drawn (by kernel_rfl) ?_
     simp -implicitDefEqProofs only [go_sem, zaj, hlt, hkf]
     refine zel (HA) (by simp -implicitDefEqProofs only [go_sem]) ?_
     simp -implicitDefEqProofs only [go_sem]
     refine zel (HI) (by simp -implicitDefEqProofs only [go_sem, hkf]) ?_
     simp -implicitDefEqProofs only [go_sem, hkf]
     refine ⟨by kernel_rfl, ?_⟩
     rw [za2 (by omega)]
     refine ⟨k + 1, ⟨hlt, ?_, fun _ => ?_⟩, by omega, zah (by simp -implicitDefEqProofs only [go_sem])⟩
     ·have hpv : pv c k = 0 := by unfold pv; rw [if_pos hk0]
      rw [hr, hsu, hpv, show decide (0 < ab c[k]) = true by simpa using hab.1, show decide (ab c[k] <= 12) = true by simpa using hab.2]; rfl
     ·rw [Nat.add_sub_cancel, hgd]; exact hin
    ·have hkp : (0 : Int) < k := by omega
     have hk1 : k - 1 < c.length := by omega
     have hw1 : IntKind.i64.wrap ((k : Int) - 1) = ((k - 1 : Nat) : Int) := by rw [zak (by omega) (by omega)]; omega
     have hg1 : c.getD (k - 1) 0 = c[k - 1] := by rw [List.getD_eq_getElem?_getD, List.getElem?_eq_getElem hk1]; rfl
     have hp1 := hpr (by omega)
     rw [hg1] at hp1
     have HB := zgs c[k - 1]
     rw [zun (by omega) (by omega)] at HB HA
     have hpv : pv c k = ab c[k - 1] := by unfold pv; rw [if_neg hk0, hg1]
     rw [hpv] at hr
     simp -implicitDefEqProofs only [go_sem, hlt]
     refine drawn (by kernel_rfl) ?_
     simp -implicitDefEqProofs only [go_sem, zaj, hlt]
     refine zel (zgs c[k]) (by simp -implicitDefEqProofs only [go_sem]) ?_
     simp -implicitDefEqProofs only [go_sem]
     refine zel (HI) (by simp -implicitDefEqProofs only [go_sem, hkp, hw1, hk1, hlt, zaj]) ?_
     simp -implicitDefEqProofs only [go_sem, hkp, hw1, hk1, hlt, zaj]
     refine zut (HB) (by simp -implicitDefEqProofs only [go_sem, hlt, zaj]) ?_
     simp -implicitDefEqProofs only [go_sem, hlt, zaj]
     refine zut (HA) (by simp -implicitDefEqProofs only [go_sem]) ?_
     simp -implicitDefEqProofs only [go_sem]
     refine ⟨by kernel_rfl, ?_⟩
     rw [za2 (by omega)]
     refine ⟨fun h => ?_, fun h => ⟨k + 1, ⟨hlt, ?_, fun _ => ?_⟩, by omega, zah (by simp -implicitDefEqProofs only [go_sem])⟩⟩
     ·have : ¬ ab c[k - 1] < ab c[k] := by simp at h; omega
      rw [hr, show decide (ab c[k - 1] < ab c[k]) = false by simpa using this]; simp
     ·have : ab c[k - 1] < ab c[k] := by simp at h; omega
      rw [hr, hsu, show decide (ab c[k - 1] < ab c[k]) = true by simpa using this, show decide (ab c[k] <= 12) = true by simpa using hab.2]; rfl
     ·rw [Nat.add_sub_cancel, hgd]; exact hin
  ·simp -implicitDefEqProofs only [go_sem, hlt]
   rw [hr, List.drop_of_length_le (by omega)]; rfl
end Go.Proofs.Yteeaofpphmhjdaa
namespace Go.Proofs.Yteeaofpphmhjdaa
set_option linter.unusedSimpArgs false
set_option linter.unusedVariables false
set_option linter.unusedSectionVars false
set_option maxRecDepth 4000
open Go.RowKit
theorem zhb (xs : List (List Int)) (p : List Int -> Bool) (g : FuncId) (caps : List T) (H : ∀ x ∈ xs, FC Try.prog g (.one (zaz x) :: caps.map .one) [bD (p x)]) : FC Try.prog 57 [.one (za0 xs), .one (.fn g caps)] [iD (zjs xs p)] := by
 refine zet (fun hw => ?_) Try.call57
 have hl : xs.length <= 9223372036854775807 := by simpa [zmz, wfT] using hw.1.1
 refine zaw Try.call57 Try.func57 rfl (by kernel_rfl) (zbf (by kernel_rfl)) ?_
 simp -implicitDefEqProofs only [go_sem, Try.results57]
 refine zap (fun k : Nat => hd [(0, vT (za0 xs)), (1, vT (.fn g caps)), (7, vI xs.length), (8, vI k)] [] []) (fun k => k <= xs.length /\ ∀ x ∈ xs.take k, p x = false) (fun k => xs.length - k) 0 (zah ?_) ?_ ?_
 ·simp -implicitDefEqProofs only [go_sem]
 ·simp
 ·intro k ⟨hk, hr⟩
  by_cases hlt : k < xs.length
  ·simp -implicitDefEqProofs only [go_sem, zaj, hlt, ne_eq]
   refine callF (H xs[k] (List.getElem_mem hlt)) (by simp -implicitDefEqProofs only [go_sem, ne_eq]) ?_
   simp -implicitDefEqProofs only [go_sem, ne_eq]
   refine ⟨fun h => ?_, fun h => ⟨k + 1, ⟨hlt, zbt hlt hr h⟩, by omega, zah (by simp -implicitDefEqProofs only [go_sem]; rw [za2 (by omega)])⟩⟩
   rw [zbu hlt hr h]
  ·simp -implicitDefEqProofs only [go_sem, hlt]
   rw [List.take_of_length_le (by omega)] at hr
   rw [zcb hr]
theorem zcm (xs : List (List Int)) (p : List Int -> Bool) (g : FuncId) (caps : List T) (H : ∀ x ∈ xs, FC Try.prog g (.one (zaz x) :: caps.map .one) [bD (p x)]) : FC Try.prog 76 [.one (za0 xs), .one (.fn g caps)] [bD (xs.any p)] := by
 refine zaw Try.call76 Try.func76 rfl (by kernel_rfl) (zbf (by kernel_rfl)) ?_
 simp -implicitDefEqProofs only [go_sem, Try.results76]
 refine callF (zhb xs p g caps H) (by simp -implicitDefEqProofs only [go_sem]) ?_
 simp -implicitDefEqProofs only [go_sem]
 rw [zl1]
theorem zmp (xs : List Int) (p : Int -> Bool) (g : FuncId) (caps : List T) (H : ∀ x ∈ xs, FC Try.prog g (iD x :: caps.map .one) [bD (p x)]) : FC Try.prog 101 [.one (zaz xs), .one (.fn g caps)] [bD (xs.any p)] := by
 refine zaw Try.call101 Try.func101 rfl (by kernel_rfl) (zbf (by kernel_rfl)) ?_
 simp -implicitDefEqProofs only [go_sem, Try.results101]
 refine callF (zi4 xs p g caps H) (by simp -implicitDefEqProofs only [go_sem]) ?_
 simp -implicitDefEqProofs only [go_sem]
 rw [zl1]
theorem zj3 (c : List Int) : FC Try.prog 100 [.one (zaz c)] [bD (!pcl c)] := by
 refine zaw Try.call100 Try.func100 rfl (by kernel_rfl) (zbf (by kernel_rfl)) ?_
 simp -implicitDefEqProofs only [go_sem, Try.results100]
 refine callF (zda c) (by simp -implicitDefEqProofs only [go_sem]) ?_
 simp -implicitDefEqProofs only [go_sem]
theorem zw1 (S : List (List Int)) : zey S = (decide ((S.length : Int) <= 40) && !(S.any fun c => !pcl c)) := by
 unfold zey
 congr 1
 ·rw [decide_eq_decide]; omega
 ·rw [List.not_any_eq_all_not]; simp
theorem zbr (S : List (List Int)) : FC Try.prog 54 [.one (za0 S)] [bD (zey S)] := by
 have H := zcm S (fun c => !pcl c) 100 [] fun x _ => zj3 x
 rw [zw1]
 refine zaw Try.call54 Try.func54 rfl (by kernel_rfl) (zbf (by kernel_rfl)) ?_
 simp -implicitDefEqProofs only [go_sem, Try.results54]
 cases h : decide ((S.length : Int) <= 40)
 ·simp -implicitDefEqProofs only [go_sem, h]
 ·simp -implicitDefEqProofs only [go_sem, h]
  refine callF (H) (by simp -implicitDefEqProofs only [go_sem]) ?_
  simp -implicitDefEqProofs only [go_sem]
theorem zlf (S : List (List Int)) : FC Try.prog 48 [.one (za0 S)] [bD (zey S)] := by
 refine zet (fun hw => ?_) Try.call48
 have hl : S.length <= 9223372036854775807 := by simpa [zmz, wfT] using hw.1.1
 have hle : ((S.length : Int) <= 40) = (S.length <= 40) := by simp; omega
 refine zaw Try.call48 Try.func48 rfl (by kernel_rfl) (zbf (by kernel_rfl)) ?_
 simp -implicitDefEqProofs only [go_sem, Try.results48]
 refine zap (fun k : Nat => hd [(0, vT (za0 S)), (3, vI k)] [] []) (fun k => k <= S.length /\ k <= 41 /\ ∀ x ∈ S.take k, pcl x = true) (fun k => S.length - k) 0 (zah ?_) ?_ ?_
 ·simp -implicitDefEqProofs only [go_sem]
 ·simp
 ·intro k ⟨hk, hk2, hr⟩
  by_cases hlt : k < S.length
  ·by_cases h40 : (k : Int) <= 40
   ·have HC := zj9 S[k]
    simp -implicitDefEqProofs only [go_sem, hlt, h40, zaj]
    refine callF (HC) (by simp -implicitDefEqProofs only [go_sem]) ?_
    simp -implicitDefEqProofs only [go_sem]
    rw [za2 (by omega)]
    refine ⟨fun h => ?_, fun h => ⟨k + 1, ⟨hlt, by omega, fun x hx => ?_⟩, by omega, zah (by simp -implicitDefEqProofs only [go_sem])⟩⟩
    ·have hf : pcl S[k] = false := by simpa using h
     have : zey S = false := by
      rw [<- Bool.not_eq_true]
      intro hp
      rw [zbe hp (List.getElem_mem hlt)] at hf; cases hf
     rw [this]
    ·rw [List.take_succ_eq_append_getElem hlt] at hx
     rcases List.mem_append.1 hx with hx | hx
     ·exact hr x hx
     ·rw [List.mem_singleton.1 hx]; simpa using h
   ·have : zey S = false := by
     unfold zey
     rw [show decide (S.length <= 40) = false by simp; omega]; rfl
    have h40' : ((S.length : Int) <= 40) = False := by simp; omega
    have h40k : ((k : Int) <= 40) = False := by simp; omega
    simp -implicitDefEqProofs only [go_sem, hlt, h40k, h40']
    rw [this]
  ·rw [List.take_of_length_le (by omega)] at hr
   have hall : S.all pcl = true := List.all_eq_true.2 hr
   simp -implicitDefEqProofs only [go_sem, hlt]
   unfold zey
   rw [hall, Bool.and_true]
   have : decide ((S.length : Int) <= 40) = decide (S.length <= 40) := by rw [decide_eq_decide]; omega
   rw [this]
theorem zp6 (xs : List Int) (s : Int) : FC Try.prog 99 [.one (zaz xs), iD s] [bD (xs.contains s)] := by
 refine zet (fun hw => ?_) Try.call99
 have hl : xs.length <= 9223372036854775807 := by simpa [zmz, wfT] using hw.1.1
 refine zaw Try.call99 Try.func99 rfl (by kernel_rfl) (zbf (by kernel_rfl)) ?_
 simp -implicitDefEqProofs only [go_sem, Try.results99]
 refine zap (fun k : Nat => hd [(0, vT (zaz xs)), (1, vT (.int .i64 s)), (5, vI k)] [] []) (fun k => k <= xs.length /\ s ∉ xs.take k) (fun k => xs.length - k) 0 (zah ?_) ?_ ?_
 ·simp -implicitDefEqProofs only [go_sem]
 ·simp
 ·intro k ⟨hk, hr⟩
  by_cases hlt : k < xs.length
  ·simp -implicitDefEqProofs only [go_sem, zaj, hlt]
   refine ⟨fun h => ?_, fun h => ?_⟩
   ·have e : xs[k] = s := beq_iff_eq.1 h
    have hm : s ∈ xs := e ▸ List.getElem_mem hlt
    rw [show xs.contains s = true by simpa using hm]
   ·have e : xs[k] ≠ s := fun e => by simp [e] at h
    rw [za2 (by omega)]
    exact ⟨k + 1, ⟨hlt, zdz hlt hr e⟩, by omega, zah (by simp -implicitDefEqProofs only [go_sem])⟩
  ·simp -implicitDefEqProofs only [go_sem, hlt]
   rw [List.take_of_length_le (by omega)] at hr
   rw [show xs.contains s = false by simpa using hr]
theorem zkb : ∀ xs : List Int, flR (xs.map fun s => [T.int .i64 s]) = true
 | [] => rfl
 | a :: xs => by rw [List.map_cons]; unfold flR; rw [zkb xs]; rfl
attribute [go_sem] zkb
theorem zq4 (xs : List Int) (hl : xs.length <= 4294967296) : FC Try.prog 64 [.one (zaz xs)] [.one (zaz xs)] := by
 refine zaw Try.call64 Try.func64 rfl (by kernel_rfl) (zbf (by kernel_rfl)) ?_
 simp -implicitDefEqProofs only [go_sem, Try.results64]
 refine zas (by simp -implicitDefEqProofs only [go_sem]) ?_
 simp -implicitDefEqProofs only [go_sem]
 refine apD true (by simp -implicitDefEqProofs only [go_sem, ne_eq, List.length_map, Nat.zero_add, hl]) ?_
 simp -implicitDefEqProofs only [go_sem, ne_eq, List.length_map, Nat.zero_add, hl]
theorem zms (xs : List Int) : ∀ c ∈ (xs.map fun s => [T.int .i64 s]).flatten, c.flat = true := fun c hc => by
 obtain ⟨r, hr, hc⟩ := List.mem_flatten.1 hc
 obtain ⟨s, _, rfl⟩ := List.mem_map.1 hr
 rw [List.mem_singleton.1 hc]; rfl
set_option maxHeartbeats 1000000 in
theorem zsx : CloneOf Try.prog 56 1 8 := by
 have t22 := Try.underlying27
 have q22 : ∀ (w : World) (a : Option Addr) (n c n' c' : Nat), (binOp .eql 27 (.slice a n c) (.slice none n' c')).run Try.prog w = .ok (.bool a.isNone) w := fun w a n c n' c' => Lib.run_eql_slice_nil w _ _ a n c n' c' t22
 have u22 : ∀ w, Sem.run Try.prog (underlying 27) w = .ok (TypeDesc.slice 3) w := run_underlying t22
 refine ⟨Try.call56, fun ad n c news w hl hn hbig hc h1 => ?_, fun n c w => ?_⟩
 ·have A : Aside (∀ j u, news[j]? = some u -> w.cell? (ad.add j) = some u) := hc
  clear hc
  obtain ⟨i0, z, hi, hz0, hzs, hz1, hz2⟩ := zu9 (P := Try.prog) (t := 3) (n := 1) (b := 8) (z := [.t (.int .i64 0)]) (by kernel_rfl) (by kernel_rfl) (by kernel_rfl) rfl
  go_enter Try.func56, Try.ntmps56
  go_wp2_with (at_builtin; refine wpList_append_own _ rfl _ _ 27 rfl w.heap.size 3 i0 z 1 8 t22 hi hz0 hz1 hz2 hzs (by decide) _ _ _ rfl (World.ownsRow_made w #[] 0 (Nat.le_refl _) (Nat.zero_le _) (by simp)) ad n c news rfl ?qc1 ?qc2 ?qc3 ?qc4 ?qc5 ?qc6 ?_)
  case qc1 => exact hl
  case qc2 =>
   intro j u hj
   exact Lib.cell?_alloc_some _ (A.out j u hj)
  case qc3 => exact h1
  case qc4 => rw [Nat.zero_add]; exact hn
  case qc5 => rw [Nat.zero_add]; exact hbig
  case qc6 => simp
  intro v' w1 hown hgrow hnil
  go_wp2
  go_ret
  refine ⟨_, v', rfl, by simpa using hown, hnil, ?_⟩
  exact ((Below.refl _ w).alloc (Nat.le_refl _) _).grown hgrow (by simp) (by intro k hk; simp [Value.ownBlock] at hk; omega)
 ·go_enter Try.func56, Try.ntmps56
  go_wp2
  go_ret
  exact ⟨rfl, rfl⟩
theorem zlt (xs : List Int) (hs : xs.length <= 1099511627776) : FC Try.prog 56 [.one (zaz xs)] [.one (zaz xs)] :=
 zr6 zsx _ (by simp; omega) (zms xs)
end Go.Proofs.Yteeaofpphmhjdaa
namespace Go.Proofs.Yteeaofpphmhjdaa
set_option linter.unusedSimpArgs false
set_option linter.unusedVariables false
set_option linter.unusedSectionVars false
set_option maxRecDepth 4000
open Go.RowKit
variable {P : Program}
def C.fb (j : Nat) (ts : List T) : C -> C
 | .bx b o => if b = j then .el ts o else .bx b o
 | .fn f [k] => if k = j then .t (.fn f [.ptr ts]) else .fn f [k]
 | .fn _ _ => .any
 | c => c
def ztz : List C -> Option (List T)
 | [] => some []
 | .t x :: cs => (ztz cs).map (x :: ·)
 | .rn x :: cs => (ztz cs).map (x :: ·)
 | _ :: _ => none
def fbS (f : Nat -> V) (j : Nat) (ts : List T) : Nat -> V := fun i => (f i).map (C.fb j ts)
def fbB (f : Nat -> Option (List C)) (j : Nat) (ts : List T) : Nat -> Option (List C) := fun b => if b = j then none else (f b).map fun cs => cs.map (C.fb j ts)
theorem fbS_at (f : Nat -> V) (j : Nat) (ts : List T) (i : Nat) : fbS f j ts i = (f i).map (C.fb j ts) := rfl
def St.fb (σ : St) (j : Nat) (ts : List T) : St := ⟨fbS σ.sl j ts, fbB σ.bx j ts, σ.ev⟩
theorem zqk {σ : St} {g : Gh} {w : World} : ∀ {cs : List C} {ts : List T} {vs : List Value}, ztz cs = some ts -> CRs σ g w cs vs -> ∀ (i : Nat) (t : T), ts[i]? = some t -> ∃ v, vs[i]? = some v /\ zag w (Fix σ g w) t v
 | [], ts, vs, h, _, i, t, ht => by
  unfold ztz at h
  cases h
  simp at ht
 | c :: cs, ts, vs, h, hv, i, t, ht => by
  obtain ⟨v, vs', rfl, h1, h2⟩ := hv
  have key : ∀ x, (ztz cs).map (x :: ·) = some ts -> zag w (Fix σ g w) x v -> ∃ v', (v :: vs')[i]? = some v' /\ zag w (Fix σ g w) t v' := fun x hx hr => by
   cases hc : ztz cs with
   | none => rw [hc] at hx; cases hx
   | some ts' =>
    rw [hc] at hx
    simp only [Option.map_some, Option.some.injEq] at hx
    subst hx
    cases i with
    | zero =>
     simp only [List.getElem?_cons_zero, Option.some.injEq] at ht
     subst ht
     exact ⟨v, rfl, hr⟩
    | succ i =>
     simp only [List.getElem?_cons_succ] at ht ⊢
     exact zqk hc h2 i t ht
  cases c with
  | t x => exact key x h h1
  | rn x => exact key x h (zag.keep (fun _ _ => rfl) (fun b hb => hb.1) x v h1)
  | _ => cases h
theorem fb_wk {σ : St} {j : Nat} {cs : List C} {ts : List T} (hb : σ.bx j = some cs) (ht : ztz cs = some ts) : Wk σ (σ.fb j ts) := by
 intro n0 N g a w h
 have hj : σ.bx j ≠ none := by rw [hb]; simp
 have hbx : ∀ b, (σ.fb j ts).bx b ≠ none ↔ b ≠ j /\ σ.bx b ≠ none := fun b => by
  show (if b = j then none else (σ.bx b).map fun cs => cs.map (C.fb j ts)) ≠ none ↔ _
  by_cases hbj : b = j
  ·rw [if_pos hbj]; simp [hbj]
  ·rw [if_neg hbj]; simp [hbj]
 have hf : ∀ b, Fix σ g w b -> Fix (σ.fb j ts) g w b := fun b hf => ⟨fun k hk => hf.1 k ((hbx k).1 hk).2, hf.2.1, hf.2.2⟩
 have hfr : ∀ b, zbw σ g w b -> zbw (σ.fb j ts) g w b := fun b hb => ⟨hf b hb.1, hb.2⟩
 obtain ⟨vs, ty, e1, e2⟩ := h.boxes j cs hb
 have hfix : Fix (σ.fb j ts) g w (g.β j) := by
  refine ⟨fun k hk e => ((hbx k).1 hk).1 (h.inj k j ((hbx k).1 hk).2 hj e), fun e x hx ho hh => ?_, ?_, (h.anew _ (h.base j hj)).1⟩
  ·exact h.ebx e j ⟨x, hx, ho⟩ hj (List.mem_of_mem_head? hh)
  ·exact (Array.getElem?_eq_some_iff.1 e1).1
 have hat : zau w (Fix (σ.fb j ts) g w) (g.β j) 0 ts := zau.mk fun i t hi => by
  obtain ⟨v, k1, k2⟩ := zqk ht e2 i t hi
  refine ⟨v, ?_, zag.keep (fun _ _ => rfl) hf t v k2⟩
  have : vs[i]? = some v := by rw [<- Array.getElem?_toList]; exact k1
  rw [Nat.zero_add]
  simp [World.cell?, e1, this]
 have cr : ∀ c v, CR σ g w c v -> CR (σ.fb j ts) g w (c.fb j ts) v := fun c v hc => by
  cases c with
  | t y => exact zag.keep (fun _ _ => rfl) hf y v hc
  | nl s => exact hc
  | ow e' n => exact hc
  | bx b o =>
   show CR _ _ _ (if b = j then .el ts o else .bx b o) v
   by_cases he : b = j
   ·subst he
    rw [if_pos rfl]
    exact ⟨g.β b, 0, by rw [Nat.zero_add]; exact hc.1, hfix, hat⟩
   ·rw [if_neg he]; exact ⟨hc.1, (hbx b).2 ⟨he, hc.2⟩⟩
  | el cs o => obtain ⟨b, q, h1, h2, h3⟩ := hc; exact ⟨b, q, h1, hf b h2, zau.keep (fun _ _ => rfl) hf b rfl q cs h3⟩
  | eo e' s sz i o => exact hc
  | fn f caps =>
   match caps, hc with
   | [], _ => trivial
   | [k], hc =>
    show CR _ _ _ (if k = j then .t (.fn f [.ptr ts]) else .fn f [k]) v
    by_cases he : k = j
    ·subst he
     rw [if_pos rfl]
     show zag _ _ _ _
     unfold zag
     refine ⟨_, hc.1, ?_⟩
     unfold zaa
     refine ⟨_, [], rfl, ?_, by unfold zaa; rfl⟩
     unfold zag
     exact ⟨g.β k, 0, rfl, hfix, hat⟩
    ·rw [if_neg he]
     exact ⟨hc.1, fun b hb => (hbx b).2 ⟨by rw [List.mem_singleton.1 hb]; exact he, hc.2 b hb⟩⟩
   | _ :: _ :: _, _ => trivial
  | cv u => exact hc
  | any => trivial
  | rn y => exact zag.keep (fun _ _ => rfl) hfr y v hc
  | er cs o => obtain ⟨b, q, h1, h2, h3⟩ := hc; exact ⟨b, q, h1, hfr b h2, zau.keep (fun _ _ => rfl) hfr b rfl q cs h3⟩
 refine ⟨g, ⟨h.defers, h.size, h.anew, fun i => VR.map cr (h.slots i), fun b cs' hb' => ?_, fun b hb => h.base b ((hbx b).1 hb).2, fun b b' h1 h2 => h.inj b b' ((hbx b).1 h1).2 ((hbx b').1 h2).2, fun e' z hz h1 => ?_, fun e' z hz h1 => ?_, h.slc, h.ebase, h.etop, h.nodup, h.apart, fun e' k he hk => h.ebx e' k he ((hbx k).1 hk).2⟩, rfl, rfl⟩
 ·have hne := (hbx b).1 (by rw [hb']; simp)
  cases hc : σ.bx b with
  | none => exact absurd hc hne.2
  | some cs0 =>
   have hb' : (if b = j then none else (σ.bx b).map fun cs => cs.map (C.fb j ts)) = some cs' := hb'
   rw [if_neg hne.1, hc] at hb'
   simp only [Option.map_some, Option.some.injEq] at hb'
   subst hb'
   obtain ⟨vs, ty, k1, k2⟩ := h.boxes b cs0 hc
   exact ⟨vs, ty, k1, CRs.map cr k2⟩
 ·obtain ⟨ao, cap, e1, e2, e3, e4⟩ := h.evs e' z hz h1
  refine ⟨ao, cap, e1, e2, e3, ?_⟩
  rcases e4 with e4 | ⟨b, cells, ty, fps, k1, k2, k3, k4, k5⟩
  ·exact Or.inl e4
  ·refine Or.inr ⟨b, cells, ty, fps, k1, k2, k3, k4, ?_⟩
   split at k5
   ·rw [if_pos ‹_›]; exact k5
   ·rw [if_neg ‹_›]; exact ⟨k5.1, zaf.keep (fun _ _ => rfl) hf b rfl 0 z.sz z.rows k5.2⟩
 ·exact ⟨zag.keep (fun _ _ => rfl) hf _ _ (h.offs e' z hz h1).1, (h.offs e' z hz h1).2⟩
section
variable {ks : List Fr} {Q : Exit -> St -> Prop} {σ : St} {ops : Array Oper} {os : List Oper} {o : Oper}
theorem frzX (j : Nat) (hg : o.guard = none) (hs : zm3 o.op = true) (k : zan (σ.bx j) fun cs => zan (ztz cs) fun ts => exo P ops (o :: os) ks Q (σ.fb j ts)) : exo P ops (o :: os) ks Q σ := by
 obtain ⟨cs, hx, h1⟩ := zai k
 obtain ⟨ts, ht, h2⟩ := zai h1
 exact zoh (fb_wk hx ht) hg hs h2
end
attribute [go_sem] C.fb St.fb fbS_at ztz
end Go.Proofs.Yteeaofpphmhjdaa
namespace Go.Proofs.Yteeaofpphmhjdaa
set_option linter.unusedSimpArgs false
set_option linter.unusedVariables false
set_option linter.unusedSectionVars false
set_option maxRecDepth 4000
open Go.RowKit
theorem zr2 (a : List Int) (l : Int) : FC Try.prog 102 [iD l, .one (.ptr [zaz a])] [bD (a.contains l)] := by
 have H := zdt a l
 refine zaw Try.call102 Try.func102 rfl (by kernel_rfl) (zbf (by kernel_rfl)) ?_
 simp -implicitDefEqProofs only [go_sem, Try.results102]
 refine callF (H) (by simp -implicitDefEqProofs only [go_sem]) ?_
 simp -implicitDefEqProofs only [go_sem]
theorem zdu (c a : List Int) : FC Try.prog 59 [.one (zaz c), .one (zaz a)] [bD (sat a c)] := by
 have H := zmp c (fun l => a.contains l) 102 [.ptr [zaz a]] fun l _ => zr2 a l
 unfold sat
 refine zaw Try.call59 Try.func59 rfl (by kernel_rfl) (zbf (by kernel_rfl)) ?_
 simp -implicitDefEqProofs only [go_sem, Try.results59]
 refine frzX 3 rfl rfl ?_
 simp -implicitDefEqProofs only [go_sem]
 refine callF (H) (by simp -implicitDefEqProofs only [go_sem]) ?_
 simp -implicitDefEqProofs only [go_sem]
theorem zso (a : List Int) (l : Int) (h : -9223372036854775807 <= l /\ l <= 9223372036854775807) : FC Try.prog 105 [iD l, .one (.ptr [zaz a])] [bD (a.contains (-l))] := by
 have H := zdt a (-l)
 have hw : IntKind.i64.wrap (0 - l) = -l := by rw [zak (by omega) (by omega)]; omega
 refine zaw Try.call105 Try.func105 rfl (by kernel_rfl) (zbf (by kernel_rfl)) ?_
 simp -implicitDefEqProofs only [go_sem, Try.results105]
 rw [hw]
 refine callF (H) (by simp -implicitDefEqProofs only [go_sem]) ?_
 simp -implicitDefEqProofs only [go_sem]
theorem opn_eq (a c : List Int) : c.filter (kq fun l => a.contains (-l)) = opn a c := rfl
theorem zc9 (c a : List Int) (hc : ∀ l ∈ c, -9223372036854775807 <= l /\ l <= 9223372036854775807) (hl : c.length <= 1048577) : FC Try.prog 60 [.one (zaz c), .one (zaz a)] [.one (zaz (opn a c))] := by
 have H := delF_c c a (fun l => a.contains (-l)) 105 hl fun l h => zso a l (hc l h)
 rw [opn_eq] at H
 have HC := zlt c (by omega)
 refine zej Try.call60 Try.func60 rfl (by kernel_rfl) (zbf (by kernel_rfl)) ?_
 simp -implicitDefEqProofs only [go_sem, Try.results60]
 refine callF (HC) (by simp -implicitDefEqProofs only [go_sem]) ?_
 simp -implicitDefEqProofs only [go_sem]
 refine zar [] [6, 7] [3] [] (H) (by decide) rfl (by simp -implicitDefEqProofs only [go_sem]) (by simp -implicitDefEqProofs only [go_sem]) (by simp -implicitDefEqProofs only [go_sem]) (by simp -implicitDefEqProofs only [go_sem]) ?_
 simp -implicitDefEqProofs only [go_sem]
end Go.Proofs.Yteeaofpphmhjdaa
namespace Go.Proofs.Yteeaofpphmhjdaa
set_option linter.unusedSimpArgs false
set_option linter.unusedVariables false
set_option linter.unusedSectionVars false
set_option maxRecDepth 4000
open Go.RowKit
theorem zp8 : ∀ {S : List (List Int)}, zbp (S.map fun s => [zaz s]) -> ∀ {c : List Int}, c ∈ S -> wfT (zaz c)
 | [], _, c, hc => by simp at hc
 | x :: S, h, c, hc => by
  have h' : zl7 [zaz x] /\ zbp (S.map fun s => [zaz s]) := h
  rcases List.mem_cons.1 hc with rfl | hc
  ·exact h'.1.1
  ·exact zp8 h'.2 hc
theorem zu3 {S : List (List Int)} (h : zbp (S.map fun s => [zaz s])) {c : List Int} (hc : c ∈ S) : c.length <= 9223372036854775807 := by
 have := (zp8 h hc).1
 simpa using this
abbrev Sm (c : List Int) : Prop := ∀ l ∈ c, -1073741824 <= l /\ l <= 1073741824
theorem zi9 {c : List Int} (h : pcl c = true) : Sm c := fun l hl => by have := zvl (zd2 h hl); omega
theorem zsq (a c : List Int) {k : Nat} (h : k < c.length) : opn a (c.take (k + 1)) = opn a (c.take k) ++ if a.contains (-c[k]) = true then [] else [c[k]] := by
 unfold opn
 rw [List.take_succ_eq_append_getElem h, List.filter_append]
 congr 1
 rw [List.filter_cons]
 cases a.contains (-c[k]) <;> simp
theorem zvo (a c : List Int) : (opn a c).length <= c.length := List.length_filter_le _ _
set_option maxHeartbeats 1000000 in
theorem zju (c a : List Int) (hc : Sm c) : FC Try.prog 65 [.one (zaz c), .one (zaz a)] [iD (zm4 a c).1, iD (zm4 a c).2] := by
 refine zet (fun hw => ?_) Try.call65
 have hl : c.length <= 9223372036854775807 := by have := hw.1.1; simpa using this
 refine zaw Try.call65 Try.func65 rfl (by kernel_rfl) (zbf (by kernel_rfl)) ?_
 simp -implicitDefEqProofs only [go_sem, Try.results65]
 refine zap (fun k : Nat => hd [(0, vT (zaz c)), (1, vT (zaz a)), (6, vI (opn a (c.take k)).length), (7, vT (.int .i64 ((opn a (c.take k)).getLast?.getD 0))), (8, vI k)] [] []) (fun k => k <= c.length /\ ∀ l ∈ c.take k, l ∉ a) (fun k => c.length - k) 0 (zah ?_) ?_ ?_
 ·simp -implicitDefEqProofs only [go_sem]
  exact ⟨rfl, rfl⟩
 ·simp
 ·intro k ⟨hk, hr⟩
  by_cases hlt : k < c.length
  ·have hb := hc c[k] (List.getElem_mem hlt)
   have H1 := zp6 a c[k]
   have H2 := zp6 a (-c[k])
   have hwn : IntKind.i64.wrap (0 - c[k]) = -c[k] := by rw [zak (by omega) (by omega)]; omega
   have hs := zsq a c hlt
   have hlo := zvo a (c.take k)
   rw [List.length_take] at hlo
   simp -implicitDefEqProofs only [go_sem, zaj, hlt]
   refine callF (H1) (by simp -implicitDefEqProofs only [go_sem, zaj, hlt]) ?_
   simp -implicitDefEqProofs only [go_sem, zaj, hlt]
   refine ⟨fun h => ?_, fun h => ?_⟩
   ·have : zm4 a c = (-1, 0) := by
     unfold zm4
     rw [if_pos (zb8.2 ⟨c[k], List.getElem_mem hlt, by simpa using h⟩)]
    rw [this]
    exact ⟨rfl, rfl⟩
   ·have hna : c[k] ∉ a := by simpa using h
    have hr2 : ∀ l ∈ c.take (k + 1), l ∉ a := fun l hl => by
     rw [List.take_succ_eq_append_getElem hlt] at hl
     rcases List.mem_append.1 hl with hl | hl
     ·exact hr l hl
     ·rw [List.mem_singleton.1 hl]; exact hna
    rw [hwn]
    refine callF (H2) (by simp -implicitDefEqProofs only [go_sem, zaj, hlt]) ?_
    simp -implicitDefEqProofs only [go_sem, zaj, hlt]
    refine ⟨fun h => ?_, fun h => ?_⟩
    ·have h' : a.contains (-c[k]) = false := by simpa using h
     rw [h', if_neg (by simp)] at hs
     rw [za2 (by omega)]
     refine ⟨k + 1, ⟨hlt, hr2⟩, by omega, zah ?_⟩
     simp -implicitDefEqProofs only [go_sem]
     rw [hs, za2 (by omega)]
     simp
    ·have h' : a.contains (-c[k]) = true := by simpa using h
     rw [h', if_pos rfl, List.append_nil] at hs
     rw [za2 (by omega)]
     refine ⟨k + 1, ⟨hlt, hr2⟩, by omega, zah ?_⟩
     simp -implicitDefEqProofs only [go_sem]
     rw [hs]
     exact ⟨rfl, rfl⟩
  ·have hns : sat a c = false := by
    rw [<- Bool.not_eq_true, zb8]
    rintro ⟨l, h1, h2⟩
    rw [List.take_of_length_le (by omega)] at hr
    exact hr l h1 h2
   simp -implicitDefEqProofs only [go_sem, hlt]
   rw [List.take_of_length_le (by omega)]
   unfold zm4
   rw [hns, if_neg (by simp)]
   exact ⟨rfl, rfl⟩
def zrz (S : List (List Int)) (a : List Int) : Int := zjs S fun c => (zm4 a c).1 == 0
theorem zf7 (S : List (List Int)) (a : List Int) (hS : ∀ c ∈ S, Sm c) : FC Try.prog 79 [.one (za0 S), .one (zaz a)] [iD (zrz S a)] := by
 refine zet (fun hw => ?_) Try.call79
 have hl : S.length <= 9223372036854775807 := by simpa [zmz, wfT] using hw.1.1
 unfold zrz
 refine zaw Try.call79 Try.func79 rfl (by kernel_rfl) (zbf (by kernel_rfl)) ?_
 simp -implicitDefEqProofs only [go_sem, Try.results79]
 refine zap (fun k : Nat => hd [(0, vT (za0 S)), (1, vT (zaz a)), (5, vI k)] [] []) (fun k => k <= S.length /\ ∀ x ∈ S.take k, ((zm4 a x).1 == 0) = false) (fun k => S.length - k) 0 (zah ?_) ?_ ?_
 ·simp -implicitDefEqProofs only [go_sem]
 ·simp
 ·intro k ⟨hk, hr⟩
  by_cases hlt : k < S.length
  ·have H := zju S[k] a (hS _ (List.getElem_mem hlt))
   simp -implicitDefEqProofs only [go_sem, zaj, hlt]
   refine callF (H) (by simp -implicitDefEqProofs only [go_sem]) ?_
   simp -implicitDefEqProofs only [go_sem]
   refine ⟨fun h => ?_, fun h => ?_⟩
   ·rw [zbu (p := fun c => (zm4 a c).1 == 0) hlt hr h]
   ·rw [za2 (by omega)]
    exact ⟨k + 1, ⟨hlt, zbt (p := fun c => (zm4 a c).1 == 0) hlt hr h⟩, by omega, zah (by simp -implicitDefEqProofs only [go_sem])⟩
  ·simp -implicitDefEqProofs only [go_sem, hlt]
   rw [List.take_of_length_le (by omega)] at hr
   rw [zcb hr]
theorem zsw {a c : List Int} (ha : Cons a) : ((zm4 a c).1 == 0) = fal a c := by
 unfold zm4
 cases h : sat a c
 ·rw [if_neg (by simp)]
  unfold fal
  cases opn a c with
  | nil => rfl
  | cons x xs => simp [List.isEmpty]; omega
 ·rw [if_pos rfl]
  cases h2 : fal a c
  ·rfl
  ·rw [zox ha h2] at h; cases h
theorem zwv (S : List (List Int)) {a : List Int} (ha : Cons a) : zrz S a = match S.findIdx? (fal a) with | some i => (i : Int) | none => -1 := by
 unfold zrz
 rw [show (fun c => (zm4 a c).1 == 0) = fal a from funext fun c => zsw ha]
 cases h : S.findIdx? (fal a) with
 | none =>
  exact zcb fun x hx => List.findIdx?_eq_none_iff.1 h x hx
 | some i =>
  obtain ⟨hi, h1, h2⟩ := List.findIdx?_eq_some_iff_getElem.1 h
  refine zbu hi (fun x hx => ?_) h1
  obtain ⟨j, hj, rfl⟩ := List.mem_take_iff_getElem.1 hx
  have := h2 j (by omega)
  simpa using this
def zi7 (n : Int) (c : List Int) (j : Nat) : Int := (c.take j).foldl (fun m l => max m (ab l)) n
def zf0 (S : List (List Int)) (k : Nat) : Int := (S.take k).foldl (fun n c => c.foldl (fun m l => max m (ab l)) n) 0
theorem zgl (n : Int) (c : List Int) {j : Nat} (h : j < c.length) : zi7 n c (j + 1) = max (zi7 n c j) (ab c[j]) := by
 unfold zi7
 rw [List.take_succ_eq_append_getElem h, List.foldl_append]; rfl
theorem zgn (S : List (List Int)) {k : Nat} (h : k < S.length) : zf0 S (k + 1) = zi7 (zf0 S k) S[k] S[k].length := by
 unfold zf0 zi7
 rw [List.take_succ_eq_append_getElem h, List.foldl_append, List.take_length]; rfl
theorem zf2 (S : List (List Int)) (hS : ∀ c ∈ S, Sm c) : FC Try.prog 67 [.one (za0 S)] [iD (zb2 S)] := by
 refine zet (fun hw => ?_) Try.call67
 have hl : S.length <= 9223372036854775807 := by simpa [zmz, wfT] using hw.1.1
 have hwl : ∀ c ∈ S, c.length <= 9223372036854775807 := fun c hc => zu3 (show zbp (S.map fun s => [zaz s]) from hw.1.2) hc
 refine zaw Try.call67 Try.func67 rfl (by kernel_rfl) (zbf (by kernel_rfl)) ?_
 simp -implicitDefEqProofs only [go_sem, Try.results67]
 refine zap (fun k : Nat => hd [(3, vI (zf0 S k)), (8, vT (za0 S)), (9, vI S.length), (10, vI k)] [] []) (fun k => k <= S.length) (fun k => S.length - k) 0 (zah ?_) (Nat.zero_le _) ?_
 ·simp -implicitDefEqProofs only [go_sem]
  rfl
 ·intro k hk
  by_cases hlt : k < S.length
  ·have hlk := hwl _ (List.getElem_mem hlt)
   have hsk := hS _ (List.getElem_mem hlt)
   have hsu := zgn S hlt
   simp -implicitDefEqProofs only [go_sem, zaj, hlt]
   refine zap (fun j : Nat => hd [(3, vI (zi7 (zf0 S k) S[k] j)), (8, vT (za0 S)), (9, vI S.length), (10, vI k), (14, vT (zaz S[k])), (15, vI S[k].length), (16, vI j)] [] []) (fun j => j <= S[k].length) (fun j => S[k].length - j) 0 (zah ?_) (Nat.zero_le _) ?_
   ·simp -implicitDefEqProofs only [go_sem]
    rfl
   ·intro j hj
    by_cases hjl : j < S[k].length
    ·have HA := zd4 S[k][j] (by have := hsk _ (List.getElem_mem hjl); omega)
     simp -implicitDefEqProofs only [go_sem, zaj, hjl]
     refine callF (HA) (by simp -implicitDefEqProofs only [go_sem]) ?_
     simp -implicitDefEqProofs only [go_sem]
     rw [za2 (by omega)]
     refine ⟨j + 1, hjl, by omega, zah ?_⟩
     simp -implicitDefEqProofs only [go_sem]
     rw [zgl _ _ hjl]
    ·have hjn : j = S[k].length := by omega
     subst hjn
     rw [<- hsu]
     simp -implicitDefEqProofs only [go_sem, hjl]
     rw [za2 (by omega)]
     exact ⟨k + 1, hlt, by omega, zah (by simp -implicitDefEqProofs only [go_sem])⟩
  ·simp -implicitDefEqProofs only [go_sem, hlt]
   unfold zf0
   rw [List.take_of_length_le (by omega)]
   rfl
theorem zfc (S : List (List Int)) (hS : ∀ c ∈ S, Sm c) : FC Try.prog 50 [.one (za0 S)] [iD (zb2 S)] := by
 refine zet (fun hw => ?_) Try.call50
 have hl : S.length <= 9223372036854775807 := by simpa [zmz, wfT] using hw.1.1
 have hwl : ∀ c ∈ S, c.length <= 9223372036854775807 := fun c hc => zu3 (show zbp (S.map fun s => [zaz s]) from hw.1.2) hc
 refine zaw Try.call50 Try.func50 rfl (by kernel_rfl) (zbf (by kernel_rfl)) ?_
 simp -implicitDefEqProofs only [go_sem, Try.results50]
 refine zap (fun k : Nat => hd [(0, vT (za0 S)), (3, vI (zf0 S k)), (4, vI k)] [] []) (fun k => k <= S.length) (fun k => S.length - k) 0 (zah ?_) (Nat.zero_le _) ?_
 ·simp -implicitDefEqProofs only [go_sem]
  rfl
 ·intro k hk
  by_cases hlt : k < S.length
  ·have hlk := hwl _ (List.getElem_mem hlt)
   have hsk := hS _ (List.getElem_mem hlt)
   have hsu := zgn S hlt
   simp -implicitDefEqProofs only [go_sem, hlt]
   refine zap (fun j : Nat => hd [(0, vT (za0 S)), (3, vI (zi7 (zf0 S k) S[k] j)), (4, vI k), (5, vI j)] [] []) (fun j => j <= S[k].length) (fun j => S[k].length - j) 0 (zah ?_) (Nat.zero_le _) ?_
   ·simp -implicitDefEqProofs only [go_sem]
    rfl
   ·intro j hj
    by_cases hjl : j < S[k].length
    ·have HA := zsd S[k][j] (by have := hsk _ (List.getElem_mem hjl); omega)
     have HM := zsv (zi7 (zf0 S k) S[k] j) (ab S[k][j])
     simp -implicitDefEqProofs only [go_sem, zaj, hlt, hjl]
     refine callF (HA) (by simp -implicitDefEqProofs only [go_sem]) ?_
     simp -implicitDefEqProofs only [go_sem]
     refine callF (HM) (by simp -implicitDefEqProofs only [go_sem]) ?_
     simp -implicitDefEqProofs only [go_sem]
     rw [za2 (by omega)]
     refine ⟨j + 1, hjl, by omega, zah ?_⟩
     simp -implicitDefEqProofs only [go_sem]
     rw [zgl _ _ hjl]
    ·have hjn : j = S[k].length := by omega
     have hjf : ((S[k].length : Int) < (S[k].length : Int)) = False := by simp
     subst hjn
     rw [<- hsu]
     simp -implicitDefEqProofs only [go_sem, zaj, hlt, hjf]
     rw [za2 (by omega)]
     exact ⟨k + 1, hlt, by omega, zah (by simp -implicitDefEqProofs only [go_sem])⟩
  ·simp -implicitDefEqProofs only [go_sem, hlt]
   unfold zf0
   rw [List.take_of_length_le (by omega)]
   rfl
end Go.Proofs.Yteeaofpphmhjdaa
namespace Go.Proofs.Yteeaofpphmhjdaa
set_option linter.unusedSimpArgs false
set_option linter.unusedVariables false
set_option linter.unusedSectionVars false
set_option maxRecDepth 4000
open Go.RowKit Go.Sort Go.Proofs
def zu2 (x : Int) : Int := max x (wrap64 (-x))
def cmp3 (a b : Int) : Int := if a < b then -1 else if b < a then 1 else 0
def cfV (x y : Int) : Int := cmp3 (zu2 x) (zu2 y)
theorem zoj {x : Int} (h : -1073741824 <= x /\ x <= 1073741824) : zu2 x = ab x := by
 have : wrap64 (-x) = -x := by unfold wrap64; omega
 unfold zu2 ab
 rw [this]
theorem zlu (x y : Int) : ltOf cfV x y = decide (zu2 x < zu2 y) := by
 unfold ltOf cfV cmp3
 split
 ·rename_i h; simp [h]
 ·rename_i h; split <;> simp [h]
theorem swoV : SWO (ltOf cfV) where
 irrefl x := by rw [zlu]; simp
 trans x y z h1 h2 := by rw [zlu] at *; simp at *; omega
 ntrans x y z h1 h2 := by rw [zlu] at *; simp at *; omega
theorem zky {a b : Int} (h : a = b) : Ending.returned (.int .i64 a) = .returned (.int .i64 b) := by rw [h]
set_option maxHeartbeats 400000 in
theorem zmn (x : Int) (w : World) :
  Calls Try.prog 96 #[.int .i64 x] w fun e w' => e = .returned (.int .i64 (zu2 x)) /\ w' = w := by
 go_enter Try.func96, Try.ntmps96
 go_wp2
 all_goals (go_ret; refine ⟨zky ?_, rfl⟩; unfold zu2; omega)
set_option maxHeartbeats 400000 in
theorem zq0 (x y : Int) (w : World) :
  Calls Try.prog 108 #[.int .i64 x, .int .i64 y] w fun e w' => e = .returned (.int .i64 (cmp3 x y)) /\ w' = w := by
 have hx : (x != x) = false := by simp
 have hy : (y != y) = false := by simp
 go_enter Try.func108, Try.ntmps108
 go_wp2
 all_goals (go_ret; refine ⟨zky ?_, rfl⟩; unfold cmp3; first | (rw [if_pos (by omega)]; done) | (rw [if_neg (by omega), if_pos (by omega)]; done) | (rw [if_neg (by omega), if_neg (by omega)]; done))
set_option maxHeartbeats 400000 in
theorem zh6 (x y : Int) (w : World) :
  Calls Try.prog 62 #[.int .i64 x, .int .i64 y] w fun e w' => e = .returned (.int .i64 (cfV x y)) /\ w' = w := by
 go_enter Try.func62, Try.ntmps62
 go_wp2_with (first | (go_at_call 96; refine (zmn _ _).mono ?_; rintro e w' ⟨rfl, hw⟩; rw [hw]; clear hw) | (go_at_call 108; refine (zq0 _ _ _).mono ?_; rintro e w' ⟨rfl, hw⟩; rw [hw]; clear hw))
 go_ret
 exact ⟨rfl, rfl⟩
theorem zlj {w : World} : ∀ {ss : List Int} {vs : List Value} {fps : List Nat}, zal w (ss.map (T.int .i64)) vs fps -> vs = ss.map (Value.int .i64) /\ fps = [] /\ ∀ s ∈ ss, IntKind.min .i64 <= s /\ s <= IntKind.max .i64
 | [], vs, fps, h => ⟨h.1, h.2, by simp⟩
 | s :: ss, vs, fps, h => by
  obtain ⟨v, vs', f1, f2, rfl, rfl, h1, h2⟩ := h
  unfold zaq at h1
  obtain ⟨rfl, k1, k1', rfl⟩ := h1
  obtain ⟨rfl, rfl, k2⟩ := zlj h2
  exact ⟨rfl, rfl, fun x hx => (List.mem_cons.1 hx).elim (fun e => e ▸ ⟨k1, k1'⟩) (k2 x)⟩
theorem zkm {w : World} : ∀ {ss : List Int}, (∀ s ∈ ss, IntKind.min .i64 <= s /\ s <= IntKind.max .i64) -> zal w (ss.map (T.int .i64)) (ss.map (Value.int .i64)) []
 | [], _ => ⟨rfl, rfl⟩
 | s :: ss, h => ⟨_, _, [], [], rfl, rfl, by unfold zaq; exact ⟨rfl, (h s (by simp)).1, (h s (by simp)).2, rfl⟩, zkm fun x hx => h x (by simp [hx])⟩
theorem zir (ss : List Int) : (ss.map fun s => [T.int .i64 s]).flatten = ss.map (T.int .i64) := by induction ss <;> simp_all
theorem zq2 (ss : List Int) : lens 1 (ss.map fun s => [T.int .i64 s]) := fun r hr => by obtain ⟨s, _, rfl⟩ := List.mem_map.1 hr; rfl
theorem zo3 {xs ys : List Int} {d' : Array Int} (hp : PermIn 0 xs.toArray.size xs.toArray d') (hs : SortedIn (ltOf cfV) 0 xs.toArray.size d') (hxy : xs.Perm ys) (hy : Ris ys) (hb : Sm ys) : d'.toList = ys := by
 obtain ⟨p1, _, p3⟩ := hp
 have hsz : d'.size = xs.length := by rw [p1]; simp
 have e1 : (d'.extract 0 xs.toArray.size).toList = d'.toList := by simp [<- p1]
 have e2 : (xs.toArray.extract 0 xs.toArray.size).toList = xs := by simp
 rw [e1, e2] at p3
 have hpy := p3.trans hxy
 refine zmu hpy hy (List.pairwise_iff_getElem.2 fun i j hi hj hij => ?_)
 have hj' : j < d'.size := by simpa using hj
 have hi' : i < d'.size := by simpa using hi
 have h := hs i j (Nat.zero_le _) hij (by rw [<- p1]; exact hj')
 rw [zlu, getElem!_pos d' j hj', getElem!_pos d' i hi', decide_eq_false_iff_not] at h
 have m1 : d'[i] ∈ ys := hpy.mem_iff.1 (by rw [<- Array.getElem_toList hi']; exact List.getElem_mem _)
 have m2 : d'[j] ∈ ys := hpy.mem_iff.1 (by rw [<- Array.getElem_toList hj']; exact List.getElem_mem _)
 rw [zoj (hb _ m1), zoj (hb _ m2)] at h
 rw [Array.getElem_toList, Array.getElem_toList]
 omega
set_option maxHeartbeats 1000000 in
theorem znk (p : Option Addr) (cap : Nat) (fv : Value) (w : World) :
  Calls Try.prog 119 #[.slice p 0 cap, .int .i64 0, .int .i64 0, fv] w fun e w' => e = .returned (.tuple #[]) /\ w' = w := by
 go_enter Try.func119, Try.ntmps119
 go_wp2
 refine wp_loop_rounds 1 ?_
 rw [rounds_succ]
 go_wp2
 go_end0
 exact ⟨rfl, rfl⟩
set_option maxHeartbeats 2000000 in
theorem zq6 (p : Option Addr) (cap : Nat) (lim : Int) (fv : Value) (w : World) :
  Calls Try.prog 106 #[.slice p 0 cap, .int .i64 0, .int .i64 0, .int .i64 lim, fv] w fun e w' => e = .returned (.tuple #[]) /\ w' = w := by
 go_enter Try.func106, Try.ntmps106
 go_wp2
 refine wp_loop_rounds 1 ?_
 rw [rounds_succ]
 go_wp2_with (go_at_call 119; refine (znk p cap fv _).mono ?_; rintro e w' ⟨rfl, rfl⟩)
 (try simp only [Exit.inBlock, Exit.then]); refine bodyPost_ret (results_none rfl _ _ _) rfl ?_
 exact ⟨rfl, rfl⟩
set_option maxHeartbeats 2000000 in
theorem zmc (p : Option Addr) (cap : Nat) (fv : Value) (w : World) :
  Calls Try.prog 61 #[.slice p 0 cap, fv] w fun e w' => e = .returned (.tuple #[]) /\ w' = w := by
 have hl : ∀ W, Calls Try.prog 107 #[.int .u64 0] W fun e w' => e = .returned (.int .i64 (Lib.bitLen 0 : Nat)) /\ w' = W := fun W =>
  Any.bits_Len (SlLaysF0.n15.bits (P := Try.prog) (ρ := Try.laysSF_ren) { Try.laysSF with }) 0 W (by omega) (by omega)
 go_enter Try.func61, Try.ntmps61
 go_wp2_with (first | (go_at_call 107; refine (hl _).mono ?_; rintro e w' ⟨rfl, rfl⟩) | (go_at_call 106; refine (zq6 p cap _ fv _).mono ?_; rintro e w' ⟨rfl, rfl⟩))
 go_end0
 exact ⟨rfl, rfl⟩
set_option maxHeartbeats 1000000 in
theorem zvu (xs ys : List Int) (hp : xs.Perm ys) (hr : Ris ys) (hb : Sm ys) (hl : xs.length < 4611686018427387904) : IC Try.prog 61 [] (.one (zaz xs)) [.one (.fn 62 [])] (.one (zaz ys)) [] := by
 refine ⟨Try.call61, fun w us1 v us2 fp tp h1 hg h2 hn => ?_⟩
 rw [show us1 = [] from h1]
 obtain ⟨u, us, e0, h2, h3⟩ := h2
 rw [show us = [] from h3] at e0
 subst e0
 have h2 : zag w _ (T.fn 62 []) u := h2
 unfold zag at h2
 obtain ⟨cs, rfl, h4⟩ := h2
 rw [show cs = [] by unfold zaa at h4; exact h4]
 have hlen : ys.length = xs.length := hp.length_eq.symm
 have eg : ∀ args w, (callFunc 62 args).run Try.prog w = .ok (.enter 62 args) w := enters_of Try.func62 (by kernel_rfl) rfl
 obtain ⟨hg, _⟩ := hg
 unfold zaq at hg
 obtain ⟨ao, cap, rfl, q1, q2, q3⟩ := hg
 rw [List.length_map] at q1 ⊢
 rcases q3 with ⟨rfl, rfl, q3, rfl⟩ | ⟨b, cells, ty, fps, rfl, rfl, q3, q4, q5⟩
 ·have hs : xs = [] := List.map_eq_nil_iff.1 q3
  subst hs
  have hy : ys = [] := List.length_eq_zero_iff.1 hlen
  subst hy
  refine (zmc none 0 _ w).mono ?_
  rintro e w' ⟨rfl, rfl⟩
  refine ⟨[], [], [], rfl, ⟨_, [], [], [], [], [], rfl, rfl, rfl, ⟨?_, rfl⟩, rfl, rfl, rfl⟩, List.nodup_nil, by simp, Bk.refl _ _⟩
  unfold zaq
  exact ⟨none, 0, by simp, by simp, by simp, Or.inl ⟨rfl, rfl, by simp, rfl⟩⟩
 ·obtain ⟨_, vs, k1, k2, k3⟩ := q5.vals
  rw [zir] at k3
  obtain ⟨rfl, rfl, k4⟩ := zlj k3
  have hsz : xs.length <= cells.size := by omega
  have ht : cells.toList.take xs.length = xs.map (Value.int .i64) := by
   apply List.ext_getElem?
   intro j
   by_cases hj : j < xs.length
   ·rw [List.getElem?_take_of_lt hj, Array.getElem?_toList]
    have := k2 j _ (List.getElem?_eq_getElem (by simpa using hj))
    rw [Nat.zero_add] at this
    rw [this, List.getElem?_eq_getElem (by simpa using hj)]
   ·rw [List.getElem?_take_eq_none (by omega), List.getElem?_eq_none (by simp; omega)]
  have hH := holds_of_blockI q3 ht
  have hcmp : CmpReads Try.prog 62 #[] (Value.int .i64) cfV b 0 xs.toArray.size w := fun m os dk _ x y => (zh6 x y _).mono fun e w' ⟨he, hw⟩ => ⟨he, 0, hw⟩
  have hC := Any.slices_SortFunc Try.laysSF (Value.int .i64) (fun _ => rfl) cfV swoV 62 #[] b 0 cap xs.toArray w eg hcmp.lays hH (Array.getElem?_eq_some_iff.1 q3).1 (by simpa using hl)
  refine Calls.mono (show Calls Try.prog 61 _ w _ from hC) ?_
  rintro e w' ⟨rfl, d', n, os, hp', hs', rfl⟩
  have hd : d'.toList = ys := zo3 hp' hs' hp hr hb
  have hd2 : d' = ys.toArray := by rw [<- hd]
  subst hd2
  have hgr := grownBy_sortedI (w := w) (g := b) (n := n) (os := os) ys.toArray
  have htk := take_putCellsI cells ys (by omega)
  refine ⟨[], [b], [b], rfl, ⟨_, [], [b], [], [b], [], rfl, rfl, rfl, ⟨?_, rfl⟩, rfl, rfl, rfl⟩, by simp, fun x hx => Or.inl hx, ⟨hgr.os, hgr.tape, hgr.output, hgr.size, fun k hk => hgr.block k hk.1 fun e => hk.2 (by cases e; simp)⟩⟩
  unfold zaq
  refine ⟨_, cap, by rw [List.length_map, hlen], by rw [List.length_map, hlen]; exact q1, q2, Or.inr ⟨b, _, ty, [], rfl, rfl, heap_sortedI _ q3, by simp [putCells, q4], ?_⟩⟩
  refine zad.of_vals (zq2 _) (by rw [zir]; exact zkm fun s hs => k4 s (hp.mem_iff.2 hs)) fun j u hu => ?_
  rw [<- htk, List.getElem?_take] at hu
  split at hu
  ·simpa using hu
  ·cases hu
end Go.Proofs.Yteeaofpphmhjdaa
namespace Go.Proofs.Yteeaofpphmhjdaa
set_option linter.unusedSimpArgs false
set_option linter.unusedVariables false
set_option linter.unusedSectionVars false
set_option maxRecDepth 4000
open Go.RowKit
abbrev bxO (out : List Int) : Bxs := [[(true, zaz out)]]
theorem zo6 {c : List Int} (h : pcl c = true) : ∀ l ∈ c, -9223372036854775807 <= l /\ l <= 9223372036854775807 := fun l hl => by have := zvl (zd2 h hl); omega
theorem zvg (c out : List Int) (hc : pcl c = true) : PC Try.prog 58 (bxO out) [.d false (.one (zaz c)), .p 0] (bxO out) [(true, bD (zic out c))] := by
 have H1 := zdu c out
 have H2 := zc9 c out (zo6 hc) (by have := zg8 hc; omega)
 unfold zic
 cases h1 : sat out c
 ·rw [h1] at H1
  rw [Bool.not_false, Bool.true_and]
  have e : decide ((opn out c).length <= 1) = decide (((opn out c).length : Int) <= 1) := by rw [decide_eq_decide]; omega
  rw [e]
  refine zcs Try.call58 Try.func58 rfl (by kernel_rfl) (by simp only [List.length_cons, List.length_nil, Try.ntmps58]; omega) (by simp only [Try.ntmps58]; omega) rfl rfl (by simp [zay, T.isPin, AF.ds, bxA]) (by simp [gFS, T.fs, T.flat, AF.ds, bxA]) rfl ?_
  simp -implicitDefEqProofs only [go_sem, Try.results58]
  refine callF (H1) (by simp -implicitDefEqProofs only [go_sem]) ?_
  simp -implicitDefEqProofs only [go_sem]
  refine callF (H2) (by simp -implicitDefEqProofs only [go_sem]) ?_
  simp -implicitDefEqProofs only [go_sem]
 ·rw [h1] at H1
  rw [Bool.not_true, Bool.false_and]
  refine zcs Try.call58 Try.func58 rfl (by kernel_rfl) (by simp only [List.length_cons, List.length_nil, Try.ntmps58]; omega) (by simp only [Try.ntmps58]; omega) rfl rfl (by simp [zay, T.isPin, AF.ds, bxA]) (by simp [gFS, T.fs, T.flat, AF.ds, bxA]) rfl ?_
  simp -implicitDefEqProofs only [go_sem, Try.results58]
  refine callF (H1) (by simp -implicitDefEqProofs only [go_sem]) ?_
  simp -implicitDefEqProofs only [go_sem]
theorem idxU_c (S : List (List Int)) (out : List Int) (hS : zey S = true) : PC Try.prog 57 (bxO out) [.d false (.one (za0 S)), .fn 58 [0]] (bxO out) [(true, iD (zjs S (zic out)))] := by
 have hl := zlh hS
 refine zcs Try.call57 Try.func57 rfl (by kernel_rfl) (by simp only [List.length_cons, List.length_nil, Try.ntmps57]; omega) (by simp only [Try.ntmps57]; omega) rfl rfl (by simp [zay, T.isPin, AF.ds, bxA]) (by simp [gFS, T.fs, T.flat, AF.ds, bxA]) rfl ?_
 simp -implicitDefEqProofs only [go_sem, Try.results57]
 refine zap (fun k : Nat => hd [(0, .one (.rn (za0 S))), (1, .one (.fn 58 [1000000])), (7, vI S.length), (8, vI k), (1000000, .one (.bx 1000000 0))] [(1000000, [.ow 32 0])] [(32, ⟨true, 1, out.map fun s => [.int .i64 s], 0, true⟩)]) (fun k => k <= S.length /\ ∀ x ∈ S.take k, zic out x = false) (fun k => S.length - k) 0 (zah ?_) ?_ ?_
 ·simp -implicitDefEqProofs only [go_sem]
 ·simp
 ·intro k ⟨hk, hr⟩
  by_cases hlt : k < S.length
  ·have HC := zvg S[k] out (zbe hS (List.getElem_mem hlt))
   simp -implicitDefEqProofs only [go_sem, zaj, hlt]
   refine zar [0, 1, 5, 7, 8, 11, 1000000] [15] [1000000] [] (HC) (by decide) rfl (by simp -implicitDefEqProofs only [go_sem]) (by simp -implicitDefEqProofs only [go_sem]) (by simp -implicitDefEqProofs only [go_sem]) (by simp -implicitDefEqProofs only [go_sem]) ?_
   simp -implicitDefEqProofs only [go_sem]
   refine ⟨fun h => Or.inl (by rw [zbu hlt hr h]), fun h => ⟨k + 1, ⟨hlt, zbt hlt hr h⟩, by omega, zk0 32 513 ?_⟩⟩
   simp -implicitDefEqProofs only [go_sem]
   rw [za2 (by omega)]
  ·simp -implicitDefEqProofs only [go_sem, hlt]
   rw [List.take_of_length_le (by omega)] at hr
   rw [zcb hr]
   exact Or.inl rfl
theorem zqv {α : Type} (xs : List α) (p : α -> Bool) : zjs xs p = match xs.findIdx? p with | some i => (i : Int) | none => -1 := by
 cases h : xs.findIdx? p with
 | none => exact zcb fun x hx => List.findIdx?_eq_none_iff.1 h x hx
 | some i =>
  obtain ⟨hi, h1, h2⟩ := List.findIdx?_eq_some_iff_getElem.1 h
  refine zbu hi (fun x hx => ?_) h1
  obtain ⟨j, hj, rfl⟩ := List.mem_take_iff_getElem.1 hx
  simpa using h2 j (by omega)
def puR (S : List (List Int)) (a : List Int) : (List Int × Int) × Bool := if (zey S && pcl a) = true then (zgw (13 - a.length) S a, true) else (([], 0), false)
set_option maxHeartbeats 2000000 in
theorem zcn (S : List (List Int)) (a : List Int) : FC Try.prog 16 [.one (za0 S), .one (zaz a)] [.one (zaz (puR S a).1.1), iD (puR S a).1.2, bD (puR S a).2] := by
 have H1 := zbr S
 have H2 := zda a
 unfold puR
 cases h1 : zey S
 ·rw [h1] at H1
  rw [Bool.false_and, if_neg (by simp)]
  refine zaw Try.call16 Try.func16 rfl (by kernel_rfl) (zbf (by kernel_rfl)) ?_
  simp -implicitDefEqProofs only [go_sem, Try.results16]
  refine callF (H1) (by simp -implicitDefEqProofs only [go_sem]) ?_
  simp -implicitDefEqProofs only [go_sem]
 ·rw [h1] at H1
  cases h2 : pcl a
  ·rw [h2] at H2
   rw [Bool.and_false, if_neg (by simp)]
   refine zaw Try.call16 Try.func16 rfl (by kernel_rfl) (zbf (by kernel_rfl)) ?_
   simp -implicitDefEqProofs only [go_sem, Try.results16]
   refine callF (H1) (by simp -implicitDefEqProofs only [go_sem]) ?_
   simp -implicitDefEqProofs only [go_sem]
   refine callF (H2) (by simp -implicitDefEqProofs only [go_sem]) ?_
   simp -implicitDefEqProofs only [go_sem]
  ·rw [h2] at H2
   rw [Bool.and_self, if_pos rfl]
   have hSl := zlh h1
   have hla := zg8 h2
   have HC := zlt a (by omega)
   obtain ⟨R, hR⟩ : ∃ R, zgw (13 - a.length) S a = R := ⟨_, rfl⟩
   rw [hR]
   refine zej Try.call16 Try.func16 rfl (by kernel_rfl) (zbf (by kernel_rfl)) ?_
   simp -implicitDefEqProofs only [go_sem, Try.results16]
   refine callF (H1) (by simp -implicitDefEqProofs only [go_sem]) ?_
   simp -implicitDefEqProofs only [go_sem]
   refine callF (H2) (by simp -implicitDefEqProofs only [go_sem]) ?_
   simp -implicitDefEqProofs only [go_sem]
   refine callF (HC) (by simp -implicitDefEqProofs only [go_sem]) ?_
   simp -implicitDefEqProofs only [go_sem]
   refine zap (fun x : Nat × List Int => hd [(0, .one (.rn (za0 S))), (7, .one (.bx 7 0))] [(7, [.ow 608 x.1])] [(608, ⟨true, 1, x.2.map fun s => [.int .i64 s], x.1, true⟩)]) (fun x => zgw (13 - x.2.length) S x.2 = R /\ pcl x.2 = true) (fun x => 13 - x.2.length) (0, a) (zah ?_) ⟨hR, h2⟩ ?_
   ·simp -implicitDefEqProofs only [go_sem]
   ·rintro ⟨gn, out⟩ ⟨hr, hpo⟩
    simp only at hr hpo
    have hlo := zg8 hpo
    have HI := idxU_c S out h1
    rw [zqv] at HI
    have hu : zfi S out = S.findIdx? (zic out) := rfl
    rw [<- hu] at HI
    obtain ⟨f, hf⟩ : ∃ f, 13 - out.length = f + 1 := ⟨12 - out.length, by omega⟩
    rw [hf, zgw] at hr
    cases hua : zfi S out with
    | none =>
     rw [hua] at hr HI
     have hr : (out, (-1 : Int)) = R := hr
     subst hr
     have HI : PC Try.prog 57 (bxO out) [.d false (.one (za0 S)), .fn 58 [0]] (bxO out) [(true, iD (-1))] := HI
     simp -implicitDefEqProofs only [go_sem]
     refine zar [0, 7] [20, 21] [7] [] (HI) (by decide) rfl (by simp -implicitDefEqProofs only [go_sem]) (by simp -implicitDefEqProofs only [go_sem]) (by simp -implicitDefEqProofs only [go_sem]) (by simp -implicitDefEqProofs only [go_sem]) ?_
     simp -implicitDefEqProofs only [go_sem]
    | some i =>
     rw [hua] at hr HI
     obtain ⟨hi, hns, hle⟩ := zje hua
     have hg : S.getD i [] = S[i] := by rw [List.getD_eq_getElem?_getD, List.getElem?_eq_getElem hi]; rfl
     have HI : PC Try.prog 57 (bxO out) [.d false (.one (za0 S)), .fn 58 [0]] (bxO out) [(true, iD i)] := HI
     have hr : (match opn out (S.getD i []) with | [] => (out, (i : Int)) | x :: _ => zgw f S (zjk out x)) = R := hr
     rw [hg] at hr
     have hpi := zbe h1 (List.getElem_mem hi)
     have HO := zc9 S[i] out (zo6 hpi) (by have := zg8 hpi; omega)
     have hneg : ((i : Int) < 0) = False := by simp
     cases ho : opn out S[i] with
     | nil =>
      rw [ho] at hr HO
      have hr : (out, (i : Int)) = R := hr
      subst hr
      simp -implicitDefEqProofs only [go_sem]
      refine zar [0, 7] [20, 21] [7] [] (HI) (by decide) rfl (by simp -implicitDefEqProofs only [go_sem, hneg]) (by simp -implicitDefEqProofs only [go_sem, hneg]) (by simp -implicitDefEqProofs only [go_sem, hneg]) (by simp -implicitDefEqProofs only [go_sem, hneg]) ?_
      simp -implicitDefEqProofs only [go_sem, hneg]
      refine drawn (by kernel_rfl) ?_
      simp -implicitDefEqProofs only [go_sem, hi, zaj]
      refine zel (HO) (by simp -implicitDefEqProofs only [go_sem]) ?_
      simp -implicitDefEqProofs only [go_sem]
      kernel_rfl
     | cons x xs =>
      rw [ho] at hr HO hle
      have hxs : xs = [] := by simpa using hle
      subst hxs
      have hr : zgw f S (zjk out x) = R := hr
      have hxo : x ∈ opn out S[i] := by rw [ho]; simp
      have hxc := zd2 hpi (zjm.1 hxo).1
      have hnew := zth hns hxo
      have hpp := zr9 hpo hxc hnew
      have HS := zvu (out ++ [x]) (zjk out x) (zl8 out x) ((ze7 _).1 hpp).2 (zi9 hpp) (by simp; omega)
      have hol : out.length <= 4294967295 := by omega
      simp -implicitDefEqProofs only [go_sem]
      refine zar [0, 7] [20, 21] [7] [] (HI) (by decide) rfl (by simp -implicitDefEqProofs only [go_sem, hneg]) (by simp -implicitDefEqProofs only [go_sem, hneg]) (by simp -implicitDefEqProofs only [go_sem, hneg]) (by simp -implicitDefEqProofs only [go_sem, hneg]) ?_
      simp -implicitDefEqProofs only [go_sem, hneg]
      refine drawn (by kernel_rfl) ?_
      simp -implicitDefEqProofs only [go_sem, hi, zaj]
      refine zel (HO) (by simp -implicitDefEqProofs only [go_sem]) ?_
      simp -implicitDefEqProofs only [go_sem]
      refine ⟨by kernel_rfl, ?_⟩
      refine drawn (by kernel_rfl) ?_
      simp -implicitDefEqProofs only [go_sem]
      refine zro (by simp -implicitDefEqProofs only [go_sem]) ?_
      simp -implicitDefEqProofs only [go_sem]
      refine dApD true (by simp -implicitDefEqProofs only [go_sem, ne_eq, List.length_map, hol]) ?_
      simp -implicitDefEqProofs only [go_sem, ne_eq, List.length_map, hol]
      refine ⟨by kernel_rfl, ?_⟩
      simp only [zaz, List.map_append, List.map_cons, List.map_nil] at HS
      have hfl : flR (List.map (fun s => [T.int .i64 s]) out ++ [[T.int .i64 x]]) = true := by
       have := zkb (out ++ [x])
       rwa [List.map_append] at this
      refine callIs (HS) (by simp -implicitDefEqProofs only [go_sem, hfl]) (by simp -implicitDefEqProofs only [go_sem, hfl]) rfl ?_
      simp -implicitDefEqProofs only [go_sem, hfl]
      refine ⟨(1, zjk out x), ⟨by rw [zfn, show 13 - (out.length + 1) = f by omega]; exact hr, hpp⟩, by simp only; rw [zfn]; omega, zk0 608 705 ?_⟩
      simp -implicitDefEqProofs only [go_sem]
end Go.Proofs.Yteeaofpphmhjdaa
namespace Go.Proofs.Yteeaofpphmhjdaa
set_option linter.unusedSimpArgs false
set_option linter.unusedVariables false
set_option linter.unusedSectionVars false
set_option maxRecDepth 4000
open Go.RowKit
theorem zr8 (c m : List Int) : FC Try.prog 109 [.one (zaz c), .one (.ptr [zaz m])] [bD (!sat m c)] := by
 have H := zdu c m
 refine zaw Try.call109 Try.func109 rfl (by kernel_rfl) (zbf (by kernel_rfl)) ?_
 simp -implicitDefEqProofs only [go_sem, Try.results109]
 refine callF (H) (by simp -implicitDefEqProofs only [go_sem]) ?_
 simp -implicitDefEqProofs only [go_sem]
theorem isM_eq (S : List (List Int)) (m : List Int) : isM S m = !(S.any fun c => !sat m c) := by
 unfold isM
 rw [List.not_any_eq_all_not]; simp
theorem zhv (S : List (List Int)) (m : List Int) : FC Try.prog 69 [.one (za0 S), .one (zaz m)] [bD (isM S m)] := by
 have H := zcm S (fun c => !sat m c) 109 [.ptr [zaz m]] fun c _ => zr8 c m
 rw [isM_eq]
 refine zaw Try.call69 Try.func69 rfl (by kernel_rfl) (zbf (by kernel_rfl)) ?_
 simp -implicitDefEqProofs only [go_sem, Try.results69]
 refine frzX 3 rfl rfl ?_
 simp -implicitDefEqProofs only [go_sem]
 refine callF (H) (by simp -implicitDefEqProofs only [go_sem]) ?_
 simp -implicitDefEqProofs only [go_sem]
def zmd (n k v : Nat) : List Int := List.replicate v 0 ++ asg ((v : Int) + 1) (n - v) k
theorem zsm (n k v : Nat) (h : v <= n) : (zmd n k v).length = n := by
 unfold zmd
 rw [List.length_append, List.length_replicate, (show (asg ((v : Int) + 1) (n - v) k).length = n - v from ?_)]
 ·omega
 ·generalize n - v = m
  generalize (v : Int) + 1 = u
  induction m generalizing u with
  | zero => rfl
  | succ m ih => unfold asg; rw [List.length_cons, ih]
theorem zrn {n k v : Nat} (h : v + 1 <= n) : (zmd n k (v + 1)).set v (if k / 2 ^ (n - (v + 1)) % 2 = 1 then -((v : Int) + 1) else (v : Int) + 1) = zmd n k v := by
 unfold zmd
 rw [List.set_append_left _ _ (by rw [List.length_replicate]; omega), List.replicate_succ', List.set_append_right _ _ (by rw [List.length_replicate]; omega), List.length_replicate, Nat.sub_self, List.set_cons_zero, List.append_assoc]
 congr 1
 rw [show n - v = (n - (v + 1)) + 1 by omega, asg, List.singleton_append]
 congr 1
theorem znq (n k : Nat) : zmd n k n = List.replicate n 0 := by unfold zmd; rw [Nat.sub_self, asg, List.append_nil]
theorem zn6 (n k : Nat) : zmd n k 0 = asg 1 n k := by unfold zmd; simp
theorem zwx {x : Nat} (h : x <= 1099511627776) : IntKind.i64.wrap (((BitVec.ofInt 64 (x : Int) &&& BitVec.ofInt 64 1).toNat : Nat) : Int) = ((x % 2 : Nat) : Int) := by
 have e1 : BitVec.ofInt 64 (x : Int) = BitVec.ofNat 64 x := by simp
 have e2 : BitVec.ofInt 64 1 = BitVec.ofNat 64 1 := by rfl
 rw [e1, e2, BitVec.toNat_and, BitVec.toNat_ofNat, BitVec.toNat_ofNat, Nat.mod_eq_of_lt (by omega), Nat.mod_eq_of_lt (a := 1) (by omega), Nat.and_one_is_mod]
 exact zak (by omega) (by omega)
theorem zs0 (x : Nat) : (x : Int).fdiv (2 ^ min 1 64) = ((x / 2 : Nat) : Int) := by
 rw [show ((2 : Int) ^ min 1 64) = ((2 : Nat) : Int) from rfl, Int.fdiv_eq_ediv_of_nonneg _ (by omega)]
 exact (Int.natCast_ediv _ _).symm
set_option maxHeartbeats 1000000 in
theorem zc8 (k n : Nat) (hn : n <= 12) (hk : k <= 1048576) : FC Try.prog 68 [iD k, iD n] [.one (zaz (asg 1 n k))] := by
 refine zaw Try.call68 Try.func68 rfl (by kernel_rfl) (zbf (by kernel_rfl)) ?_
 simp -implicitDefEqProofs only [go_sem, Try.results68]
 refine makeD (by simp -implicitDefEqProofs only [go_sem]; omega) ?_
 simp -implicitDefEqProofs only [go_sem]
 refine zap (fun v : Nat => hd [(0, vI (k / 2 ^ (n - v) : Nat)), (5, .one (.ow 256 0)), (6, vI v)] [] [(256, ⟨true, 1, (zmd n k v).map fun s => [.int .i64 s], 0, true⟩)]) (fun v => v <= n) (fun v => v) n (zah ?_) (Nat.le_refl _) ?_
 ·simp -implicitDefEqProofs only [go_sem]
  rw [znq, List.map_replicate, Nat.sub_self, Nat.pow_zero, Nat.div_one]
  exact ⟨rfl, rfl⟩
 ·intro v hv
  cases v with
  | zero =>
   simp -implicitDefEqProofs only [go_sem]
   rw [zn6]
  | succ v =>
   have hwv : IntKind.i64.wrap (((v + 1 : Nat) : Int) - 1) = (v : Int) := by rw [zak (by omega) (by omega)]; omega
   have hlen := zsm n k (v + 1) hv
   have hst := zrn (n := n) (k := k) (v := v) hv
   have h1v : (1 <= ((v + 1 : Nat) : Int)) = True := by simp; omega
   have hlv : v < (zmd n k (v + 1)).length := by omega
   have hst0 := zgx (zmd n k (v + 1)) v ((v : Int) + 1) hlv
   have hst1 := zgx ((zmd n k (v + 1)).set v ((v : Int) + 1)) v (-((v : Int) + 1)) (by rw [List.length_set]; exact hlv)
   rw [List.set_set] at hst1
   have hkv : k / 2 ^ (n - v) = k / 2 ^ (n - (v + 1)) / 2 := by rw [show n - v = (n - (v + 1)) + 1 by omega, Nat.pow_succ, Nat.div_div_eq_div_mul]
   have hXk : k / 2 ^ (n - (v + 1)) <= k := Nat.div_le_self _ _
   generalize k / 2 ^ (n - (v + 1)) = X at hst hkv hXk ⊢
   have hbx : -9223372036854775808 <= ((X / 2 : Nat) : Int) /\ ((X / 2 : Nat) : Int) <= 9223372036854775807 := by omega
   have hwv2 : IntKind.i64.wrap ((v : Int) + 1 - 1) = (v : Int) := by rw [zak (by omega) (by omega)]; omega
   have ha := zwx (x := X) (by omega)
   have hd2 := zs0 X
   have hvn : ((v + 1 : Nat) : Int) = (v : Int) + 1 := by omega
   have hneg : IntKind.i64.wrap (0 - ((v : Int) + 1)) = -((v : Int) + 1) := by rw [zak (by omega) (by omega)]; omega
   simp -implicitDefEqProofs only [go_sem, h1v]
   rw [hwv]
   simp -implicitDefEqProofs only [go_sem, hlv]
   refine zq9 (by simp -implicitDefEqProofs only [go_sem]; simp) ?_
   simp -implicitDefEqProofs only [go_sem]
   rw [hwv, hvn, hst0]
   refine ⟨fun h => ?_, fun h => ?_⟩
   ·have h' : (IntKind.i64.wrap (((BitVec.ofInt 64 (X : Int) &&& BitVec.ofInt 64 1).toNat : Nat) : Int) == 1) = true := h
    rw [ha] at h'
    have hx : X % 2 = 1 := by simp at h'; omega
    rw [if_pos hx] at hst
    rw [hneg]
    simp -implicitDefEqProofs only [go_sem, List.length_set, hlv]
    refine zq9 (by simp -implicitDefEqProofs only [go_sem]; simp) ?_
    simp -implicitDefEqProofs only [go_sem]
    rw [hst1, hst, hd2]
    refine ⟨hbx, v, Nat.le_of_succ_le hv, Nat.lt_succ_self v, zah ?_⟩
    simp -implicitDefEqProofs only [go_sem]
    rw [hkv, hwv2]
    exact ⟨rfl, rfl⟩
   ·have h' : (IntKind.i64.wrap (((BitVec.ofInt 64 (X : Int) &&& BitVec.ofInt 64 1).toNat : Nat) : Int) == 1) = false := h
    rw [ha] at h'
    have hx : ¬ X % 2 = 1 := by simp at h'; omega
    rw [if_neg hx] at hst
    rw [hd2]
    refine ⟨hbx, v, Nat.le_of_succ_le hv, Nat.lt_succ_self v, zah ?_⟩
    simp -implicitDefEqProofs only [go_sem]
    rw [hkv, hst]
    exact ⟨rfl, rfl⟩
end Go.Proofs.Yteeaofpphmhjdaa
namespace Go.Proofs.Yteeaofpphmhjdaa
set_option linter.unusedSimpArgs false
set_option linter.unusedVariables false
set_option linter.unusedSectionVars false
set_option maxRecDepth 4000
open Go.RowKit
variable {P : Program} {N : Nat}
theorem zb5.cond {c : Operand} {x y : Code} {σ : St} {Q : Exit -> St -> Prop} {b : Bool} (hv : σ.get P 0 c = .one (.t (.bool b))) (ht : b = true -> zb5 P N x σ Q) (hf : b = false -> zb5 P N y σ Q) : zb5 P N (.cond c x y) σ Q := fun n0 w0 A0 g a w h1 h2 h3 h4 => by
 have hs := h1.get P 0 c
 rw [hv] at hs
 simp only [VR, CR, zag] at hs
 exact wp_cond_split hs (fun e => ht e n0 w0 A0 g a w h1 h2 h3 h4) (fun e => hf e n0 w0 A0 g a w h1 h2 h3 h4)
theorem zb5.condT {c : Operand} {x y : Code} {σ : St} {Q : Exit -> St -> Prop} (hv : σ.get P 0 c = .one (.t (.bool true))) (ht : zb5 P N x σ Q) : zb5 P N (.cond c x y) σ Q := zb5.cond hv (fun _ => ht) (fun h => by cases h)
end Go.Proofs.Yteeaofpphmhjdaa
namespace Go.Proofs.Yteeaofpphmhjdaa
set_option linter.unusedSimpArgs false
set_option linter.unusedVariables false
set_option linter.unusedSectionVars false
set_option maxRecDepth 4000
open Go.RowKit
abbrev zlk (q : Cu) : Bxs := [[(false, zmj q.code), (false, .int .i64 q.pos), (false, .int .u64 q.seed)]]
theorem zvx (b : UInt8) : IntKind.i64.wrap (b.toNat : Int) = b.toNat := by
 have := b.toNat_lt
 exact zak (by omega) (by omega)
theorem ztq (x : Int) : 0 <= (IntKind.u64.wrap x).fdiv (2 ^ 40) /\ (IntKind.u64.wrap x).fdiv (2 ^ 40) <= 18446744073709551615 := by
 have h : 0 <= IntKind.u64.wrap x /\ IntKind.u64.wrap x <= 18446744073709551615 := by
  have := I64.wrap .u64 x
  have m1 : IntKind.min .u64 = 0 := by decide
  have m2 : IntKind.max .u64 = 18446744073709551615 := by decide
  rw [m1, m2] at this; exact this
 generalize IntKind.u64.wrap x = y at h
 rw [Int.fdiv_eq_ediv_of_nonneg _ (by decide)]
 omega
theorem next_c (q : Cu) (hp : q.pos <= 1099511627776) : PC Try.prog 95 (zlk q) [.p 0] (zlk q.nx) [(true, iD q.v)] := by
 obtain ⟨code, pos, seed⟩ := q
 have hpw : IntKind.i64.wrap ((pos : Int) + 1) = ((pos + 1 : Nat) : Int) := za2 (by dsimp only at hp; omega)
 unfold Cu.v Cu.nx Cu.sd Cu.b
 dsimp only at hp ⊢
 by_cases hlt : pos < code.length
 ·have hli : ((pos : Int) < code.length) = True := by simp; omega
  have hle : (((pos + 1 : Nat) : Int) <= code.length) = True := by simp; omega
  have hg : code.getD pos 0 = code[pos] := by rw [List.getD_eq_getElem?_getD, List.getElem?_eq_getElem hlt]; rfl
  rw [if_pos hlt, if_pos (by omega), hg]
  refine zcs Try.call95 Try.func95 rfl (by kernel_rfl) (by simp only [List.length_cons, List.length_nil, Try.ntmps95]; omega) (by simp only [Try.ntmps95]; omega) rfl rfl (by simp [zay, T.isPin, AF.ds, bxA]) (by simp [gFS, T.fs, T.flat, AF.ds, bxA]) rfl ?_
  simp -implicitDefEqProofs only [go_sem, Try.results95]
  refine drawn (by kernel_rfl) ?_
  simp -implicitDefEqProofs only [go_sem, hli]
  refine ⟨by kernel_rfl, ?_⟩
  refine drawn (by kernel_rfl) ?_
  simp -implicitDefEqProofs only [go_sem, hlt, zaj, zvx]
  refine ⟨by kernel_rfl, ?_⟩
  rw [hpw]
  refine drawn (by kernel_rfl) ?_
  simp -implicitDefEqProofs only [go_sem, hle]
  kernel_rfl
 ·have hli : ((pos : Int) < code.length) = False := by simp; omega
  have hle : (((pos + 1 : Nat) : Int) <= code.length) = False := by simp; omega
  rw [if_neg hlt, if_neg (by omega)]
  refine zcs Try.call95 Try.func95 rfl (by kernel_rfl) (by simp only [List.length_cons, List.length_nil, Try.ntmps95]; omega) (by simp only [Try.ntmps95]; omega) rfl rfl (by simp [zay, T.isPin, AF.ds, bxA]) (by simp [gFS, T.fs, T.flat, AF.ds, bxA]) rfl ?_
  simp -implicitDefEqProofs only [go_sem, Try.results95]
  refine drawn (by kernel_rfl) ?_
  simp -implicitDefEqProofs only [go_sem, hli]
  refine ⟨by kernel_rfl, ?_⟩
  rw [hpw]
  refine drawn (by kernel_rfl) ?_
  simp -implicitDefEqProofs only [go_sem, hle]
  refine ⟨by kernel_rfl, ?_⟩
  rw [show min 40 64 = 40 from rfl]
  exact ⟨ztq _, Or.inl rfl⟩
theorem zpc (q : Cu) (hp : q.pos <= 1099511627776) (n : Int) (hn : n <= 200) : PC Try.prog 45 (zlk q) [.p 0, .d false (iD n)] (zlk (q.pick n).1) [(true, iD (q.pick n).2)] := by
 have HN := next_c q hp
 have hv := q.v_bd
 unfold Cu.pick
 by_cases h1 : n <= 1
 ·rw [if_pos h1]
  refine zcs Try.call45 Try.func45 rfl (by kernel_rfl) (by simp only [List.length_cons, List.length_nil, Try.ntmps45]; omega) (by simp only [Try.ntmps45]; omega) rfl rfl (by simp [zay, T.isPin, AF.ds, bxA]) (by simp [gFS, T.fs, T.flat, AF.ds, bxA]) rfl ?_
  simp -implicitDefEqProofs only [go_sem, Try.results45, h1]
 ·have h2 : (200 < n) = False := by simp; omega
  rw [if_neg h1]
  refine zcs Try.call45 Try.func45 rfl (by kernel_rfl) (by simp only [List.length_cons, List.length_nil, Try.ntmps45]; omega) (by simp only [Try.ntmps45]; omega) rfl rfl (by simp [zay, T.isPin, AF.ds, bxA]) (by simp [gFS, T.fs, T.flat, AF.ds, bxA]) rfl ?_
  simp -implicitDefEqProofs only [go_sem, Try.results45, h1]
  refine zar [1, 1000000] [8] [1000000] [] (HN) (by decide) rfl (by simp -implicitDefEqProofs only [go_sem, h2]) (by simp -implicitDefEqProofs only [go_sem, h2]) (by simp -implicitDefEqProofs only [go_sem, h2]) (by simp -implicitDefEqProofs only [go_sem, h2]) ?_
  simp -implicitDefEqProofs only [go_sem, h2]
  have ht : 0 <= q.v.tmod n /\ q.v.tmod n < n := by
   rw [Int.tmod_eq_emod_of_nonneg hv.1]
   exact ⟨Int.emod_nonneg _ (by omega), Int.emod_lt_of_pos _ (by omega)⟩
  exact ⟨by omega, by omega, by omega⟩
theorem one_c (q : Cu) (hp : q.pos <= 1099511627776) (n : Int) (hn : n <= 200) : PC Try.prog 52 (zlk q) [.p 0, .d false (iD n)] (zlk (q.pick n).1) [(true, bD ((q.pick n).2 == 0))] := by
 have HN := zpc q hp n hn
 refine zcs Try.call52 Try.func52 rfl (by kernel_rfl) (by simp only [List.length_cons, List.length_nil, Try.ntmps52]; omega) (by simp only [Try.ntmps52]; omega) rfl rfl (by simp [zay, T.isPin, AF.ds, bxA]) (by simp [gFS, T.fs, T.flat, AF.ds, bxA]) rfl ?_
 simp -implicitDefEqProofs only [go_sem, Try.results52]
 refine zar [1000000] [5, 6] [1000000] [] (HN) (by decide) rfl (by simp -implicitDefEqProofs only [go_sem]) (by simp -implicitDefEqProofs only [go_sem]) (by simp -implicitDefEqProofs only [go_sem]) (by simp -implicitDefEqProofs only [go_sem]) ?_
 simp -implicitDefEqProofs only [go_sem]
theorem zve (q : Cu) (hp : q.pos <= 1099511627776) (l : List Int) (hl : 1 <= l.length) (hn : l.length <= 200) : PC Try.prog 70 (zlk q) [.p 0, .d false (.one (zaz l))] (zlk (zfv q l).1) [(true, iD (zfv q l).2)] := by
 have HN := zpc q hp l.length (by omega)
 have hb := q.pick_bd (n := l.length) (by omega)
 unfold zfv
 obtain ⟨j, hj⟩ : ∃ j : Nat, (q.pick l.length).2 = j := ⟨(q.pick l.length).2.toNat, by omega⟩
 have hjl : j < l.length := by omega
 rw [hj] at HN ⊢
 refine zcs Try.call70 Try.func70 rfl (by kernel_rfl) (by simp only [List.length_cons, List.length_nil, Try.ntmps70]; omega) (by simp only [Try.ntmps70]; omega) rfl rfl (by simp [zay, T.isPin, AF.ds, bxA]) (by simp [gFS, T.fs, T.flat, AF.ds, bxA]) rfl ?_
 simp -implicitDefEqProofs only [go_sem, Try.results70]
 refine zar [5, 1000000] [6, 8] [1000000] [] (HN) (by decide) rfl (by simp -implicitDefEqProofs only [go_sem, hjl, zaj]) (by simp -implicitDefEqProofs only [go_sem, hjl, zaj]) (by simp -implicitDefEqProofs only [go_sem, hjl, zaj]) (by simp -implicitDefEqProofs only [go_sem, hjl, zaj]) ?_
 simp -implicitDefEqProofs only [go_sem, hjl, zaj]
 exact Or.inl (by rw [List.getD_eq_getElem?_getD, List.getElem?_eq_getElem hjl]; rfl)
abbrev zew (code : List UInt8) (q : Cu) : Bxs := [[(false, zmj code), (false, .int .i64 q.pos), (false, .int .u64 q.seed)]]
theorem zcw {code : List UInt8} {q : Cu} (hc : q.code = code) (hp : q.pos <= 1099511627776) (n : Int) (hn : n <= 200) : PC Try.prog 45 (zew code q) [.p 0, .d false (iD n)] (zew code (q.pick n).1) [(true, iD (q.pick n).2)] := by
 subst hc
 have h := zpc q hp n hn
 rw [show zlk (q.pick n).1 = zew q.code (q.pick n).1 by unfold zlk; rw [q.pick_code]] at h
 exact h
theorem zsg {code : List UInt8} {q : Cu} (hc : q.code = code) (hp : q.pos <= 1099511627776) (n : Int) (hn : n <= 200) : PC Try.prog 52 (zew code q) [.p 0, .d false (iD n)] (zew code (q.pick n).1) [(true, bD ((q.pick n).2 == 0))] := by
 subst hc
 have h := one_c q hp n hn
 rw [show zlk (q.pick n).1 = zew q.code (q.pick n).1 by unfold zlk; rw [q.pick_code]] at h
 exact h
theorem zwl {code : List UInt8} {q : Cu} (hc : q.code = code) (hp : q.pos <= 1099511627776) (l : List Int) (hl : 1 <= l.length) (hn : l.length <= 200) : PC Try.prog 70 (zew code q) [.p 0, .d false (.one (zaz l))] (zew code (zfv q l).1) [(true, iD (zfv q l).2)] := by
 subst hc
 have h := zve q hp l hl hn
 rw [show zlk (zfv q l).1 = zew q.code (zfv q l).1 by unfold zlk zfv; rw [q.pick_code]] at h
 exact h
theorem zlr (q : Cu) (k : Nat) : clR q (k + 1) = if ((clR q k).1.pick 3).2 = 0 then ((((clR q k).1.pick 3).1.pick 2).1, (clR q k).2 ++ [ztk ((k : Int) + 1) ((((clR q k).1.pick 3).1.pick 2).2)]) else (((clR q k).1.pick 3).1, (clR q k).2) := rfl
theorem zhn {v x : Int} (hv : 0 <= v /\ v <= 1000) (hx : 0 <= x /\ x < 2) : IntKind.i64.wrap (v - IntKind.i64.wrap (IntKind.i64.wrap (2 * v) * x)) = ztk v x := by
 unfold ztk
 have : x = 0 \/ x = 1 := by omega
 rcases this with rfl | rfl
 ·rw [zak (n := 2 * v) (by omega) (by omega), Int.mul_zero, zak (n := 0) (by omega) (by omega), zak (by omega) (by omega)]
 ·rw [zak (n := 2 * v) (by omega) (by omega), Int.mul_one, zak (n := 2 * v) (by omega) (by omega), zak (by omega) (by omega)]
def clE (x : Cu × List Int) (n : Nat) : Cu × List Int := if x.2.take 3 = [] then
  if (x.1.pick 20).2 = 0 then ((x.1.pick 20).1, [])
  else (((((x.1.pick 20).1.pick n).1.pick 2).1), [ztk (1 + ((x.1.pick 20).1.pick n).2) (((x.1.pick 20).1.pick n).1.pick 2).2])
 else (x.1, x.2.take 3)
set_option maxHeartbeats 1000000 in
theorem zh0 (code : List UInt8) (q : Cu) (hcd : q.code = code) (n : Nat) (hp : q.pos <= 549755813888) (h1 : 1 <= n) (hn : n <= 100) (h3 : (clR q n).2.length <= 3) : PC Try.prog 53 (zew code q) [.p 0, .d false (iD n)] (zew code (clD q n).1) [(true, .one (zaz (clD q n).2))] := by
 obtain ⟨R, hR⟩ : ∃ R, clD q n = R := ⟨_, rfl⟩
 have hE : clE (clR q n) n = R := hR
 rw [hR]
 refine zcs Try.call53 Try.func53 rfl (by kernel_rfl) (by simp only [List.length_cons, List.length_nil, Try.ntmps53]; omega) (by simp only [Try.ntmps53]; omega) rfl rfl (by simp [zay, T.isPin, AF.ds, bxA]) (by simp [gFS, T.fs, T.flat, AF.ds, bxA]) rfl ?_
 simp -implicitDefEqProofs only [go_sem, Try.results53]
 refine zas (by simp -implicitDefEqProofs only [go_sem]) ?_
 simp -implicitDefEqProofs only [go_sem]
 refine zap (fun k : Nat => hd [(0, .one (.bx 1000000 0)), (1, vI n), (5, .one (.ow 256 (clR q k).2.length)), (6, vI ((k : Int) + 1)), (1000000, .one (.bx 1000000 0))] [(1000000, [.rn (zmj code), .t (.int .i64 (clR q k).1.pos), .t (.int .u64 (clR q k).1.seed)])] [(256, ⟨true, 1, (clR q k).2.map fun s => [.int .i64 s], (clR q k).2.length, true⟩)]) (fun k => k <= n) (fun k => n - k) 0 (zah ?_) (Nat.zero_le _) ?_
 ·simp -implicitDefEqProofs only [go_sem]
  exact ⟨⟨rfl, rfl⟩, rfl⟩
 ·intro k hk
  obtain ⟨g1, g2, g3, g4⟩ := zhh q k
  rw [hcd] at g3
  have hs := zlr q k
  by_cases hlt : k < n
  ·have hle : ((k : Int) + 1 <= n) = True := by simp; omega
   generalize clR q k = x at g1 g2 g3 g4 hs
   obtain ⟨Q, o⟩ := x
   simp only at g1 g2 g3 g4 hs
   have H1 := zsg g3 (by omega) 3 (by omega)
   have hpk := Q.pick_pos 3
   have hck := (Q.pick_code 3).trans g3
   have hwk : IntKind.i64.wrap ((k : Int) + 1 + 1) = ((k + 1 : Nat) : Int) + 1 := by rw [zak (by omega) (by omega)]; omega
   by_cases h0 : (Q.pick 3).2 = 0
   ·rw [if_pos h0] at hs
    rw [show ((Q.pick 3).2 == 0) = true by simpa using h0] at H1
    have H2 := zcw hck (by omega) 2 (by omega)
    have hb2 := (Q.pick 3).1.pick_bd (n := 2) (by omega)
    have hlw := zhn (v := (k : Int) + 1) (by omega) hb2
    have hol : o.length <= 4294967295 := by omega
    simp -implicitDefEqProofs only [go_sem, hle]
    refine zar [0, 1, 5, 6, 1000000] [14] [1000000] [] (H1) (by decide) rfl (by simp -implicitDefEqProofs only [go_sem]) (by simp -implicitDefEqProofs only [go_sem]) (by simp -implicitDefEqProofs only [go_sem]) (by simp -implicitDefEqProofs only [go_sem]) ?_
    simp -implicitDefEqProofs only [go_sem]
    refine zar [0, 1, 5, 6, 16, 17, 19, 1000000] [20] [1000000] [] (H2) (by decide) rfl (by simp -implicitDefEqProofs only [go_sem]) (by simp -implicitDefEqProofs only [go_sem]) (by simp -implicitDefEqProofs only [go_sem]) (by simp -implicitDefEqProofs only [go_sem]) ?_
    simp -implicitDefEqProofs only [go_sem]
    rw [hlw]
    refine zas (by simp -implicitDefEqProofs only [go_sem]) ?_
    simp -implicitDefEqProofs only [go_sem]
    refine apD true (by simp -implicitDefEqProofs only [go_sem, ne_eq, List.length_map, hol]) ?_
    simp -implicitDefEqProofs only [go_sem, ne_eq, List.length_map, hol]
    refine ⟨k + 1, hlt, by omega, zah ?_⟩
    simp -implicitDefEqProofs only [go_sem]
    rw [hwk, hs]
    exact ⟨rfl, ⟨rfl, rfl⟩, by rw [List.map_append]; rfl⟩
   ·rw [if_neg h0] at hs
    rw [show ((Q.pick 3).2 == 0) = false by simpa using h0] at H1
    simp -implicitDefEqProofs only [go_sem, hle]
    refine zar [0, 1, 5, 6, 1000000] [14] [1000000] [] (H1) (by decide) rfl (by simp -implicitDefEqProofs only [go_sem]) (by simp -implicitDefEqProofs only [go_sem]) (by simp -implicitDefEqProofs only [go_sem]) (by simp -implicitDefEqProofs only [go_sem]) ?_
    simp -implicitDefEqProofs only [go_sem]
    refine ⟨k + 1, hlt, by omega, zah ?_⟩
    simp -implicitDefEqProofs only [go_sem]
    rw [hwk, hs]
    exact ⟨rfl, ⟨rfl, rfl⟩, rfl⟩
  ·have hle : ((k : Int) + 1 <= n) = False := by simp; omega
   have hkn : k = n := by omega
   subst hkn
   generalize clR q k = x at g1 g2 g3 g4 h3 hE
   obtain ⟨Q, o⟩ := x
   simp only at g1 g2 g3 g4 h3 hE
   have ht3 : o.take 3 = o := List.take_of_length_le h3
   unfold clE at hE
   simp only [ht3] at hE
   have hl3 : ((3 : Int) < o.length) = False := by simp; omega
   by_cases hnil : o = []
   ·subst hnil
    rw [if_pos rfl] at hE
    have H1 := zsg g3 (by omega) 20 (by omega)
    have hpk := Q.pick_pos 20
    have hck := (Q.pick_code 20).trans g3
    by_cases h0 : (Q.pick 20).2 = 0
    ·rw [if_pos h0] at hE
     subst hE
     rw [show ((Q.pick 20).2 == 0) = true by simpa using h0] at H1
     simp -implicitDefEqProofs only [go_sem, hle, hl3]
     refine zar [0, 1, 5, 34, 1000000] [35] [1000000] [] (H1) (by decide) rfl (by simp -implicitDefEqProofs only [go_sem]) (by simp -implicitDefEqProofs only [go_sem]) (by simp -implicitDefEqProofs only [go_sem]) (by simp -implicitDefEqProofs only [go_sem]) ?_
     simp -implicitDefEqProofs only [go_sem]
    ·rw [if_neg h0] at hE
     subst hE
     rw [show ((Q.pick 20).2 == 0) = false by simpa using h0] at H1
     have H2 := zcw hck (by omega) k (by omega)
     have hb2 := (Q.pick 20).1.pick_bd (n := k) (by omega)
     have hpk2 := (Q.pick 20).1.pick_pos k
     have hck2 := ((Q.pick 20).1.pick_code k).trans hck
     have H3 := zcw hck2 (by omega) 2 (by omega)
     have hb3 := ((Q.pick 20).1.pick k).1.pick_bd (n := 2) (by omega)
     have hlw := zhn (v := 1 + ((Q.pick 20).1.pick k).2) (by omega) hb3
     have hw1 : IntKind.i64.wrap (1 + ((Q.pick 20).1.pick k).2) = 1 + ((Q.pick 20).1.pick k).2 := zak (by omega) (by omega)
     simp -implicitDefEqProofs only [go_sem, hle, hl3]
     refine zar [0, 1, 5, 34, 1000000] [35] [1000000] [] (H1) (by decide) rfl (by simp -implicitDefEqProofs only [go_sem]) (by simp -implicitDefEqProofs only [go_sem]) (by simp -implicitDefEqProofs only [go_sem]) (by simp -implicitDefEqProofs only [go_sem]) ?_
     simp -implicitDefEqProofs only [go_sem]
     refine zar [0, 1, 5, 1000000] [39, 40] [1000000] [] (H2) (by decide) rfl (by simp -implicitDefEqProofs only [go_sem]) (by simp -implicitDefEqProofs only [go_sem]) (by simp -implicitDefEqProofs only [go_sem]) (by simp -implicitDefEqProofs only [go_sem]) ?_
     simp -implicitDefEqProofs only [go_sem]
     rw [hw1]
     refine zar [0, 1, 5, 43, 44, 46, 1000000] [47] [1000000] [] (H3) (by decide) rfl (by simp -implicitDefEqProofs only [go_sem]) (by simp -implicitDefEqProofs only [go_sem]) (by simp -implicitDefEqProofs only [go_sem]) (by simp -implicitDefEqProofs only [go_sem]) ?_
     simp -implicitDefEqProofs only [go_sem]
     rw [hlw]
     refine zas (by simp -implicitDefEqProofs only [go_sem]) ?_
     simp -implicitDefEqProofs only [go_sem]
     refine apD true (by simp -implicitDefEqProofs only [go_sem, ne_eq]) ?_
     simp -implicitDefEqProofs only [go_sem, ne_eq]
   ·rw [if_neg hnil] at hE
    subst hE
    have hl0 : ((o.length : Int) == 0) = false := by
     rw [beq_eq_false_iff_ne]
     have : o.length ≠ 0 := fun e => hnil (List.length_eq_zero_iff.1 e)
     omega
    simp -implicitDefEqProofs only [go_sem, hle, hl3, hl0]
set_option maxHeartbeats 1000000 in
theorem zin (code : List UInt8) (q : Cu) (hcd : q.code = code) (n : Nat) (hp : q.pos <= 549755813888) (h1 : 1 <= n) (hn : n <= 100) (h3 : 3 < (clR q n).2.length) : PC Try.prog 53 (zew code q) [.p 0, .d false (iD n)] (zew code (clD q n).1) [(true, .one (zaz (clD q n).2))] := by
 obtain ⟨R, hR⟩ : ∃ R, clD q n = R := ⟨_, rfl⟩
 have hE : clE (clR q n) n = R := hR
 rw [hR]
 refine zui Try.call53 Try.func53 rfl (by simp only [List.length_cons, List.length_nil, Try.ntmps53]; omega) (by simp only [Try.ntmps53]; omega) rfl rfl (by simp [zay, T.isPin, AF.ds, bxA]) (by simp [gFS, T.fs, T.flat, AF.ds, bxA]) rfl ?_
 refine zb5.cut 2 rfl (by kernel_rfl) ?_
 simp -implicitDefEqProofs only [go_sem, Try.results53]
 refine zas (by simp -implicitDefEqProofs only [go_sem]) ?_
 simp -implicitDefEqProofs only [go_sem]
 refine zap (fun k : Nat => hd [(0, .one (.bx 1000000 0)), (1, vI n), (5, .one (.ow 256 (clR q k).2.length)), (6, vI ((k : Int) + 1)), (1000000, .one (.bx 1000000 0))] [(1000000, [.rn (zmj code), .t (.int .i64 (clR q k).1.pos), .t (.int .u64 (clR q k).1.seed)])] [(256, ⟨true, 1, (clR q k).2.map fun s => [.int .i64 s], (clR q k).2.length, true⟩)]) (fun k => k <= n) (fun k => n - k) 0 (zah ?_) (Nat.zero_le _) ?_
 ·simp -implicitDefEqProofs only [go_sem]
  exact ⟨⟨rfl, rfl⟩, rfl⟩
 ·intro k hk
  obtain ⟨g1, g2, g3, g4⟩ := zhh q k
  rw [hcd] at g3
  have hs := zlr q k
  by_cases hlt : k < n
  ·have hle : ((k : Int) + 1 <= n) = True := by simp; omega
   generalize clR q k = x at g1 g2 g3 g4 hs
   obtain ⟨Q, o⟩ := x
   simp only at g1 g2 g3 g4 hs
   have H1 := zsg g3 (by omega) 3 (by omega)
   have hpk := Q.pick_pos 3
   have hck := (Q.pick_code 3).trans g3
   have hwk : IntKind.i64.wrap ((k : Int) + 1 + 1) = ((k + 1 : Nat) : Int) + 1 := by rw [zak (by omega) (by omega)]; omega
   by_cases h0 : (Q.pick 3).2 = 0
   ·rw [if_pos h0] at hs
    rw [show ((Q.pick 3).2 == 0) = true by simpa using h0] at H1
    have H2 := zcw hck (by omega) 2 (by omega)
    have hb2 := (Q.pick 3).1.pick_bd (n := 2) (by omega)
    have hlw := zhn (v := (k : Int) + 1) (by omega) hb2
    have hol : o.length <= 4294967295 := by omega
    simp -implicitDefEqProofs only [go_sem, hle]
    refine zar [0, 1, 5, 6, 1000000] [14] [1000000] [] (H1) (by decide) rfl (by simp -implicitDefEqProofs only [go_sem]) (by simp -implicitDefEqProofs only [go_sem]) (by simp -implicitDefEqProofs only [go_sem]) (by simp -implicitDefEqProofs only [go_sem]) ?_
    simp -implicitDefEqProofs only [go_sem]
    refine zar [0, 1, 5, 6, 16, 17, 19, 1000000] [20] [1000000] [] (H2) (by decide) rfl (by simp -implicitDefEqProofs only [go_sem]) (by simp -implicitDefEqProofs only [go_sem]) (by simp -implicitDefEqProofs only [go_sem]) (by simp -implicitDefEqProofs only [go_sem]) ?_
    simp -implicitDefEqProofs only [go_sem]
    rw [hlw]
    refine zas (by simp -implicitDefEqProofs only [go_sem]) ?_
    simp -implicitDefEqProofs only [go_sem]
    refine apD true (by simp -implicitDefEqProofs only [go_sem, ne_eq, List.length_map, hol]) ?_
    simp -implicitDefEqProofs only [go_sem, ne_eq, List.length_map, hol]
    refine ⟨k + 1, hlt, by omega, zah ?_⟩
    simp -implicitDefEqProofs only [go_sem]
    rw [hwk, hs]
    exact ⟨rfl, ⟨rfl, rfl⟩, by rw [List.map_append]; rfl⟩
   ·rw [if_neg h0] at hs
    rw [show ((Q.pick 3).2 == 0) = false by simpa using h0] at H1
    simp -implicitDefEqProofs only [go_sem, hle]
    refine zar [0, 1, 5, 6, 1000000] [14] [1000000] [] (H1) (by decide) rfl (by simp -implicitDefEqProofs only [go_sem]) (by simp -implicitDefEqProofs only [go_sem]) (by simp -implicitDefEqProofs only [go_sem]) (by simp -implicitDefEqProofs only [go_sem]) ?_
    simp -implicitDefEqProofs only [go_sem]
    refine ⟨k + 1, hlt, by omega, zah ?_⟩
    simp -implicitDefEqProofs only [go_sem]
    rw [hwk, hs]
    exact ⟨rfl, ⟨rfl, rfl⟩, rfl⟩
  ·have hle : ((k : Int) + 1 <= n) = False := by simp; omega
   have hkn : k = n := by omega
   subst hkn
   generalize clR q k = x at g1 g2 g3 g4 h3 hE
   obtain ⟨Q, o⟩ := x
   simp only at g1 g2 g3 g4 h3 hE
   unfold clE at hE
   have hl3 : ((3 : Int) < o.length) = True := by simp; omega
   have hne : (o.take 3).length = 3 := by rw [List.length_take]; omega
   rw [if_neg (fun e => by simp only at e; rw [e] at hne; cases hne)] at hE
   subst hE
   have hdt : decide ((3 : Int) < (o.length : Int)) = true := by rw [decide_eq_true_eq]; omega
   simp -implicitDefEqProofs only [go_sem, hle]
   refine zb5.seq ?_
   refine zb5.cut 0 rfl (by kernel_rfl) ?_
   simp -implicitDefEqProofs only [go_sem, hl3]
   refine zb5.condT (by simp -implicitDefEqProofs only [go_sem, hdt]) ?_
   refine zb5.cutO 1 rfl rfl rfl rfl (by kernel_rfl) (by simp only [Try.ntmps53]; omega) (el := 3) (by kernel_rfl) (by kernel_rfl) ?_
   simp -implicitDefEqProofs only [go_sem, List.take_succ_cons, List.take_zero]
   refine ⟨by omega, ?_⟩
   have hl0 : ((List.length (List.take 3 o) : Int) == 0) = false := by rw [hne]; rfl
   rw [<- List.map_take]
   refine zb5.ofEx (by kernel_rfl) ?_
   simp -implicitDefEqProofs only [go_sem, List.length_map, hl0]
   skip
end Go.Proofs.Yteeaofpphmhjdaa
namespace Go.Proofs.Yteeaofpphmhjdaa
set_option linter.unusedSimpArgs false
set_option linter.unusedVariables false
set_option linter.unusedSectionVars false
set_option maxRecDepth 4000
open Go.RowKit
theorem zb6 {code : List UInt8} {q : Cu} (hc : q.code = code) (n : Nat) (hp : q.pos <= 549755813888) (h1 : 1 <= n) (hn : n <= 100) : PC Try.prog 53 (zew code q) [.p 0, .d false (iD n)] (zew code (clD q n).1) [(true, .one (zaz (clD q n).2))] := by
 by_cases h3 : (clR q n).2.length <= 3
 ·exact zh0 code q hc n hp h1 hn h3
 ·exact zin code q hc n hp h1 hn (by omega)
structure DrS (code : List UInt8) (b m k : Nat) (x : Cu × List (List Int)) : Prop where
 code : x.1.code = code
 pos : x.1.pos + k * b <= 274877910000
 len : x.2.length + k * m <= 2000
theorem DrS.put {code : List UInt8} {b m k n : Nat} {x : Cu × List (List Int)} (h : DrS code b m (k + 1) x) (hb : 2 * n + 3 <= b) (hm : 1 <= m) : DrS code b m k ((clD x.1 n).1, x.2 ++ [(clD x.1 n).2]) := by
 obtain ⟨p1, p2, p3, p4⟩ := zfh x.1 n
 have h1 := h.pos
 have h2 := h.len
 rw [Nat.add_mul] at h1 h2
 exact ⟨p3.trans h.code, by dsimp only; omega, by simp; omega⟩
set_option maxHeartbeats 1000000 in
theorem znb {code : List UInt8} {q : Cu} (hc : q.code = code) (hp : q.pos <= 274877906944) : PC Try.prog 94 (zew code q) [.p 0] (zew code (zb3 q).1) [(true, .one (za0 (zb3 q).2))] := by
 have H1 := zcw hc (by omega) 4 (by omega)
 have b1 := q.pick_bd (n := 4) (by omega)
 have p1 := q.pick_pos 4
 have c1 := (q.pick_code 4).trans hc
 have H2 := zcw c1 (by omega) 7 (by omega)
 have b2 := (q.pick 4).1.pick_bd (n := 7) (by omega)
 have p2 := (q.pick 4).1.pick_pos 7
 have c2 := ((q.pick 4).1.pick_code 7).trans c1
 have hS : zb3 q = zj6 (2 + (q.pick 4).2.toNat) ((zdh (2 + (q.pick 4).2.toNat) (1 + ((q.pick 4).1.pick 7).2.toNat) (((q.pick 4).1.pick 7).1, [])).1.pick 14).2.toNat
  (((zdh (2 + (q.pick 4).2.toNat) (1 + ((q.pick 4).1.pick 7).2.toNat) (((q.pick 4).1.pick 7).1, [])).1.pick 14).1, (zdh (2 + (q.pick 4).2.toNat) (1 + ((q.pick 4).1.pick 7).2.toNat) (((q.pick 4).1.pick 7).1, [])).2) := rfl
 generalize (q.pick 4).1.pick 7 = a2 at H2 b2 p2 c2 hS
 obtain ⟨Q2, y⟩ := a2
 generalize hn : 2 + (q.pick 4).2.toNat = n at hS
 have hw1 : IntKind.i64.wrap (2 + (q.pick 4).2) = (n : Int) := by rw [zak (by omega) (by omega)]; omega
 simp only at b2 p2 c2 hS H2
 generalize hK : 1 + y.toNat = K at hS
 have hw2 : IntKind.i64.wrap (1 + y) = (K : Int) := by rw [zak (by omega) (by omega)]; omega
 generalize zb3 q = R at hS ⊢
 generalize hR1 : zdh n K (Q2, []) = R1 at hS
 refine zcs Try.call94 Try.func94 rfl (by kernel_rfl) (by simp only [List.length_cons, List.length_nil, Try.ntmps94]; omega) (by simp only [Try.ntmps94]; omega) rfl rfl (by simp [zay, T.isPin, AF.ds, bxA]) (by simp [gFS, T.fs, T.flat, AF.ds, bxA]) rfl ?_
 simp -implicitDefEqProofs only [go_sem, Try.results94]
 refine zas (by simp -implicitDefEqProofs only [go_sem]) ?_
 simp -implicitDefEqProofs only [go_sem]
 refine zar [0, 3, 1000000] [8] [1000000] [] (H1) (by decide) rfl (by simp -implicitDefEqProofs only [go_sem]) (by simp -implicitDefEqProofs only [go_sem]) (by simp -implicitDefEqProofs only [go_sem]) (by simp -implicitDefEqProofs only [go_sem]) ?_
 simp -implicitDefEqProofs only [go_sem]
 rw [hw1]
 refine zar [0, 3, 4, 1000000] [11] [1000000] [] (H2) (by decide) rfl (by simp -implicitDefEqProofs only [go_sem]) (by simp -implicitDefEqProofs only [go_sem]) (by simp -implicitDefEqProofs only [go_sem]) (by simp -implicitDefEqProofs only [go_sem]) ?_
 simp -implicitDefEqProofs only [go_sem]
 rw [hw2]
 refine zap (fun x : Nat × (Cu × List (List Int)) => hd [(0, .one (.bx 1000000 0)), (3, .one (.ow 224 x.2.2.length)), (4, vI n), (5, vI x.1), (1000000, .one (.bx 1000000 0))] [(1000000, [.rn (zmj code), .t (.int .i64 x.2.1.pos), .t (.int .u64 x.2.1.seed)])] [(224, ⟨true, 1, x.2.2.map fun s => [zaz s], x.2.2.length, true⟩)]) (fun x => zdh n x.1 x.2 = R1 /\ DrS code 30 2 (x.1 + 50) x.2) (fun x => x.1) (K, (Q2, [])) (zah ?_) ?_ ?_
 ·simp -implicitDefEqProofs only [go_sem]
 ·exact ⟨hR1, c2, by dsimp only; omega, by simp; omega⟩
 ·rintro ⟨k, x⟩ ⟨hr, hD⟩
  simp only at hr hD
  cases k with
  | succ k =>
   rw [zdh] at hr
   have hgt : ((0 : Int) < ((k + 1 : Nat) : Int)) = True := by simp
   have hwk : IntKind.i64.wrap (((k + 1 : Nat) : Int) - 1) = (k : Int) := by have := hD.len; rw [zak (by omega) (by omega)]; omega
   have hD' := hD.put (n := n) (k := k + 50) (by omega) (by omega)
   have HC := zb6 hD.code n (by have := hD.pos; omega) (by omega) (by omega)
   have hol : x.2.length <= 4294967295 := by have := hD.len; omega
   obtain ⟨Q, S⟩ := x
   simp only at hr hD hD' HC hol
   simp -implicitDefEqProofs only [go_sem, hgt]
   refine zar [0, 3, 4, 5, 18, 1000000] [19, 20] [1000000] [] (HC) (by decide) rfl (by simp -implicitDefEqProofs only [go_sem]) (by simp -implicitDefEqProofs only [go_sem]) (by simp -implicitDefEqProofs only [go_sem]) (by simp -implicitDefEqProofs only [go_sem]) ?_
   simp -implicitDefEqProofs only [go_sem]
   refine zas (by simp -implicitDefEqProofs only [go_sem]) ?_
   simp -implicitDefEqProofs only [go_sem]
   refine apD true (by simp -implicitDefEqProofs only [go_sem, ne_eq, List.length_map, hol]) ?_
   simp -implicitDefEqProofs only [go_sem, ne_eq, List.length_map, hol]
   refine ⟨(k, ((clD Q n).1, S ++ [(clD Q n).2])), ⟨hr, hD'⟩, by simp only; omega, zah ?_⟩
   simp -implicitDefEqProofs only [go_sem]
   rw [hwk, List.map_append]
   exact ⟨rfl, rfl⟩
  | zero =>
   have hr : x = R1 := hr
   subst hr
   have hgt : ((0 : Int) < ((0 : Nat) : Int)) = False := by simp
   have H3 := zcw hD.code (by have := hD.pos; omega) 14 (by omega)
   have b3 := x.1.pick_bd (n := 14) (by omega)
   have p3 := x.1.pick_pos 14
   have c3 := (x.1.pick_code 14).trans hD.code
   obtain ⟨z, hz⟩ : ∃ z : Nat, (x.1.pick 14).2 = z := ⟨(x.1.pick 14).2.toNat, by omega⟩
   rw [hz] at H3 b3 hS
   rw [Int.toNat_natCast] at hS
   have hd0 := hD.pos
   have hd1 := hD.len
   obtain ⟨Q, S⟩ := x
   simp only at H3 p3 c3 hz hS hd0 hd1
   generalize (Q.pick 14).1 = Q3 at H3 p3 c3 hS
   simp -implicitDefEqProofs only [go_sem, hgt]
   refine zar [0, 3, 4, 1000000] [24] [1000000] [] (H3) (by decide) rfl (by simp -implicitDefEqProofs only [go_sem]) (by simp -implicitDefEqProofs only [go_sem]) (by simp -implicitDefEqProofs only [go_sem]) (by simp -implicitDefEqProofs only [go_sem]) ?_
   simp -implicitDefEqProofs only [go_sem]
   refine zap (fun x : Nat × (Cu × List (List Int)) => hd [(0, .one (.bx 1000000 0)), (3, .one (.ow 224 x.2.2.length)), (4, vI n), (6, vI x.1), (1000000, .one (.bx 1000000 0))] [(1000000, [.rn (zmj code), .t (.int .i64 x.2.1.pos), .t (.int .u64 x.2.1.seed)])] [(224, ⟨true, 1, x.2.2.map fun s => [zaz s], x.2.2.length, true⟩)]) (fun x => zj6 n x.1 x.2 = R /\ DrS code 40 2 (x.1 + 10) x.2) (fun x => x.1) (z, (Q3, S)) (zah ?_) ?_ ?_
   ·simp -implicitDefEqProofs only [go_sem]
   ·exact ⟨hS.symm, c3, by dsimp only; omega, by dsimp only; omega⟩
   ·rintro ⟨k, x⟩ ⟨hr, hD⟩
    simp only at hr hD
    cases k with
    | succ k =>
     rw [zj6] at hr
     have hgt : ((0 : Int) < ((k + 1 : Nat) : Int)) = True := by simp
     have hwk : IntKind.i64.wrap (((k + 1 : Nat) : Int) - 1) = (k : Int) := by have := hD.len; rw [zak (by omega) (by omega)]; omega
     have H4 := zsg hD.code (by have := hD.pos; omega) 2 (by omega)
     have p4 := x.1.pick_pos 2
     have c4 := (x.1.pick_code 2).trans hD.code
     have e0 := hD.pos
     have e1 := hD.len
     obtain ⟨Q, S⟩ := x
     simp only at hr H4 p4 c4 e0 e1
     by_cases h0 : (Q.pick 2).2 = 0
     ·rw [if_pos h0] at hr
      rw [show ((Q.pick 2).2 == 0) = true by simpa using h0] at H4
      generalize (Q.pick 2).1 = Q4 at H4 p4 c4 hr
      have HC := zb6 c4 n (by omega) (by omega) (by omega)
      obtain ⟨u1, u2, u3, u4⟩ := zfh Q4 n
      have HD := zb6 (u3.trans c4) 2 (by omega) (by omega) (by omega)
      obtain ⟨v1, v2, v3, v4⟩ := zfh (clD Q4 n).1 2
      have hol : S.length <= 4294967294 := by omega
      have hol1 : S.length <= 4294967295 := by omega
      have hol2 : S.length + 1 <= 4294967295 := by omega
      generalize clD Q4 n = C1 at HC u1 u2 u3 u4 HD v1 v2 v3 v4 hr
      obtain ⟨Q5, s1⟩ := C1
      simp only at HC u1 u2 u3 u4 HD v1 v2 v3 v4 hr
      generalize clD Q5 2 = C2 at HD v1 v2 v3 v4 hr
      obtain ⟨Q6, s2⟩ := C2
      simp only at HD v1 v2 v3 v4 hr
      simp -implicitDefEqProofs only [go_sem, hgt]
      refine zar [0, 3, 4, 6, 28, 1000000] [29] [1000000] [] (H4) (by decide) rfl (by simp -implicitDefEqProofs only [go_sem]) (by simp -implicitDefEqProofs only [go_sem]) (by simp -implicitDefEqProofs only [go_sem]) (by simp -implicitDefEqProofs only [go_sem]) ?_
      simp -implicitDefEqProofs only [go_sem]
      refine zar [0, 3, 4, 6, 34, 1000000] [35, 36] [1000000] [] (HC) (by decide) rfl (by simp -implicitDefEqProofs only [go_sem]) (by simp -implicitDefEqProofs only [go_sem]) (by simp -implicitDefEqProofs only [go_sem]) (by simp -implicitDefEqProofs only [go_sem]) ?_
      simp -implicitDefEqProofs only [go_sem]
      refine zas (by simp -implicitDefEqProofs only [go_sem]) ?_
      simp -implicitDefEqProofs only [go_sem]
      refine apD true (by simp -implicitDefEqProofs only [go_sem, ne_eq, List.length_map, hol1]) ?_
      simp -implicitDefEqProofs only [go_sem, ne_eq, List.length_map, hol1]
      refine zar [0, 3, 4, 6, 40, 1000000] [41] [1000000] [] (HD) (by decide) rfl (by simp -implicitDefEqProofs only [go_sem]) (by simp -implicitDefEqProofs only [go_sem]) (by simp -implicitDefEqProofs only [go_sem]) (by simp -implicitDefEqProofs only [go_sem]) ?_
      simp -implicitDefEqProofs only [go_sem]
      refine zas (by simp -implicitDefEqProofs only [go_sem]) ?_
      simp -implicitDefEqProofs only [go_sem]
      refine apD true (by simp -implicitDefEqProofs only [go_sem, ne_eq, List.length_map, List.length_append, List.length_cons, List.length_nil, hol2]) ?_
      simp -implicitDefEqProofs only [go_sem, ne_eq, List.length_map, List.length_append, List.length_cons, List.length_nil, hol2]
      refine ⟨(k, (Q6, S ++ [s1] ++ [s2])), ⟨hr, v3.trans (u3.trans c4), ?_, ?_⟩, by simp only; omega, zah ?_⟩
      ·dsimp only; rw [Nat.add_mul] at e0 ⊢; omega
      ·simp; omega
      ·simp -implicitDefEqProofs only [go_sem]
       rw [hwk, List.map_append, List.map_append]
       exact ⟨rfl, rfl⟩
     ·rw [if_neg h0] at hr
      subst hr
      rw [show ((Q.pick 2).2 == 0) = false by simpa using h0] at H4
      simp -implicitDefEqProofs only [go_sem, hgt]
      refine zar [0, 3, 4, 6, 28, 1000000] [29] [1000000] [] (H4) (by decide) rfl (by simp -implicitDefEqProofs only [go_sem]) (by simp -implicitDefEqProofs only [go_sem]) (by simp -implicitDefEqProofs only [go_sem]) (by simp -implicitDefEqProofs only [go_sem]) ?_
      simp -implicitDefEqProofs only [go_sem]
    | zero =>
     have hr : x = R := hr
     subst hr
     have hgt : ((0 : Int) < ((0 : Nat) : Int)) = False := by simp
     simp -implicitDefEqProofs only [go_sem, hgt]
end Go.Proofs.Yteeaofpphmhjdaa
namespace Go.Proofs.Yteeaofpphmhjdaa
set_option linter.unusedSimpArgs false
set_option linter.unusedVariables false
set_option linter.unusedSectionVars false
set_option maxRecDepth 4000
open Go.RowKit
theorem zvk {code : List UInt8} {q : Cu} (hc : q.code = code) (hp : q.pos <= 1099511627776) (l : List Int) (hl : 1 <= l.length) (hn : l.length <= 200) : PC Try.prog 70 (zew code q) [.p 0, .d true (.one (zaz l))] (zew code (zfv q l).1) [(true, iD (zfv q l).2)] := by
 have HN := zcw hc hp l.length (by omega)
 have hb := q.pick_bd (n := l.length) (by omega)
 unfold zfv
 obtain ⟨j, hj⟩ : ∃ j : Nat, (q.pick l.length).2 = j := ⟨(q.pick l.length).2.toNat, by omega⟩
 have hjl : j < l.length := by omega
 rw [hj] at HN ⊢
 refine zcs Try.call70 Try.func70 rfl (by kernel_rfl) (by simp only [List.length_cons, List.length_nil, Try.ntmps70]; omega) (by simp only [Try.ntmps70]; omega) rfl rfl (by simp [zay, T.isPin, AF.ds, bxA]) (by simp [gFS, T.fs, T.flat, AF.ds, bxA]) rfl ?_
 simp -implicitDefEqProofs only [go_sem, Try.results70]
 refine zar [5, 1000000] [6, 8] [1000000] [] (HN) (by decide) rfl (by simp -implicitDefEqProofs only [go_sem, hjl, zaj]) (by simp -implicitDefEqProofs only [go_sem, hjl, zaj]) (by simp -implicitDefEqProofs only [go_sem, hjl, zaj]) (by simp -implicitDefEqProofs only [go_sem, hjl, zaj]) ?_
 simp -implicitDefEqProofs only [go_sem, hjl, zaj]
 exact Or.inl (by rw [List.getD_eq_getElem?_getD, List.getElem?_eq_getElem hjl]; rfl)
def anyE (y : Cu × Int) (S : List (List Int)) : Cu × List (List Int) :=
 if y.2 = 0 then ((zfv y.1 [0, 13, -13]).1, S ++ [[(zfv y.1 [0, 13, -13]).2]])
 else if y.2 = 1 then (y.1, S ++ [[2, 1]])
 else if y.2 = 2 then (y.1, S ++ [[1, -1]])
 else if y.2 = 3 then zj7 (42 - S.length) (y.1, S)
 else if y.2 = 4 then (y.1, S ++ [[12], [-12, 7]])
 else (y.1, S)
theorem zv8 (q : Cu) : zm9 q = anyE ((zb3 q).1.pick 30) (zb3 q).2 := rfl
set_option maxHeartbeats 1000000 in
theorem zs6 {code : List UInt8} {q : Cu} (hc : q.code = code) (hp : q.pos <= 137438953472) : PC Try.prog 44 (zew code q) [.p 0] (zew code (zm9 q).1) [(true, .one (za0 (zm9 q).2))] := by
 have H0 := znb hc (by omega)
 have hg := zpz q
 have hpos := hg.pos
 have hcd := hg.code.trans hc
 have hlen := hg.len
 have hA := zv8 q
 generalize zm9 q = R at hA ⊢
 generalize zb3 q = x at H0 hpos hcd hlen hA
 obtain ⟨Q, S⟩ := x
 simp only at H0 hpos hcd hlen hA
 have H1 := zcw hcd (by omega) 30 (by omega)
 have b1 := Q.pick_bd (n := 30) (by omega)
 have p1 := Q.pick_pos 30
 have c1 := (Q.pick_code 30).trans hcd
 generalize Q.pick 30 = y at H1 b1 p1 c1 hA
 obtain ⟨Q1, z⟩ := y
 simp only at H1 b1 p1 c1
 unfold anyE at hA
 simp only at hA
 have hol : S.length <= 4294967295 := by omega
 have hol2 : S.length <= 4294967294 := by omega
 have hg0 : ¬ S.length = 4294967295 := by omega
 by_cases h0 : z = 0
 ·rw [if_pos h0] at hA
  subst h0 hA
  have H2 : PC Try.prog 70 (zew code Q1) [.p 0, .d true (.one (.sl 1 [[.int .i64 0], [.int .i64 13], [.int .i64 (-13)]]))] (zew code (zfv Q1 [0, 13, -13]).1) [(true, iD (zfv Q1 [0, 13, -13]).2)] := zvk c1 (by omega) [0, 13, -13] (by simp) (by simp)
  generalize zfv Q1 [0, 13, -13] = v at H2 ⊢
  obtain ⟨Q2, u⟩ := v
  simp only at H2 ⊢
  refine zcs Try.call44 Try.func44 rfl (by kernel_rfl) (by simp only [List.length_cons, List.length_nil, Try.ntmps44]; omega) (by simp only [Try.ntmps44]; omega) rfl rfl (by simp [zay, T.isPin, AF.ds, bxA]) (by simp [gFS, T.fs, T.flat, AF.ds, bxA]) rfl ?_
  simp -implicitDefEqProofs only [go_sem, Try.results44]
  refine zar [0, 1000000] [4] [1000000] [] (H0) (by decide) rfl (by simp -implicitDefEqProofs only [go_sem]) (by simp -implicitDefEqProofs only [go_sem]) (by simp -implicitDefEqProofs only [go_sem]) (by simp -implicitDefEqProofs only [go_sem]) ?_
  simp -implicitDefEqProofs only [go_sem]
  refine zar [0, 3, 1000000] [6] [1000000] [] (H1) (by decide) rfl (by simp -implicitDefEqProofs only [go_sem]) (by simp -implicitDefEqProofs only [go_sem]) (by simp -implicitDefEqProofs only [go_sem]) (by simp -implicitDefEqProofs only [go_sem]) ?_
  simp -implicitDefEqProofs only [go_sem]
  refine zas (by simp -implicitDefEqProofs only [go_sem]) ?_
  simp -implicitDefEqProofs only [go_sem]
  refine zar [10, 1000000] [11, 12] [1000000] [] (H2) (by decide) rfl (by simp -implicitDefEqProofs only [go_sem]) (by simp -implicitDefEqProofs only [go_sem]) (by simp -implicitDefEqProofs only [go_sem]) (by simp -implicitDefEqProofs only [go_sem]) ?_
  simp -implicitDefEqProofs only [go_sem]
  refine zas (by simp -implicitDefEqProofs only [go_sem]) ?_
  simp -implicitDefEqProofs only [go_sem]
  refine zas (by simp -implicitDefEqProofs only [go_sem]) ?_
  simp -implicitDefEqProofs only [go_sem]
  refine apD true (by simp -implicitDefEqProofs only [go_sem, ne_eq, List.length_map, hol]) ?_
  simp -implicitDefEqProofs only [go_sem, ne_eq, List.length_map, hol]
  rw [List.map_append]
  exact Or.inl (Or.inl rfl)
 ·rw [if_neg h0] at hA
  have n0 : (z == (0 : Int)) = false := by simpa using h0
  by_cases h1 : z = 1
  ·rw [if_pos h1] at hA
   subst h1 hA
   refine zcs Try.call44 Try.func44 rfl (by kernel_rfl) (by simp only [List.length_cons, List.length_nil, Try.ntmps44]; omega) (by simp only [Try.ntmps44]; omega) rfl rfl (by simp [zay, T.isPin, AF.ds, bxA]) (by simp [gFS, T.fs, T.flat, AF.ds, bxA]) rfl ?_
   simp -implicitDefEqProofs only [go_sem, Try.results44]
   refine zar [0, 1000000] [4] [1000000] [] (H0) (by decide) rfl (by simp -implicitDefEqProofs only [go_sem]) (by simp -implicitDefEqProofs only [go_sem]) (by simp -implicitDefEqProofs only [go_sem]) (by simp -implicitDefEqProofs only [go_sem]) ?_
   simp -implicitDefEqProofs only [go_sem]
   refine zar [0, 3, 1000000] [6] [1000000] [] (H1) (by decide) rfl (by simp -implicitDefEqProofs only [go_sem]) (by simp -implicitDefEqProofs only [go_sem]) (by simp -implicitDefEqProofs only [go_sem]) (by simp -implicitDefEqProofs only [go_sem]) ?_
   simp -implicitDefEqProofs only [go_sem]
   refine zas (by simp -implicitDefEqProofs only [go_sem]) ?_
   simp -implicitDefEqProofs only [go_sem]
   refine zas (by simp -implicitDefEqProofs only [go_sem]) ?_
   simp -implicitDefEqProofs only [go_sem]
   refine apD true (by simp -implicitDefEqProofs only [go_sem, ne_eq, List.length_map, hol]) ?_
   simp -implicitDefEqProofs only [go_sem, ne_eq, List.length_map, hol]
   rw [List.map_append]
   exact Or.inl (Or.inl rfl)
  ·rw [if_neg h1] at hA
   have n1 : (z == (1 : Int)) = false := by simpa using h1
   by_cases h2 : z = 2
   ·rw [if_pos h2] at hA
    subst h2 hA
    refine zcs Try.call44 Try.func44 rfl (by kernel_rfl) (by simp only [List.length_cons, List.length_nil, Try.ntmps44]; omega) (by simp only [Try.ntmps44]; omega) rfl rfl (by simp [zay, T.isPin, AF.ds, bxA]) (by simp [gFS, T.fs, T.flat, AF.ds, bxA]) rfl ?_
    simp -implicitDefEqProofs only [go_sem, Try.results44]
    refine zar [0, 1000000] [4] [1000000] [] (H0) (by decide) rfl (by simp -implicitDefEqProofs only [go_sem]) (by simp -implicitDefEqProofs only [go_sem]) (by simp -implicitDefEqProofs only [go_sem]) (by simp -implicitDefEqProofs only [go_sem]) ?_
    simp -implicitDefEqProofs only [go_sem]
    refine zar [0, 3, 1000000] [6] [1000000] [] (H1) (by decide) rfl (by simp -implicitDefEqProofs only [go_sem]) (by simp -implicitDefEqProofs only [go_sem]) (by simp -implicitDefEqProofs only [go_sem]) (by simp -implicitDefEqProofs only [go_sem]) ?_
    simp -implicitDefEqProofs only [go_sem]
    refine zas (by simp -implicitDefEqProofs only [go_sem]) ?_
    simp -implicitDefEqProofs only [go_sem]
    refine zas (by simp -implicitDefEqProofs only [go_sem]) ?_
    simp -implicitDefEqProofs only [go_sem]
    refine apD true (by simp -implicitDefEqProofs only [go_sem, ne_eq, List.length_map, hol]) ?_
    simp -implicitDefEqProofs only [go_sem, ne_eq, List.length_map, hol]
    rw [List.map_append]
    exact Or.inl (Or.inl rfl)
   ·rw [if_neg h2] at hA
    have n2 : (z == (2 : Int)) = false := by simpa using h2
    by_cases h3 : z = 3
    ·rw [if_pos h3] at hA
     subst h3
     refine zcs Try.call44 Try.func44 rfl (by kernel_rfl) (by simp only [List.length_cons, List.length_nil, Try.ntmps44]; omega) (by simp only [Try.ntmps44]; omega) rfl rfl (by simp [zay, T.isPin, AF.ds, bxA]) (by simp [gFS, T.fs, T.flat, AF.ds, bxA]) rfl ?_
     simp -implicitDefEqProofs only [go_sem, Try.results44]
     refine zar [0, 1000000] [4] [1000000] [] (H0) (by decide) rfl (by simp -implicitDefEqProofs only [go_sem]) (by simp -implicitDefEqProofs only [go_sem]) (by simp -implicitDefEqProofs only [go_sem]) (by simp -implicitDefEqProofs only [go_sem]) ?_
     simp -implicitDefEqProofs only [go_sem]
     refine zar [0, 3, 1000000] [6] [1000000] [] (H1) (by decide) rfl (by simp -implicitDefEqProofs only [go_sem]) (by simp -implicitDefEqProofs only [go_sem]) (by simp -implicitDefEqProofs only [go_sem]) (by simp -implicitDefEqProofs only [go_sem]) ?_
     simp -implicitDefEqProofs only [go_sem]
     refine zap (fun x : Nat × (Cu × List (List Int)) => hd [(0, .one (.bx 1000000 0)), (3, .one (.ow 160 (42 - S.length - x.1))), (7, vI 3), (1000000, .one (.bx 1000000 0))] [(1000000, [.rn (zmj code), .t (.int .i64 x.2.1.pos), .t (.int .u64 x.2.1.seed)])] [(160, ⟨true, 1, x.2.2.map fun s => [zaz s], 42 - S.length - x.1, true⟩)]) (fun x => zj7 x.1 x.2 = R /\ (1 <= x.1 /\ x.1 + x.2.2.length = 42 /\ S.length <= x.2.2.length) /\ DrS code 40 2 (x.1 + 10) x.2) (fun x => x.1) (42 - S.length, (Q1, S)) (zah ?_) ?_ ?_
     ·simp -implicitDefEqProofs only [go_sem]
      skip
     ·exact ⟨hA.symm, ⟨by simp only; omega, by simp only; omega, Nat.le_refl _⟩, c1, by dsimp only; omega, by dsimp only; omega⟩
     ·rintro ⟨k, x⟩ ⟨hr, hk, hD⟩
      simp only at hr hk hD
      cases k with
      | zero => exact absurd hk.1 (by omega)
      | succ k =>
       rw [zj7] at hr
       have H4 := zcw hD.code (by have := hD.pos; omega) 2 (by omega)
       have b4 := x.1.pick_bd (n := 2) (by omega)
       have p4 := x.1.pick_pos 2
       have c4 := (x.1.pick_code 2).trans hD.code
       have e0 := hD.pos
       have e1 := hD.len
       obtain ⟨Q, U⟩ := x
       simp only at hr H4 p4 c4 e0 e1 b4 hk
       generalize Q.pick 2 = y at H4 p4 c4 b4 hr
       obtain ⟨Q4, u⟩ := y
       simp only at hr H4 p4 c4 b4
       have hw : IntKind.i64.wrap (40 + u) = 40 + u := zak (by omega) (by omega)
       have hgen : 42 - S.length - k = 42 - S.length - (k + 1) + 1 := by omega
       by_cases hlt : (U.length : Int) < 40 + u
       ·rw [if_pos hlt] at hr
        have hlt' : ((U.length : Int) < 40 + u) = True := by simpa using hlt
        have HC := zb6 c4 6 (by omega) (by omega) (by omega)
        obtain ⟨u1, u2, u3, u4⟩ := zfh Q4 6
        have hol1 : U.length <= 4294967295 := by omega
        generalize clD Q4 6 = C1 at HC u1 u2 u3 u4 hr
        obtain ⟨Q5, s1⟩ := C1
        simp only at HC u1 u2 u3 u4 hr
        simp -implicitDefEqProofs only [go_sem]
        refine zar [0, 3, 7, 32, 1000000] [33] [1000000] [] (H4) (by decide) rfl (by simp -implicitDefEqProofs only [go_sem]) (by simp -implicitDefEqProofs only [go_sem]) (by simp -implicitDefEqProofs only [go_sem]) (by simp -implicitDefEqProofs only [go_sem]) ?_
        simp -implicitDefEqProofs only [go_sem]
        rw [hw]
        simp -implicitDefEqProofs only [go_sem, hlt']
        refine zar [0, 7, 37, 1000000] [38] [1000000] [] (HC) (by decide) rfl (by simp -implicitDefEqProofs only [go_sem]) (by simp -implicitDefEqProofs only [go_sem]) (by simp -implicitDefEqProofs only [go_sem]) (by simp -implicitDefEqProofs only [go_sem]) ?_
        simp -implicitDefEqProofs only [go_sem]
        refine zas (by simp -implicitDefEqProofs only [go_sem]) ?_
        simp -implicitDefEqProofs only [go_sem]
        refine apD true (by simp -implicitDefEqProofs only [go_sem, ne_eq, List.length_map, hol1]) ?_
        simp -implicitDefEqProofs only [go_sem, ne_eq, List.length_map, hol1]
        refine ⟨(k, (Q5, U ++ [s1])), ⟨hr, ⟨by simp only; omega, by simp; omega, by simp; omega⟩, u3.trans c4, ?_, ?_⟩, by simp only; omega, zah ?_⟩
        ·dsimp only; rw [Nat.add_mul] at e0 ⊢; omega
        ·simp; omega
        ·simp -implicitDefEqProofs only [go_sem]
         rw [hgen, List.map_append]
         rfl
       ·rw [if_neg hlt] at hr
        subst hr
        have hlt' : ((U.length : Int) < 40 + u) = False := by simpa using hlt
        simp -implicitDefEqProofs only [go_sem]
        refine zar [0, 3, 7, 32, 1000000] [33] [1000000] [] (H4) (by decide) rfl (by simp -implicitDefEqProofs only [go_sem]) (by simp -implicitDefEqProofs only [go_sem]) (by simp -implicitDefEqProofs only [go_sem]) (by simp -implicitDefEqProofs only [go_sem]) ?_
        simp -implicitDefEqProofs only [go_sem]
        rw [hw]
        simp -implicitDefEqProofs only [go_sem, hlt']
        skip
    ·rw [if_neg h3] at hA
     have n3 : (z == (3 : Int)) = false := by simpa using h3
     by_cases h4 : z = 4
     ·rw [if_pos h4] at hA
      subst h4 hA
      refine zcs Try.call44 Try.func44 rfl (by kernel_rfl) (by simp only [List.length_cons, List.length_nil, Try.ntmps44]; omega) (by simp only [Try.ntmps44]; omega) rfl rfl (by simp [zay, T.isPin, AF.ds, bxA]) (by simp [gFS, T.fs, T.flat, AF.ds, bxA]) rfl ?_
      simp -implicitDefEqProofs only [go_sem, Try.results44]
      refine zar [0, 1000000] [4] [1000000] [] (H0) (by decide) rfl (by simp -implicitDefEqProofs only [go_sem]) (by simp -implicitDefEqProofs only [go_sem]) (by simp -implicitDefEqProofs only [go_sem]) (by simp -implicitDefEqProofs only [go_sem]) ?_
      simp -implicitDefEqProofs only [go_sem]
      refine zar [0, 3, 1000000] [6] [1000000] [] (H1) (by decide) rfl (by simp -implicitDefEqProofs only [go_sem]) (by simp -implicitDefEqProofs only [go_sem]) (by simp -implicitDefEqProofs only [go_sem]) (by simp -implicitDefEqProofs only [go_sem]) ?_
      simp -implicitDefEqProofs only [go_sem]
      refine zas (by simp -implicitDefEqProofs only [go_sem]) ?_
      simp -implicitDefEqProofs only [go_sem]
      refine zas (by simp -implicitDefEqProofs only [go_sem]) ?_
      simp -implicitDefEqProofs only [go_sem]
      refine zas (by simp -implicitDefEqProofs only [go_sem]) ?_
      simp -implicitDefEqProofs only [go_sem]
      refine apD true (by simp -implicitDefEqProofs only [go_sem, ne_eq, List.length_map, hol2]) ?_
      simp -implicitDefEqProofs only [go_sem, ne_eq, List.length_map, hol2]
      rw [List.map_append]
      exact Or.inl (Or.inl rfl)
     ·rw [if_neg h4] at hA
      have n4 : (z == (4 : Int)) = false := by simpa using h4
      subst hA
      refine zcs Try.call44 Try.func44 rfl (by kernel_rfl) (by simp only [List.length_cons, List.length_nil, Try.ntmps44]; omega) (by simp only [Try.ntmps44]; omega) rfl rfl (by simp [zay, T.isPin, AF.ds, bxA]) (by simp [gFS, T.fs, T.flat, AF.ds, bxA]) rfl ?_
      simp -implicitDefEqProofs only [go_sem, Try.results44]
      refine zar [0, 1000000] [4] [1000000] [] (H0) (by decide) rfl (by simp -implicitDefEqProofs only [go_sem]) (by simp -implicitDefEqProofs only [go_sem]) (by simp -implicitDefEqProofs only [go_sem]) (by simp -implicitDefEqProofs only [go_sem]) ?_
      simp -implicitDefEqProofs only [go_sem]
      refine zar [0, 3, 1000000] [6] [1000000] [] (H1) (by decide) rfl (by simp -implicitDefEqProofs only [go_sem, n0, n1, n2, n3, n4]) (by simp -implicitDefEqProofs only [go_sem, n0, n1, n2, n3, n4]) (by simp -implicitDefEqProofs only [go_sem, n0, n1, n2, n3, n4]) (by simp -implicitDefEqProofs only [go_sem, n0, n1, n2, n3, n4]) ?_
      simp -implicitDefEqProofs only [go_sem, n0, n1, n2, n3, n4]
      skip
end Go.Proofs.Yteeaofpphmhjdaa
namespace Go.Proofs.Yteeaofpphmhjdaa
set_option linter.unusedSimpArgs false
set_option linter.unusedVariables false
set_option linter.unusedSectionVars false
set_option maxRecDepth 4000
open Go.RowKit
theorem flag_c (b : Bool) : FC Try.prog 72 [bD b] [iD (if b = true then 1 else 0)] := by
 cases b
 ·refine zaw Try.call72 Try.func72 rfl (by kernel_rfl) (zbf (by kernel_rfl)) ?_
  simp -implicitDefEqProofs only [go_sem, Try.results72]
 ·refine zaw Try.call72 Try.func72 rfl (by kernel_rfl) (zbf (by kernel_rfl)) ?_
  simp -implicitDefEqProofs only [go_sem, Try.results72]
end Go.Proofs.Yteeaofpphmhjdaa
namespace Go.Proofs.Yteeaofpphmhjdaa
set_option linter.unusedSimpArgs false
set_option linter.unusedVariables false
set_option linter.unusedSectionVars false
set_option maxRecDepth 4000
open Go.RowKit
theorem vBig_c (code : List UInt8) : FC Try.prog 10 [.one (zmj code)] [bD (decide (65536 < (code.length : Int)))] := by
 refine zaw Try.call10 Try.func10 rfl (by kernel_rfl) (zbf (by kernel_rfl)) ?_
 simp -implicitDefEqProofs only [go_sem, Try.results10]
theorem zv3 (xs ys : List Int) : FC Try.prog 14 [.one (zaz xs), .one (zaz ys)] [bD (same xs ys)] := by
 refine zet (fun hw => ?_) Try.call14
 have hl : xs.length <= 9223372036854775807 := by have := hw.1.1; simpa using this
 by_cases hne : xs.length = ys.length
 ·have hni : ((xs.length : Int) != (ys.length : Int)) = false := by rw [hne]; simp
  refine zaw Try.call14 Try.func14 rfl (by kernel_rfl) (zbf (by kernel_rfl)) ?_
  simp -implicitDefEqProofs only [go_sem, Try.results14, hni]
  refine zap (fun k : Nat => hd [(0, vT (zaz xs)), (1, vT (zaz ys)), (5, vI k)] [] []) (fun k => k <= xs.length /\ same xs ys = same (xs.drop k) (ys.drop k)) (fun k => xs.length - k) 0 (zah ?_) ?_ ?_
  ·simp -implicitDefEqProofs only [go_sem]
  ·simp
  ·intro k ⟨hk, hr⟩
   by_cases hlt : k < xs.length
   ·have hlt2 : k < ys.length := by omega
    have hwk : IntKind.i64.wrap ((k : Int) + 1) = ((k + 1 : Nat) : Int) := za2 (by omega)
    rw [List.drop_eq_getElem_cons hlt, List.drop_eq_getElem_cons hlt2, zpf] at hr
    simp -implicitDefEqProofs only [go_sem, hlt]
    refine drawn (by kernel_rfl) ?_
    simp -implicitDefEqProofs only [go_sem, zaj, hlt, hlt2]
    refine ⟨by kernel_rfl, ?_⟩
    rw [hwk]
    refine ⟨fun h => ?_, fun h => ⟨k + 1, ⟨hlt, ?_⟩, by omega, zah (by simp -implicitDefEqProofs only [go_sem])⟩⟩
    ·rw [hr, zpm.2 (by simpa using h), Bool.false_and]
    ·rw [hr, ze3.2 (by simpa using h), Bool.true_and]
   ·simp -implicitDefEqProofs only [go_sem, hlt]
    rw [hr, List.drop_of_length_le (by omega), List.drop_of_length_le (by omega), zia]
 ·have hni : ((xs.length : Int) != (ys.length : Int)) = true := by simp; omega
  refine zaw Try.call14 Try.func14 rfl (by kernel_rfl) (zbf (by kernel_rfl)) ?_
  simp -implicitDefEqProofs only [go_sem, Try.results14, hni]
  rw [zpm.2 (fun e => hne (by rw [e]))]
def q0 (code : List UInt8) : Cu := ⟨code, 0, 0⟩
end Go.Proofs.Yteeaofpphmhjdaa
namespace Go.Proofs.Yteeaofpphmhjdaa
set_option linter.unusedSimpArgs false
set_option linter.unusedVariables false
set_option linter.unusedSectionVars false
set_option maxRecDepth 4000
open Go.RowKit
def fmR (S : List (List Int)) : (List Int × Bool) × Bool := if zey S = true then ((match zm7 S with | some m => (m, true) | none => ([], false)), true) else (([], false), false)
theorem zv4 {S : List (List Int)} {n k : Nat} (hn : zb2 S = n) (hk : k < 2 ^ n) (hno : ∀ j, j < k -> isM S (asg 1 n j) = false) (hy : isM S (asg 1 n k) = true) : zm7 S = some (asg 1 n k) := by
 rw [zo0, hn, Int.toNat_natCast]
 rw [show (List.range (2 ^ n)).find? (fun k => isM S (asg 1 n k)) = some k from List.find?_range_eq_some.2 ⟨hy, by simpa using hk, fun j hj => by rw [hno j hj]; rfl⟩]
 rfl
theorem zwf {S : List (List Int)} {n : Nat} (hn : zb2 S = n) (hno : ∀ j, j < 2 ^ n -> isM S (asg 1 n j) = false) : zm7 S = none := by
 rw [zo0, hn, Int.toNat_natCast]
 rw [show (List.range (2 ^ n)).find? (fun k => isM S (asg 1 n k)) = none from List.find?_range_eq_none.2 fun j hj => by rw [hno j hj]; rfl]
 rfl
set_option maxHeartbeats 1000000 in
theorem ziq (S : List (List Int)) : FC Try.prog 18 [.one (za0 S)] [.one (zaz (fmR S).1.1), bD (fmR S).1.2, bD (fmR S).2] := by
 have H1 := zbr S
 unfold fmR
 cases h1 : zey S
 ·rw [h1] at H1
  rw [if_neg (by simp)]
  refine zaw Try.call18 Try.func18 rfl (by kernel_rfl) (zbf (by kernel_rfl)) ?_
  simp -implicitDefEqProofs only [go_sem, Try.results18]
  refine callF (H1) (by simp -implicitDefEqProofs only [go_sem]) ?_
  simp -implicitDefEqProofs only [go_sem]
 ·rw [h1] at H1
  rw [if_pos rfl]
  have hm := zcf S
  have hm2 := zkj fun c hc => zbe h1 hc
  obtain ⟨n, hn⟩ : ∃ n : Nat, zb2 S = n := ⟨(zb2 S).toNat, by omega⟩
  have HG := zf2 S fun c hc => zi9 (zbe h1 hc)
  rw [hn] at HG
  have hn12 : n <= 12 := by omega
  have hp : 2 ^ n <= 4096 := Nat.pow_le_pow_right (n := 2) (by omega) hn12
  refine zaw Try.call18 Try.func18 rfl (by kernel_rfl) (zbf (by kernel_rfl)) ?_
  simp -implicitDefEqProofs only [go_sem, Try.results18]
  refine callF (H1) (by simp -implicitDefEqProofs only [go_sem]) ?_
  simp -implicitDefEqProofs only [go_sem]
  refine callF (HG) (by simp -implicitDefEqProofs only [go_sem]) ?_
  simp -implicitDefEqProofs only [go_sem]
  have hs : IntKind.i64.wrap (1 * 2 ^ min n 64) = ((2 ^ n : Nat) : Int) := by
   rw [Nat.min_eq_left (by omega), Int.one_mul, show ((2 : Int) ^ n) = ((2 ^ n : Nat) : Int) by simp]
   generalize 2 ^ n = N at hp
   exact zak (by omega) (by omega)
  refine zap (fun k : Nat => hd [(0, vT (za0 S)), (5, vI n), (14, vI (2 ^ n : Nat)), (15, vI k)] [] []) (fun k => k <= 2 ^ n /\ ∀ j, j < k -> isM S (asg 1 n j) = false) (fun k => 2 ^ n - k) 0 (zah ?_) ⟨Nat.zero_le _, fun j hj => absurd hj (by omega)⟩ ?_
  ·simp -implicitDefEqProofs only [go_sem]
   rw [hs]
  ·intro k ⟨hk, hno⟩
   by_cases hkl : k < 2 ^ n
   ·have HA := zc8 k n hn12 (by omega)
    have HM := zhv S (asg 1 n k)
    have hwk : IntKind.i64.wrap ((k : Int) + 1) = ((k + 1 : Nat) : Int) := za2 (by omega)
    have hkl' : ((k : Int) < ((2 ^ n : Nat) : Int)) = True := by simpa using (by omega : (k : Int) < ((2 ^ n : Nat) : Int))
    cases hy : isM S (asg 1 n k)
    ·rw [hy] at HM
     simp -implicitDefEqProofs only [go_sem, hkl']
     refine callF (HA) (by simp -implicitDefEqProofs only [go_sem]) ?_
     simp -implicitDefEqProofs only [go_sem]
     refine callF (HM) (by simp -implicitDefEqProofs only [go_sem]) ?_
     simp -implicitDefEqProofs only [go_sem]
     rw [hwk]
     exact ⟨k + 1, ⟨hkl, fun j hj => by rcases Nat.lt_succ_iff_lt_or_eq.1 hj with h | h; exact hno j h; rw [h]; exact hy⟩, by omega, zah (by simp -implicitDefEqProofs only [go_sem])⟩
    ·rw [hy] at HM
     rw [zv4 hn hkl hno hy]
     simp -implicitDefEqProofs only [go_sem, hkl']
     refine callF (HA) (by simp -implicitDefEqProofs only [go_sem]) ?_
     simp -implicitDefEqProofs only [go_sem]
     refine callF (HM) (by simp -implicitDefEqProofs only [go_sem]) ?_
     simp -implicitDefEqProofs only [go_sem]
     skip
   ·have hkl' : ((k : Int) < ((2 ^ n : Nat) : Int)) = False := by simpa using (by omega : ¬ (k : Int) < ((2 ^ n : Nat) : Int))
    rw [zwf hn fun j hj => hno j (by omega)]
    simp -implicitDefEqProofs only [go_sem, hkl']
    skip
end Go.Proofs.Yteeaofpphmhjdaa
