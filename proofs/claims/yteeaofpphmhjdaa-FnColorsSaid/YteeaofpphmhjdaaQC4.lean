/-
  The walk over plain data, and contracts of functions of the program and of its laws.
  Conditions: those that each theorem names.
-/
import Derived.Test.YteeaofpphmhjdaaQC3
import Derived.Sort.OwnSorted
import Derived.Sort.KeysCollected
import Derived.Sort.Walk0
import Derived.Laws.AppendOwn
import Derived.MapKept
import Derived.Lib.SliceRun
import Derived.Deep.LoopGhost
namespace Go.Proofs.Yteeaofpphmhjdaa
set_option linter.unusedSimpArgs false
set_option linter.unusedVariables false
set_option linter.unusedSectionVars false
set_option maxRecDepth 4000
open Go
structure Cu where
 code : List UInt8
 pos : Nat
 seed : Int
def Cu.b (q : Cu) : Int := if q.pos < q.code.length then ((q.code.getD q.pos 0).toNat : Int) else 0
def Cu.sd (q : Cu) : Int := IntKind.u64.wrap (IntKind.u64.wrap (IntKind.u64.wrap (q.seed * 6364136223846793005) + IntKind.u64.wrap q.b) + 892892)
def Cu.nx (q : Cu) : Cu := ⟨q.code, q.pos + 1, q.sd⟩
def Cu.v (q : Cu) : Int := if q.pos + 1 <= q.code.length then q.b else IntKind.i64.wrap (IntKind.u64.wrap ((BitVec.ofInt 64 (q.sd.fdiv (2 ^ 40)) &&& BitVec.ofInt 64 255).toNat : Int))
theorem Cu.v_bd (q : Cu) : 0 <= q.v /\ q.v <= 255 := by
 unfold Cu.v
 split
 ·unfold Cu.b
  split
  ·have := (q.code.getD q.pos 0).toNat_lt; omega
  ·omega
 ·have h : (BitVec.ofInt 64 (q.sd.fdiv (2 ^ 40)) &&& BitVec.ofInt 64 255).toNat <= 255 := by
   rw [BitVec.toNat_and]
   exact Nat.and_le_right
  generalize (BitVec.ofInt 64 (q.sd.fdiv (2 ^ 40)) &&& BitVec.ofInt 64 255).toNat = n at h
  have e1 : IntKind.u64.wrap (n : Int) = n := by
   simp [IntKind.wrap, IntKind.bits, IntKind.signed]; omega
  rw [e1]
  have e2 : IntKind.i64.wrap (n : Int) = n := by
   simp [IntKind.wrap, IntKind.bits, IntKind.signed]; omega
  rw [e2]; omega
def Cu.pick (q : Cu) (n : Int) : Cu × Int := if n <= 1 then (q, 0) else (q.nx, q.v.tmod n)
theorem Cu.pick_bd (q : Cu) {n : Int} (h : 1 <= n) : 0 <= (q.pick n).2 /\ (q.pick n).2 < n := by
 unfold Cu.pick
 split
 ·dsimp only; omega
 ·have h2 := q.v_bd
  dsimp only
  rw [Int.tmod_eq_emod_of_nonneg h2.1]
  exact ⟨Int.emod_nonneg _ (by omega), Int.emod_lt_of_pos _ (by omega)⟩
theorem Cu.pick_pos (q : Cu) (n : Int) : q.pos <= (q.pick n).1.pos /\ (q.pick n).1.pos <= q.pos + 1 := by
 unfold Cu.pick Cu.nx
 split <;> simp
theorem Cu.pick_code (q : Cu) (n : Int) : (q.pick n).1.code = q.code := by
 unfold Cu.pick Cu.nx
 split <;> rfl
def zpb (v x : Int) : Int := v - 2 * v * x
def clR (q : Cu) : Nat -> Cu × List Int
 | 0 => (q, [])
 | k + 1 => if ((clR q k).1.pick 3).2 = 0 then ((((clR q k).1.pick 3).1.pick 2).1, (clR q k).2 ++ [zpb ((k : Int) + 1) ((((clR q k).1.pick 3).1.pick 2).2)]) else (((clR q k).1.pick 3).1, (clR q k).2)
def clD (q : Cu) (n : Nat) : Cu × List Int :=
 if (clR q n).2.take 3 = [] then
  if ((clR q n).1.pick 20).2 = 0 then (((clR q n).1.pick 20).1, [])
  else ((((((clR q n).1.pick 20).1.pick n).1.pick 2).1), [zpb (1 + (((clR q n).1.pick 20).1.pick n).2) ((((clR q n).1.pick 20).1.pick n).1.pick 2).2])
 else ((clR q n).1, (clR q n).2.take 3)
theorem zgd (q : Cu) : ∀ k, q.pos <= (clR q k).1.pos /\ (clR q k).1.pos <= q.pos + 2 * k /\ (clR q k).1.code = q.code /\ (clR q k).2.length <= k
 | 0 => ⟨Nat.le_refl _, Nat.le_refl _, rfl, Nat.le_refl _⟩
 | k + 1 => by
  obtain ⟨h1, h2, h3, h4⟩ := zgd q k
  have p1 := (clR q k).1.pick_pos 3
  have p2 := ((clR q k).1.pick 3).1.pick_pos 2
  have c1 := (clR q k).1.pick_code 3
  have c2 := ((clR q k).1.pick 3).1.pick_code 2
  rw [clR]
  split
  ·refine ⟨by dsimp only; omega, by dsimp only; omega, ?_, ?_⟩
   ·exact (c2.trans c1).trans h3
   ·simp; exact h4
  ·exact ⟨by dsimp only; omega, by dsimp only; omega, c1.trans h3, by dsimp only; omega⟩
theorem zeg (q : Cu) (n : Nat) : q.pos <= (clD q n).1.pos /\ (clD q n).1.pos <= q.pos + 2 * n + 3 /\ (clD q n).1.code = q.code /\ (clD q n).2.length <= 3 := by
 obtain ⟨h1, h2, h3, h4⟩ := zgd q n
 have p1 := (clR q n).1.pick_pos 20
 have p2 := ((clR q n).1.pick 20).1.pick_pos n
 have p3 := (((clR q n).1.pick 20).1.pick n).1.pick_pos 2
 have c1 := (clR q n).1.pick_code 20
 have c2 := ((clR q n).1.pick 20).1.pick_code n
 have c3 := (((clR q n).1.pick 20).1.pick n).1.pick_code 2
 unfold clD
 split
 ·split
  ·exact ⟨by dsimp only; omega, by dsimp only; omega, c1.trans h3, by simp⟩
  ·exact ⟨by dsimp only; omega, by dsimp only; omega, ((c3.trans c2).trans c1).trans h3, by simp⟩
 ·refine ⟨by dsimp only; omega, by dsimp only; omega, h3, ?_⟩
  dsimp only
  rw [List.length_take]; omega
abbrev zqr (n : Int) (c : List Int) : Prop := ∀ l ∈ c, -n <= l /\ l <= n
theorem zns {n v x : Int} (hv : 0 <= v /\ v <= n) (hx : 0 <= x /\ x < 2) : -n <= zpb v x /\ zpb v x <= n := by
 unfold zpb
 have : x = 0 \/ x = 1 := by omega
 rcases this with rfl | rfl <;> omega
theorem zi7 (q : Cu) : ∀ k : Nat, zqr k (clR q k).2
 | 0 => fun l hl => by simp [clR] at hl
 | k + 1 => by
  have h := zi7 q k
  rw [clR]
  split
  ·intro l hl
   rcases List.mem_append.1 hl with hl | hl
   ·have := h l hl; omega
   ·rw [List.mem_singleton.1 hl]
    exact zns (by omega) (Cu.pick_bd _ (by omega))
  ·intro l hl
   have := h l hl; omega
theorem zn4 (q : Cu) (n : Nat) (hn : 1 <= n) : zqr n (clD q n).2 := by
 unfold clD
 split
 ·split
  ·intro l hl; simp at hl
  ·intro l hl
   rw [List.mem_singleton.1 hl]
   have := Cu.pick_bd ((clR q n).1.pick 20).1 (n := n) (by omega)
   exact zns (by omega) (Cu.pick_bd _ (by omega))
 ·intro l hl
  exact zi7 q n l (List.mem_of_mem_take hl)
def zct (n : Nat) : Nat -> Cu × List (List Int) -> Cu × List (List Int)
 | 0, x => x
 | k + 1, x => zct n k ((clD x.1 n).1, x.2 ++ [(clD x.1 n).2])
def zh9 (n : Nat) : Nat -> Cu × List (List Int) -> Cu × List (List Int)
 | 0, x => x
 | k + 1, x => if (x.1.pick 2).2 = 0 then zh9 n k ((clD (clD (x.1.pick 2).1 n).1 2).1, x.2 ++ [(clD (x.1.pick 2).1 n).2] ++ [(clD (clD (x.1.pick 2).1 n).1 2).2]) else ((x.1.pick 2).1, x.2)
structure GdS (B : Nat) (n : Int) (N : Nat) (q : Cu) (x : Cu × List (List Int)) : Prop where
 pos : q.pos <= x.1.pos /\ x.1.pos <= q.pos + B
 code : x.1.code = q.code
 lits : ∀ c ∈ x.2, zqr n c /\ c.length <= 3
 len : x.2.length <= N
theorem GdS.put {B N : Nat} {n : Int} {q : Cu} {x : Cu × List (List Int)} (h : GdS B n N q x) {m : Nat} (hm : 1 <= m) (hn : (m : Int) <= n) : GdS (B + (2 * m + 3)) n (N + 1) q ((clD x.1 m).1, x.2 ++ [(clD x.1 m).2]) := by
 obtain ⟨p1, p2, p3, p4⟩ := zeg x.1 m
 have hl := zn4 x.1 m hm
 have h0 := h.pos
 refine ⟨⟨by dsimp only; omega, by dsimp only; omega⟩, p3.trans h.code, fun c hc => ?_, by have := h.len; simp; omega⟩
 rcases List.mem_append.1 hc with hc | hc
 ·exact h.lits c hc
 ·rw [List.mem_singleton.1 hc]
  exact ⟨fun l hl' => by have := hl l hl'; omega, p4⟩
theorem GdS.pick {B N : Nat} {n : Int} {q : Cu} {x : Cu × List (List Int)} (h : GdS B n N q x) (m : Int) : GdS (B + 1) n N q ((x.1.pick m).1, x.2) := by
 have p := x.1.pick_pos m
 have h0 := h.pos
 exact ⟨⟨by dsimp only; omega, by dsimp only; omega⟩, (x.1.pick_code m).trans h.code, h.lits, h.len⟩
theorem GdS.mono {B B' N N' : Nat} {n : Int} {q : Cu} {x : Cu × List (List Int)} (h : GdS B n N q x) (h1 : B <= B') (h2 : N <= N') : GdS B' n N' q x :=
 ⟨⟨h.pos.1, by have := h.pos.2; omega⟩, h.code, h.lits, by have := h.len; omega⟩
theorem zjm {n : Nat} (hn : 1 <= n) : ∀ (k : Nat) {B N : Nat} {q : Cu} {x : Cu × List (List Int)}, GdS B n N q x -> GdS (B + k * (2 * n + 3)) n (N + k) q (zct n k x)
 | 0, _, _, _, _, h => h.mono (by omega) (by omega)
 | k + 1, B, N, q, x, h => by
  rw [zct]
  exact (zjm hn k (h.put hn (Int.le_refl _))).mono (by rw [Nat.add_mul]; omega) (by omega)
theorem ziy {n : Nat} (hn : 2 <= n) : ∀ (k : Nat) {B N : Nat} {q : Cu} {x : Cu × List (List Int)}, GdS B n N q x -> GdS (B + k * (2 * n + 12)) n (N + 2 * k) q (zh9 n k x)
 | 0, _, _, _, _, h => h.mono (by omega) (by omega)
 | k + 1, B, N, q, x, h => by
  rw [zh9]
  split
  ·exact (ziy hn k (((h.pick 2).put (by omega) (Int.le_refl _)).put (m := 2) (by omega) (by omega))).mono (by rw [Nat.add_mul]; omega) (by omega)
  ·exact (h.pick 2).mono (by rw [Nat.add_mul]; omega) (by omega)
def zbr (q : Cu) : Cu × List (List Int) :=
 zh9 (2 + (q.pick 4).2.toNat) ((zct (2 + (q.pick 4).2.toNat) (1 + ((q.pick 4).1.pick 7).2.toNat) (((q.pick 4).1.pick 7).1, [])).1.pick 14).2.toNat
  (((zct (2 + (q.pick 4).2.toNat) (1 + ((q.pick 4).1.pick 7).2.toNat) (((q.pick 4).1.pick 7).1, [])).1.pick 14).1, (zct (2 + (q.pick 4).2.toNat) (1 + ((q.pick 4).1.pick 7).2.toNat) (((q.pick 4).1.pick 7).1, [])).2)
def zh6 : Nat -> Cu × List (List Int) -> Cu × List (List Int)
 | 0, x => x
 | k + 1, x => if (x.2.length : Int) < 40 + (x.1.pick 2).2 then zh6 k ((clD (x.1.pick 2).1 6).1, x.2 ++ [(clD (x.1.pick 2).1 6).2]) else ((x.1.pick 2).1, x.2)
def zkj (q : Cu) (l : List Int) : Cu × Int := ((q.pick l.length).1, l.getD (q.pick l.length).2.toNat 0)
def zn0 (q : Cu) : Cu × List (List Int) :=
 if ((zbr q).1.pick 30).2 = 0 then ((zkj ((zbr q).1.pick 30).1 [0, 13, -13]).1, (zbr q).2 ++ [[(zkj ((zbr q).1.pick 30).1 [0, 13, -13]).2]])
 else if ((zbr q).1.pick 30).2 = 1 then (((zbr q).1.pick 30).1, (zbr q).2 ++ [[2, 1]])
 else if ((zbr q).1.pick 30).2 = 2 then (((zbr q).1.pick 30).1, (zbr q).2 ++ [[1, -1]])
 else if ((zbr q).1.pick 30).2 = 3 then zh6 (42 - (zbr q).2.length) (((zbr q).1.pick 30).1, (zbr q).2)
 else if ((zbr q).1.pick 30).2 = 4 then (((zbr q).1.pick 30).1, (zbr q).2 ++ [[12], [-12, 7]])
 else (((zbr q).1.pick 30).1, (zbr q).2)
theorem zlk (q : Cu) : GdS 600 5 33 q (zbr q) := by
 have h1 := Cu.pick_bd q (n := 4) (by omega)
 have h2 := Cu.pick_bd (q.pick 4).1 (n := 7) (by omega)
 have g0 : GdS 0 (2 + (q.pick 4).2.toNat : Nat) 0 q (q, []) := ⟨by simp, rfl, by simp, Nat.le_refl _⟩
 have g1 := zjm (n := 2 + (q.pick 4).2.toNat) (by omega) (1 + ((q.pick 4).1.pick 7).2.toNat) ((g0.pick 4).pick 7)
 have h3 := Cu.pick_bd (zct (2 + (q.pick 4).2.toNat) (1 + ((q.pick 4).1.pick 7).2.toNat) (((q.pick 4).1.pick 7).1, [])).1 (n := 14) (by omega)
 have g2 := ziy (n := 2 + (q.pick 4).2.toNat) (by omega) ((zct (2 + (q.pick 4).2.toNat) (1 + ((q.pick 4).1.pick 7).2.toNat) (((q.pick 4).1.pick 7).1, [])).1.pick 14).2.toNat (g1.pick 14)
 change GdS _ _ _ q (zbr q) at g2
 generalize ((zct (2 + (q.pick 4).2.toNat) (1 + ((q.pick 4).1.pick 7).2.toNat) (((q.pick 4).1.pick 7).1, [])).1.pick 14).2 = z at h3 g2
 generalize ((q.pick 4).1.pick 7).2 = y at h2 g2
 generalize (q.pick 4).2 = x at h1 g2
 have hx : x.toNat <= 3 := by omega
 have hy : y.toNat <= 6 := by omega
 have hz : z.toNat <= 13 := by omega
 have e1 : (1 + y.toNat) * (2 * (2 + x.toNat) + 3) <= 7 * 13 := Nat.mul_le_mul (by omega) (by omega)
 have e2 : z.toNat * (2 * (2 + x.toNat) + 12) <= 13 * 22 := Nat.mul_le_mul hz (by omega)
 have g3 := g2.mono (B' := 600) (N' := 33) (by omega) (by omega)
 exact ⟨g3.pos, g3.code, fun c hc => ⟨fun l hl => by have := (g3.lits c hc).1 l hl; omega, (g3.lits c hc).2⟩, g3.len⟩
theorem zir : ∀ (k : Nat) {B N : Nat} {q : Cu} {x : Cu × List (List Int)}, GdS B 13 N q x -> GdS (B + k * 16) 13 (N + k) q (zh6 k x)
 | 0, _, _, _, _, h => h.mono (by omega) (by omega)
 | k + 1, B, N, q, x, h => by
  rw [zh6]
  split
  ·exact (zir k ((h.pick 2).put (m := 6) (by omega) (by omega))).mono (by rw [Nat.add_mul]; omega) (by omega)
  ·exact (h.pick 2).mono (by omega) (by omega)
theorem zil (q : Cu) : GdS 2000 13 80 q (zn0 q) := by
 have h := zlk q
 have h0 : GdS 600 13 33 q (zbr q) := ⟨h.pos, h.code, fun c hc => ⟨fun l hl => by have := (h.lits c hc).1 l hl; omega, (h.lits c hc).2⟩, h.len⟩
 have h1 := h0.pick 30
 have hl := h1.len
 have key : ∀ (q' : Cu) (cs : List (List Int)), (q'.pos <= ((zbr q).1.pick 30).1.pos + 1 /\ ((zbr q).1.pick 30).1.pos <= q'.pos) -> q'.code = ((zbr q).1.pick 30).1.code -> (∀ c ∈ cs, zqr 13 c /\ c.length <= 3) -> cs.length <= 2 -> GdS 2000 13 80 q (q', (zbr q).2 ++ cs) := fun q' cs k1 k2 k3 k4 => by
  have := h1.pos
  refine ⟨⟨by dsimp only at *; omega, by dsimp only at *; omega⟩, k2.trans h1.code, fun c hc => ?_, by dsimp only at *; rw [List.length_append]; omega⟩
  rcases List.mem_append.1 hc with hc | hc
  ·exact h1.lits c hc
  ·exact k3 c hc
 have hr : ((zbr q).1.pick 30).1.pos <= ((zbr q).1.pick 30).1.pos + 1 /\ ((zbr q).1.pick 30).1.pos <= ((zbr q).1.pick 30).1.pos := by omega
 unfold zn0
 split
 ·have p := ((zbr q).1.pick 30).1.pick_pos 3
  have b := Cu.pick_bd ((zbr q).1.pick 30).1 (n := 3) (by omega)
  refine key _ _ ?_ (Cu.pick_code _ _) (fun c hc => ?_) (by simp)
  ·unfold zkj; exact ⟨p.2, p.1⟩
  ·rw [List.mem_singleton.1 hc]
   refine ⟨fun l hl => ?_, by simp⟩
   rw [List.mem_singleton.1 hl]
   unfold zkj
   show -13 <= ([0, 13, -13] : List Int).getD (((zbr q).1.pick 30).1.pick 3).2.toNat 0 /\ ([0, 13, -13] : List Int).getD (((zbr q).1.pick 30).1.pick 3).2.toNat 0 <= 13
   have : (((zbr q).1.pick 30).1.pick 3).2 = 0 \/ (((zbr q).1.pick 30).1.pick 3).2 = 1 \/ (((zbr q).1.pick 30).1.pick 3).2 = 2 := by omega
   rcases this with e | e | e <;> rw [e] <;> decide
 ·split
  ·exact key _ _ hr rfl (by simp [zqr]) (by simp)
  ·split
   ·exact key _ _ hr rfl (by simp [zqr]) (by simp)
   ·split
    ·exact (zir (42 - (zbr q).2.length) h1).mono (by omega) (by omega)
    ·split
     ·exact key _ _ hr rfl (by simp [zqr]) (by simp)
     ·exact h1.mono (by omega) (by omega)
end Go.Proofs.Yteeaofpphmhjdaa
namespace Go.Proofs.Yteeaofpphmhjdaa
set_option linter.unusedSimpArgs false
set_option linter.unusedVariables false
set_option linter.unusedSectionVars false
set_option maxRecDepth 4000
open Go.RowKit
def inB (n lo hi : Int) : Bool := decide (lo <= n) && decide (n <= hi)
theorem ziv (n lo hi : Int) : FC Try.prog 71 [iD n, iD lo, iD hi] [bD (inB n lo hi)] := by
 unfold inB
 refine za8 Try.call71 Try.func71 rfl (by kernel_rfl) (zcn (by kernel_rfl)) ?_
 simp -implicitDefEqProofs only [go_sem, Try.results71]
 refine ⟨fun h => ?_, fun h => ?_⟩ <;> simp at h ⊢ <;> omega
theorem zqk (n lo hi : Int) : FC Try.prog 49 [iD n, iD lo, iD hi] [bD (inB n lo hi)] := by
 unfold inB
 refine za8 Try.call49 Try.func49 rfl (by kernel_rfl) (zcn (by kernel_rfl)) ?_
 simp -implicitDefEqProofs only [go_sem, Try.results49]
 refine ⟨fun h => ?_, fun h => ?_⟩ <;> simp at h ⊢ <;> omega
theorem zpx (a b : Int) : FC Try.prog 97 [iD a, iD b] [iD (max a b)] := by
 refine za8 Try.call97 Try.func97 rfl (by kernel_rfl) (zcn (by kernel_rfl)) ?_
 simp -implicitDefEqProofs only [go_sem, Try.results97]
 refine ⟨fun h => ?_, fun h => ?_⟩ <;> simp at h <;> exact zl4 (by omega)
end Go.Proofs.Yteeaofpphmhjdaa
namespace Go.Proofs.Yteeaofpphmhjdaa
set_option linter.unusedSimpArgs false
set_option linter.unusedVariables false
set_option linter.unusedSectionVars false
set_option maxRecDepth 4000
open Go.RowKit
theorem zgf {α : Type} {xs : List α} {s : α} {k : Nat} (hk : k < xs.length) (hn : s ∉ xs.take k) (e : xs[k] ≠ s) : s ∉ xs.take (k + 1) := by
 rw [List.take_succ_eq_append_getElem hk]
 simp only [List.mem_append, List.mem_singleton, not_or]
 exact ⟨hn, fun h => e h.symm⟩
end Go.Proofs.Yteeaofpphmhjdaa
namespace Go.Proofs.Yteeaofpphmhjdaa
set_option linter.unusedSimpArgs false
set_option linter.unusedVariables false
set_option linter.unusedSectionVars false
set_option maxRecDepth 4000
open Go.RowKit
abbrev zbu (xs : List Int) : T := .sl 1 (xs.map fun s => [.int .i64 s])
end Go.Proofs.Yteeaofpphmhjdaa
namespace Go.Proofs.Yteeaofpphmhjdaa
set_option linter.unusedSimpArgs false
set_option linter.unusedVariables false
set_option linter.unusedSectionVars false
set_option maxRecDepth 4000
open Go.RowKit
theorem zpu (σ : St) (caps : List T) : VDs σ (caps.map fun t => .one (.t t)) (caps.map .one) = True := by
 induction caps with
 | nil => simp [VDs]
 | cons t ts ih => rw [List.map_cons, List.map_cons, zi1, ih]; simp [zqq, CT_t]
attribute [go_sem] zpu
def zql {α : Type} (xs : List α) (p : α -> Bool) : Int := if xs.any p then xs.findIdx p else -1
theorem zfc {α : Type} {xs : List α} {p : α -> Bool} {k : Nat} (hk : k < xs.length) (hn : ∀ x ∈ xs.take k, p x = false) (h : p xs[k] = true) : zql xs p = k := by
 have ha : xs.any p = true := List.any_eq_true.2 ⟨xs[k], List.getElem_mem hk, h⟩
 have hf : xs.findIdx p = k := (List.findIdx_eq hk).2 ⟨h, fun j hj => hn _ (by
  rw [List.mem_take_iff_getElem]; exact ⟨j, by omega, rfl⟩)⟩
 rw [zql, if_pos ha, hf]
theorem zgq {α : Type} {xs : List α} {p : α -> Bool} (hn : ∀ x ∈ xs, p x = false) : zql xs p = -1 := by
 have ha : xs.any p = false := by rw [List.any_eq_false]; exact fun x hx => by simp [hn x hx]
 rw [zql, ha]; rfl
theorem zo5 {α : Type} (xs : List α) (p : α -> Bool) : decide (0 <= zql xs p) = xs.any p := by
 unfold zql
 cases xs.any p <;> simp
theorem zdc {α : Type} {xs : List α} {p : α -> Bool} {k : Nat} (hk : k < xs.length) (hn : ∀ x ∈ xs.take k, p x = false) (h : p xs[k] = false) : ∀ x ∈ xs.take (k + 1), p x = false := by
 rw [List.take_succ_eq_append_getElem hk]
 intro x hx
 rcases List.mem_append.1 hx with hx | hx
 ·exact hn x hx
 ·rw [List.mem_singleton.1 hx]; exact h
end Go.Proofs.Yteeaofpphmhjdaa
namespace Go.Proofs.Yteeaofpphmhjdaa
set_option linter.unusedSimpArgs false
set_option linter.unusedVariables false
set_option linter.unusedSectionVars false
set_option maxRecDepth 4000
open Go.RowKit
abbrev zbf (S : List (List Int)) : T := .sl 1 (S.map fun s => [zbu s])
abbrev zjy (l : List UInt8) : T := .sl 1 (l.map fun b => [T.int .u8 b.toNat])
theorem zb0 (n : Int) (h : -4611686018427387904 <= n /\ n <= 4611686018427387904) : FC Try.prog 96 [iD n] [iD (ab n)] := by
 refine za8 Try.call96 Try.func96 rfl (by kernel_rfl) (zcn (by kernel_rfl)) ?_
 simp -implicitDefEqProofs only [go_sem, Try.results96]
 rw [zap (by omega) (by omega)]
 exact zl4 (by unfold ab; omega)
theorem zpp (n : Int) (h : -4611686018427387904 <= n /\ n <= 4611686018427387904) : FC Try.prog 98 [iD n] [iD (ab n)] := by
 refine za8 Try.call98 Try.func98 rfl (by kernel_rfl) (zcn (by kernel_rfl)) ?_
 simp -implicitDefEqProofs only [go_sem, Try.results98]
 rw [zap (by omega) (by omega)]
 refine ⟨fun h => ?_, fun h => ?_⟩ <;> simp at h <;> exact zl4 (by unfold ab; omega)
def pv (c : List Int) (k : Nat) : Int := if k = 0 then 0 else ab (c.getD (k - 1) 0)
theorem zkm (c : List Int) {k : Nat} (h : k < c.length) : pv c (k + 1) = ab c[k] := by
 unfold pv
 rw [if_neg (by omega), Nat.add_sub_cancel, List.getD_eq_getElem?_getD, List.getElem?_eq_getElem h]; rfl
theorem ab_in {l : Int} (h : -12 <= l /\ l <= 12) (h0 : l ≠ 0) : 0 < ab l /\ ab l <= 12 := by unfold ab; omega
theorem ze2 (c : List Int) : FC Try.prog 55 [.one (zbu c)] [bD (pcl c)] := by
 refine zd9 (fun hw => ?_) Try.call55
 have hl : c.length <= 9223372036854775807 := by have := hw.1.1; simpa using this
 refine za8 Try.call55 Try.func55 rfl (by kernel_rfl) (zcn (by kernel_rfl)) ?_
 simp -implicitDefEqProofs only [go_sem, Try.results55]
 refine zak (fun k : Nat => hd [(0, vT (zbu c)), (5, vT (zbu c)), (6, vI c.length), (7, vI k)] [] []) (fun k => k <= c.length /\ pcl c = zkw (pv c k) (c.drop k) /\ (0 < k -> -12 <= c.getD (k - 1) 0 /\ c.getD (k - 1) 0 <= 12)) (fun k => c.length - k) 0 (zaf ?_) ?_ ?_
 ·simp -implicitDefEqProofs only [go_sem]
 ·exact ⟨Nat.zero_le _, rfl, fun h => absurd h (by omega)⟩
 ·intro k ⟨hk, hr, hpr⟩
  by_cases hlt : k < c.length
  ·have hsu := zkm c hlt
   have hgd : c.getD k 0 = c[k] := by rw [List.getD_eq_getElem?_getD, List.getElem?_eq_getElem hlt]; rfl
   rw [List.drop_eq_getElem_cons hlt] at hr
   unfold zkw at hr
   have HW := ziv c[k] (-12) 12
   cases h0 : (c[k] == (0 : Int))
   ·have h0' : c[k] ≠ 0 := by simpa using h0
    cases hwi : inB c[k] (-12) 12
    ·rw [hwi] at HW
     have hno : ¬ ab c[k] <= 12 := by
      unfold inB at hwi
      simp only [Bool.and_eq_false_iff, decide_eq_false_iff_not] at hwi
      unfold ab; omega
     simp -implicitDefEqProofs only [go_sem, zai, hlt, h0]
     refine callF (HW) (by simp -implicitDefEqProofs only [go_sem]) ?_
     simp -implicitDefEqProofs only [go_sem]
     rw [hr, show decide (ab c[k] <= 12) = false by simpa using hno]; simp
    ·rw [hwi] at HW
     have hin : -12 <= c[k] /\ c[k] <= 12 := by
      unfold inB at hwi
      simpa using hwi
     have hab := ab_in hin h0'
     have HA := zb0 c[k] (by omega)
     by_cases hk0 : k = 0
     ·have hkf : ((0 : Int) < (k : Int)) = False := by simp; omega
      simp -implicitDefEqProofs only [go_sem, zai, hlt, h0]
      refine callF (HW) (by simp -implicitDefEqProofs only [go_sem, hkf]) ?_
      simp -implicitDefEqProofs only [go_sem, hkf]
      rw [za0 (by omega)]
      refine ⟨k + 1, ⟨hlt, ?_, fun _ => ?_⟩, by omega, zaf (by simp -implicitDefEqProofs only [go_sem])⟩
      ·have hpv : pv c k = 0 := by unfold pv; rw [if_pos hk0]
       rw [hr, hsu, hpv, show decide (0 < ab c[k]) = true by simpa using hab.1, show decide (ab c[k] <= 12) = true by simpa using hab.2]; rfl
      ·rw [Nat.add_sub_cancel, hgd]; exact hin
     ·have hkp : (0 : Int) < k := by omega
      have hk1 : k - 1 < c.length := by omega
      have hw1 : IntKind.i64.wrap ((k : Int) - 1) = ((k - 1 : Nat) : Int) := by rw [zap (by omega) (by omega)]; omega
      have hg1 : c.getD (k - 1) 0 = c[k - 1] := by rw [List.getD_eq_getElem?_getD, List.getElem?_eq_getElem hk1]; rfl
      have hp1 := hpr (by omega)
      rw [hg1] at hp1
      have HB := zb0 c[k - 1] (by omega)
      have hpv : pv c k = ab c[k - 1] := by unfold pv; rw [if_neg hk0, hg1]
      rw [hpv] at hr
      simp -implicitDefEqProofs only [go_sem, zai, hlt, h0]
      refine callF (HW) (by simp -implicitDefEqProofs only [go_sem, hkp, hw1, hk1, zai]) ?_
      simp -implicitDefEqProofs only [go_sem, hkp, hw1, hk1, zai]
      refine callF (HB) (by simp -implicitDefEqProofs only [go_sem]) ?_
      simp -implicitDefEqProofs only [go_sem]
      refine callF (HA) (by simp -implicitDefEqProofs only [go_sem]) ?_
      simp -implicitDefEqProofs only [go_sem]
      rw [za0 (by omega)]
      refine ⟨fun h => ?_, fun h => ⟨k + 1, ⟨hlt, ?_, fun _ => ?_⟩, by omega, zaf (by simp -implicitDefEqProofs only [go_sem])⟩⟩
      ·have : ¬ ab c[k - 1] < ab c[k] := by simp at h; omega
       rw [hr, show decide (ab c[k - 1] < ab c[k]) = false by simpa using this]; simp
      ·have : ab c[k - 1] < ab c[k] := by simp at h; omega
       rw [hr, hsu, show decide (ab c[k - 1] < ab c[k]) = true by simpa using this, show decide (ab c[k] <= 12) = true by simpa using hab.2]; rfl
      ·rw [Nat.add_sub_cancel, hgd]; exact hin
   ·have h0' : c[k] = 0 := by simpa using h0
    have hpv : 0 <= pv c k := by unfold pv ab; split <;> omega
    simp -implicitDefEqProofs only [go_sem, zai, hlt, h0]
    rw [hr, show decide (pv c k < ab c[k]) = false by rw [h0']; unfold ab; simpa using hpv]; simp
  ·simp -implicitDefEqProofs only [go_sem, hlt]
   rw [hr, List.drop_of_length_le (by omega)]; rfl
end Go.Proofs.Yteeaofpphmhjdaa
namespace Go.Proofs.Yteeaofpphmhjdaa
set_option linter.unusedSimpArgs false
set_option linter.unusedVariables false
set_option linter.unusedSectionVars false
set_option maxRecDepth 4000
open Go.RowKit
abbrev bsD (l : List UInt8) : D := .one (zjy l)
theorem zod {d : PD} (h : za6 Try.prog 22 d) : ∃ l : List UInt8, d.cells = [zjy l] := by
 obtain ⟨xs, rfl, hx⟩ := h.sl Try.underlying22
 obtain ⟨l, hl⟩ := ze9 (fun b : UInt8 => [T.int .u8 b.toNat]) xs fun x hx' => by
  obtain ⟨n, rfl⟩ := (hx x hx').oct Try.underlying5
  exact ⟨n, by rw [PD.cells]⟩
 exact ⟨l, by rw [PD.cells, hl, show Try.prog.cellsOf 5 = 1 from by kernel_rfl]⟩
end Go.Proofs.Yteeaofpphmhjdaa
namespace Go.Proofs.Yteeaofpphmhjdaa
set_option linter.unusedSimpArgs false
set_option linter.unusedVariables false
set_option linter.unusedSectionVars false
set_option maxRecDepth 4000
open Go.RowKit
variable {P : Program}
inductive AF
 | d (b : Bool) (x : D)
 | p (j : Nat)
 | fn (g : FuncId) (js : List Nat)
def AF.ds : List AF -> List (Bool × D)
 | [] => []
 | .d b x :: l => (b, x) :: AF.ds l
 | .p _ :: l => AF.ds l
 | .fn _ _ :: l => AF.ds l
def zj4 (b : Nat) : Value := .pointer (some ⟨b, 0, none⟩)
def AF.vals (bs : Nat -> Nat) : List AF -> List Value -> List Value
 | [], _ => []
 | .d _ _ :: l, v :: vs => v :: AF.vals bs l vs
 | .d _ _ :: _, [] => []
 | .p j :: l, vs => zj4 (bs j) :: AF.vals bs l vs
 | .fn g js :: l, vs => .func (.func g) #[] ⟨js.map fun j => zj4 (bs j)⟩ :: AF.vals bs l vs
def AF.okJ (n : Nat) : List AF -> Bool
 | [] => true
 | .d _ _ :: l => AF.okJ n l
 | .p j :: l => decide (j < n) && AF.okJ n l
 | .fn _ js :: l => js.all (fun j => decide (j < n)) && AF.okJ n l
abbrev Bxs := List (List (Bool × T))
def zke (w : World) (bs : Nat -> Nat) : Nat -> List (List Value) -> Bxs -> Prop
 | _, [], [] => True
 | j, vs :: bvs, b :: bx => vs.length = b.length /\ (∃ ty, w.heap[bs j]? = some (.cells ⟨vs⟩ ty (0, 0))) /\ zke w bs (j + 1) bvs bx
 | _, _, _ => False
theorem zke.lt {w : World} {bs : Nat -> Nat} : ∀ {j : Nat} {bvs : List (List Value)} {bx : Bxs}, zke w bs j bvs bx -> ∀ i, i < bx.length -> bs (j + i) < w.heap.size
 | _, [], [], _, i, hi => by simp at hi
 | j, _ :: _, _ :: _, h, 0, hi => by obtain ⟨ty, h⟩ := h.2.1; exact (Array.getElem?_eq_some_iff.1 h).1
 | j, _ :: _, _ :: _, h, i + 1, hi => by rw [show j + (i + 1) = j + 1 + i by omega]; exact zke.lt h.2.2 i (by simpa using hi)
 | _, [], _ :: _, h, _, _ => h.elim
 | _, _ :: _, [], h, _, _ => h.elim
def PC (P : Program) (f : FuncId) (bx : Bxs) (l : List AF) (bx' : Bxs) (res : List (Bool × D)) : Prop := zbi P f /\ bx'.length = bx.length /\ ∀ (w : World) (bs : Nat -> Nat) (bvs : List (List Value)) (dvs : List Value) (fp tp : List Nat) (A : Nat -> Prop),
 (∀ i j, i < bx.length -> j < bx.length -> bs i = bs j -> i = j) -> (∀ j, j < bx.length -> bs j ∉ fp) -> zke w bs 0 bvs bx →
 zal w (fun k => (k < w.heap.size /\ k ∉ fp /\ ∀ j, j < bx.length -> k ≠ bs j) /\ A k) (AF.ds l ++ bxA bx.flatten) (dvs ++ bvs.flatten) fp tp -> fp.Nodup -> dvs.length = (AF.ds l).length →
 Calls P f ⟨AF.vals bs l dvs⟩ w fun e w' => ∃ us bvs' fp' tp', e = .returned (zbv us) /\ zke w' bs 0 bvs' bx' /\ us.length = res.length ∧
  zal w' (fun k => (k < w'.heap.size /\ k ∉ fp' /\ ∀ j, j < bx.length -> k ≠ bs j) /\ (A k \/ w.heap.size <= k \/ k ∈ fp)) (res ++ bxA bx'.flatten) (us ++ bvs'.flatten) fp' tp' /\ fp'.Nodup /\ (∀ b ∈ fp', b ∈ fp \/ w.heap.size <= b) ∧
  Bk (fun k => k < w.heap.size /\ k ∉ fp /\ ∀ j, j < bx.length -> k ≠ bs j) w w'
def c1P (k : Nat) : Bool × T -> C
 | (true, t) => owC k 0 t
 | (false, t) => t.toN
def ziz : Nat -> List (Bool × T) -> List C
 | _, [] => []
 | k, p :: ps => c1P k p :: ziz (k + 1) ps
def zem : Nat -> Nat -> Bxs -> Nat -> Option (List C)
 | _, _, [] => fun _ => none
 | j, k, b :: bs => upd (zem (j + 1) (k + b.length) bs) (1000000 + j) (some (ziz k b))
def zbe : Nat -> Nat -> List AF -> Nat -> V
 | _, _, [] => fun _ => .one .any
 | i, k, .d b x :: l => upd (zbe (i + 1) (k + 1) l) i (gVN k (b, x))
 | i, k, .p j :: l => upd (zbe (i + 1) k l) i (.one (.bx (1000000 + j) 0))
 | i, k, .fn g js :: l => upd (zbe (i + 1) k l) i (.one (.fn g (js.map (1000000 + ·))))
def zdq : Nat -> Bxs -> (Nat -> V) -> Nat -> V
 | _, [], f => f
 | j, _ :: bs, f => upd (zdq (j + 1) bs f) (1000000 + j) (.one (.bx (1000000 + j) 0))
def zc0 (l : List AF) (bx : Bxs) : St := ⟨zdq 0 bx (zbe 0 0 l), zem 0 (AF.ds l).length bx, zc8 0 (AF.ds l ++ bxA bx.flatten)⟩
theorem zrr (k : Nat) (p : Bool × T) : gVN k (p.1, .one p.2) = .one (c1P k p) := by obtain ⟨b, t⟩ := p; cases b <;> rfl
theorem zht : ∀ (bx : Bxs) (j : Nat) (f : Nat -> V) (i : Nat), ((∃ q, q < bx.length /\ i = 1000000 + (j + q)) /\ zdq j bx f i = .one (.bx i 0)) \/ ((∀ q, q < bx.length -> i ≠ 1000000 + (j + q)) /\ zdq j bx f i = f i)
 | [], j, f, i => Or.inr ⟨fun q hq => by simp at hq, rfl⟩
 | b :: bx, j, f, i => by
  by_cases hi : i = 1000000 + j
  ·subst hi
   exact Or.inl ⟨⟨0, by simp, rfl⟩, by unfold zdq; rw [zac]⟩
  ·unfold zdq
   rw [zae _ _ hi]
   rcases zht bx (j + 1) f i with ⟨⟨q, h1, h2⟩, h3⟩ | ⟨h1, h2⟩
   ·exact Or.inl ⟨⟨q + 1, by simp; omega, by omega⟩, h3⟩
   ·refine Or.inr ⟨fun q hq => ?_, h2⟩
    cases q with
    | zero => exact hi
    | succ q => have := h1 q (by simpa using hq); omega
theorem zg5 : ∀ (bx : Bxs) (j k b : Nat), zem j k bx b ≠ none ↔ ∃ q, q < bx.length /\ b = 1000000 + (j + q)
 | [], j, k, b => ⟨fun h => absurd rfl h, fun ⟨q, hq, _⟩ => by simp at hq⟩
 | c :: bx, j, k, b => by
  unfold zem
  by_cases hi : b = 1000000 + j
  ·subst hi; rw [zac]; exact ⟨fun _ => ⟨0, by simp, rfl⟩, fun _ => by simp⟩
  ·rw [zae _ _ hi, zg5 bx (j + 1) _ b]
   refine ⟨fun ⟨q, h1, h2⟩ => ⟨q + 1, by simp; omega, by omega⟩, fun ⟨q, h1, h2⟩ => ?_⟩
   cases q with
   | zero => exact absurd h2 hi
   | succ q => exact ⟨q, by simpa using h1, by omega⟩
theorem ze6 {σ : St} {g : Gh} {w : World} : ∀ {b : List (Bool × T)} {vs : List Value} {k : Nat}, vs.length = b.length -> (∀ i p v, b[i]? = some p -> vs[i]? = some v -> CR σ g w (c1P (k + i) p) v) -> CRs σ g w (ziz k b) vs
 | [], vs, _, hl, _ => List.length_eq_zero_iff.1 hl
 | p :: b, [], _, hl, _ => by simp at hl
 | p :: b, v :: vs, k, hl, h => ⟨v, vs, rfl, by simpa using h 0 p v rfl rfl, ze6 (by simpa using hl) fun i q u h1 h2 => by
   have := h (i + 1) q u (by simpa using h1) (by simpa using h2)
   rw [show k + (i + 1) = k + 1 + i by omega] at this
   exact this⟩
theorem zgt {σ : St} {g : Gh} {w : World} {bs : Nat -> Nat} : ∀ (bx : Bxs) (bvs : List (List Value)) (j k : Nat), zke w bs j bvs bx -> (∀ i p v, bx.flatten[i]? = some p -> bvs.flatten[i]? = some v -> CR σ g w (c1P (k + i) p) v) →
  ∀ b cs, zem j k bx b = some cs -> ∃ q vs ty, q < bx.length /\ b = 1000000 + (j + q) /\ w.heap[bs (j + q)]? = some (.cells ⟨vs⟩ ty (0, 0)) /\ CRs σ g w cs vs
 | [], _, _, _, _, _, b, cs, h => by cases h
 | c :: bx, [], _, _, h0, _, _, _, _ => h0.elim
 | c :: bx, vs :: bvs, j, k, h0, hc, b, cs, h => by
  obtain ⟨h1, ⟨ty, h2⟩, h3⟩ := h0
  unfold zem at h
  by_cases hi : b = 1000000 + j
  ·subst hi
   rw [zac] at h
   cases h
   refine ⟨0, vs, ty, by simp, rfl, h2, ze6 h1 fun i p v e1 e2 => hc i p v ?_ ?_⟩
   ·rw [List.flatten_cons, List.getElem?_append_left (List.getElem?_eq_some_iff.1 e1).1]; exact e1
   ·rw [List.flatten_cons, List.getElem?_append_left (List.getElem?_eq_some_iff.1 e2).1]; exact e2
  ·rw [zae _ _ hi] at h
   obtain ⟨q, vs', ty', k1, k2, k3, k4⟩ := zgt bx bvs (j + 1) (k + c.length) h3 (fun i p v e1 e2 => by
    have := hc (c.length + i) p v (by rw [List.flatten_cons, List.getElem?_append_right (by omega), show c.length + i - c.length = i by omega]; exact e1) (by rw [List.flatten_cons, List.getElem?_append_right (by omega), show c.length + i - vs.length = i by omega]; exact e2)
    rw [show k + (c.length + i) = k + c.length + i by omega] at this
    exact this) b cs h
   exact ⟨q + 1, vs', ty', by simp; omega, by omega, by rw [show j + (q + 1) = j + 1 + q by omega]; exact k3, k4⟩
theorem zcm : ∀ (l : List AF) (i0 k i : Nat), l.length <= i -> zbe i0 k l (i0 + i) = .one .any
 | [], _, _, _, _ => rfl
 | a :: l, i0, k, 0, h => by simp at h
 | .d b x :: l, i0, k, i + 1, h => by unfold zbe; rw [zae _ _ (by omega), show i0 + (i + 1) = i0 + 1 + i by omega]; exact zcm l _ _ i (by simpa using h)
 | .p j :: l, i0, k, i + 1, h => by unfold zbe; rw [zae _ _ (by omega), show i0 + (i + 1) = i0 + 1 + i by omega]; exact zcm l _ _ i (by simpa using h)
 | .fn g js :: l, i0, k, i + 1, h => by unfold zbe; rw [zae _ _ (by omega), show i0 + (i + 1) = i0 + 1 + i by omega]; exact zcm l _ _ i (by simpa using h)
theorem zcy {σ : St} {g : Gh} {w : World} {bs : Nat -> Nat} {n : Nat} (hb : ∀ j, j < n -> σ.bx (1000000 + j) ≠ none /\ g.β (1000000 + j) = bs j) : ∀ (l : List AF) (i0 k : Nat) (dvs : List Value), AF.okJ n l = true -> dvs.length = (AF.ds l).length -> (∀ i d v, (AF.ds l)[i]? = some d -> dvs[i]? = some v -> VR σ g w (gVN (k + i) d) v) →
  ∀ i, i < l.length -> ∃ v, (AF.vals bs l dvs)[i]? = some v /\ VR σ g w (zbe i0 k l (i0 + i)) v
 | [], _, _, _, _, _, _, i, hi => by simp at hi
 | .d b x :: l, i0, k, [], _, hl, _, i, hi => by simp [AF.ds] at hl
 | .d b x :: l, i0, k, v :: dvs, ho, hl, h, i, hi => by
  cases i with
  | zero => exact ⟨v, rfl, by unfold zbe; show VR σ g w (upd _ i0 _ i0) v; rw [zac]; simpa using h 0 (b, x) v rfl rfl⟩
  | succ i =>
   obtain ⟨u, k1, k2⟩ := zcy hb l (i0 + 1) (k + 1) dvs ho (by simpa [AF.ds] using hl) (fun i d v h1 h2 => by
    have := h (i + 1) d v (by simpa [AF.ds] using h1) (by simpa using h2)
    rw [show k + (i + 1) = k + 1 + i by omega] at this
    exact this) i (by simpa using hi)
   exact ⟨u, by unfold AF.vals; simpa using k1, by unfold zbe; rw [zae _ _ (by omega), show i0 + (i + 1) = i0 + 1 + i by omega]; exact k2⟩
 | .p j :: l, i0, k, dvs, ho, hl, h, i, hi => by
  unfold AF.okJ at ho
  rw [Bool.and_eq_true, decide_eq_true_eq] at ho
  cases i with
  | zero => exact ⟨_, rfl, by unfold zbe; show VR σ g w (upd _ i0 _ i0) _; rw [zac]; exact ⟨by rw [(hb j ho.1).2]; rfl, (hb j ho.1).1⟩⟩
  | succ i =>
   obtain ⟨u, k1, k2⟩ := zcy hb l (i0 + 1) k dvs ho.2 hl h i (by simpa using hi)
   exact ⟨u, by unfold AF.vals; simpa using k1, by unfold zbe; rw [zae _ _ (by omega), show i0 + (i + 1) = i0 + 1 + i by omega]; exact k2⟩
 | .fn f js :: l, i0, k, dvs, ho, hl, h, i, hi => by
  unfold AF.okJ at ho
  rw [Bool.and_eq_true, List.all_eq_true] at ho
  cases i with
  | zero =>
   refine ⟨_, rfl, ?_⟩
   unfold zbe
   show VR σ g w (upd _ i0 _ i0) _
   rw [zac]
   refine ⟨?_, fun b hb' => ?_⟩
   ·rw [List.map_map]
    congr 2
    refine List.map_congr_left fun j hj => ?_
    show zj4 (bs j) = .pointer (some ⟨g.β (1000000 + j), 0, none⟩)
    rw [(hb j (by simpa using ho.1 j hj)).2]
    rfl
   ·obtain ⟨j, hj, rfl⟩ := List.mem_map.1 hb'
    exact (hb j (by simpa using ho.1 j hj)).1
  | succ i =>
   obtain ⟨u, k1, k2⟩ := zcy hb l (i0 + 1) k dvs ho.2 hl h i (by simpa using hi)
   exact ⟨u, by unfold AF.vals; simpa using k1, by unfold zbe; rw [zae _ _ (by omega), show i0 + (i + 1) = i0 + 1 + i by omega]; exact k2⟩
theorem AF.vals_len (bs : Nat -> Nat) : ∀ (l : List AF) (dvs : List Value), dvs.length = (AF.ds l).length -> (AF.vals bs l dvs).length = l.length
 | [], _, _ => rfl
 | .d _ _ :: l, [], h => by simp [AF.ds] at h
 | .d _ _ :: l, v :: vs, h => by simp [AF.vals, AF.vals_len bs l vs (by simpa [AF.ds] using h)]
 | .p _ :: l, vs, h => by simp [AF.vals, AF.vals_len bs l vs h]
 | .fn _ _ :: l, vs, h => by simp [AF.vals, AF.vals_len bs l vs h]
def T.fs : T -> Bool
 | .sl _ _ => true
 | t => t.flat
def gFS : List (Bool × D) -> Bool
 | [] => true
 | (false, _) :: ds => gFS ds
 | (true, .one t) :: ds => t.fs && gFS ds
 | (true, .agg ts) :: ds => ts.all T.fs && gFS ds
theorem zjn : ∀ {ds : List (Bool × D)}, gFS ds = true -> ∀ (i : Nat) d, ds[i]? = some (true, d) -> match d with | .one t => t.fs = true | .agg ts => ts.all T.fs = true
 | [], _, i, d, h => by simp at h
 | (false, x) :: ds, hg, 0, d, h => by simp at h
 | (false, x) :: ds, hg, i + 1, d, h => zjn (ds := ds) hg i d (by simpa using h)
 | (true, .one t) :: ds, hg, 0, d, h => by
  simp only [List.getElem?_cons_zero, Option.some.injEq, Prod.mk.injEq, true_and] at h
  subst h
  exact ((Bool.and_eq_true _ _).mp hg).1
 | (true, .agg t) :: ds, hg, 0, d, h => by
  simp only [List.getElem?_cons_zero, Option.some.injEq, Prod.mk.injEq, true_and] at h
  subst h
  exact ((Bool.and_eq_true _ _).mp hg).1
 | (true, .one t) :: ds, hg, i + 1, d, h => zjn (ds := ds) ((Bool.and_eq_true _ _).mp hg).2 i d (by simpa using h)
 | (true, .agg t) :: ds, hg, i + 1, d, h => zjn (ds := ds) ((Bool.and_eq_true _ _).mp hg).2 i d (by simpa using h)
theorem zi4 {σ σ' : St} {g g' : Gh} {w : World} (he : σ'.ev = σ.ev) (hψ : g'.ψ = g.ψ) {k j : Nat} {t : T} {v : Value} (ht : t.fs = true) (h : CR σ g w (owC k j t) v) : CR σ' g' w (owC k j t) v := by
 cases t
 case sl => exact ⟨by rw [hψ]; exact h.1, by obtain ⟨x, h1, h2⟩ := h.2; exact ⟨x, by rw [he]; exact h1, h2⟩⟩
 all_goals exact zf6 (A := Fix σ g w) (w := w) ht h
theorem zhj {σ σ' : St} {g g' : Gh} {w : World} (he : σ'.ev = σ.ev) (hψ : g'.ψ = g.ψ) {k : Nat} : ∀ {ts : List T} {j : Nat} {vs : List Value}, ts.all T.fs = true -> CRs σ g w (zge k j ts) vs -> CRs σ' g' w (zge k j ts) vs
 | [], _, _, _, h => h
 | t :: ts, j, vs, ht, h => by
  rw [List.all_cons, Bool.and_eq_true] at ht
  obtain ⟨v, vs', rfl, h1, h2⟩ := h
  exact ⟨v, vs', rfl, zi4 he hψ ht.1 h1, zhj he hψ ht.2 h2⟩
theorem zgh (d : Nat) : ∀ (ts : List T) (j : Nat) (f : Nat -> Option Ev), (∀ e x, f e = some x -> x.deep = true /\ x.on = true) -> ∀ e x, owE d j ts f e = some x -> x.deep = true /\ x.on = true
 | [], _, f, h, e, x, hx => h e x hx
 | t :: ts, j, f, h, e, x, hx => zgh d ts (j + 1) _ (fun e x hx => by
   cases t <;> first | exact h e x hx | skip
   rename_i sz rows
   by_cases he : e = d * 32 + j
   ·subst he; simp only [zh8, zac, Option.some.injEq] at hx; subst hx; exact ⟨rfl, rfl⟩
   ·simp only [zh8, zae _ _ he] at hx; exact h e x hx) e x hx
theorem zci : ∀ (ds : List (Bool × D)) (k e : Nat) (x : Ev), zc8 k ds e = some x -> x.deep = true /\ x.on = true
 | [], _, _, _, h => by cases h
 | (false, _) :: ds, k, e, x, h => zci ds (k + 1) e x h
 | (true, .one t) :: ds, k, e, x, h => zgh k [t] 0 _ (fun e x hx => zci ds (k + 1) e x hx) e x h
 | (true, .agg ts) :: ds, k, e, x, h => zgh k ts 0 _ (fun e x hx => zci ds (k + 1) e x hx) e x h
theorem zhe {w : World} {l : List AF} {bx : Bxs} {bs : Nat -> Nat} {bvs : List (List Value)} {dvs : List Value} {fp tp : List Nat} {A : Nat -> Prop} {N : Nat} (hinj : ∀ i j, i < bx.length -> j < bx.length -> bs i = bs j -> i = j) (hbf : ∀ j, j < bx.length -> bs j ∉ fp) (hbx : zke w bs 0 bvs bx)
  (hv : zal w (fun k => (k < w.heap.size /\ k ∉ fp /\ ∀ j, j < bx.length -> k ≠ bs j) /\ A k) (AF.ds l ++ bxA bx.flatten) (dvs ++ bvs.flatten) fp tp) (hn : fp.Nodup) (hl : dvs.length = (AF.ds l).length) (hj : AF.okJ bx.length l = true) (hN : l.length <= N) (hN2 : N <= 1000000) (hs : zay (AF.ds l ++ bxA bx.flatten)) (hfs : gFS (AF.ds l ++ bxA bx.flatten) = true)
  {ξ : Nat -> Value} (h1 : ∀ i, i < 1000000 -> ξ i = undef) (h2 : ∀ i b, ξ i ≠ .bool b) (h3 : ∀ j, j < bx.length -> ξ (1000000 + j) = zj4 (bs j)) :
  ∃ g, (g.A0, g.R0) = (fun b => A b \/ w.heap.size <= b \/ b ∈ fp \/ ∃ j, j < bx.length /\ b = bs j, ⟨fun b => b ∈ fp \/ w.heap.size <= b \/ ∃ j, j < bx.length /\ b = bs j, ξ, h1, h2⟩) ∧
   Rel (fun b => b < w.heap.size /\ b ∉ fp /\ ∀ j, j < bx.length -> b ≠ bs j) N (zc0 l bx) g { tmps := (⟨AF.vals bs l dvs⟩ : Array Value) ++ Array.replicate (N - (AF.vals bs l dvs).length) undef, defers := [] } w := by
 have hv' : zal w (fun b => b < w.heap.size /\ (A b /\ ∀ j, j < bx.length -> b ≠ bs j) /\ b ∉ fp) (AF.ds l ++ bxA bx.flatten) (dvs ++ bvs.flatten) fp tp := zal.keepA (fun b hb => ⟨hb.1.1, ⟨hb.2, hb.1.2.2⟩, hb.1.2.1⟩) hv
 obtain ⟨g, hg, hR⟩ := Rel.start (N := (AF.ds l ++ bxA bx.flatten).length) (A0 := fun b => A b \/ w.heap.size <= b \/ b ∈ fp \/ ∃ j, j < bx.length /\ b = bs j) (R0 := ⟨fun b => b ∈ fp \/ w.heap.size <= b \/ ∃ j, j < bx.length /\ b = bs j, ξ, h1, h2⟩) hv' hn hs (Nat.le_refl _) (fun b hb => Or.inl hb.1) (fun b hb => ⟨Or.inr (Or.inr (Or.inl hb)), Or.inl hb⟩) (fun b hb => by
  by_cases hlt : b < w.heap.size
  ·have hm : b ∈ fp := Classical.byContradiction fun h => hb ⟨hlt, h⟩
   exact ⟨Or.inr (Or.inr (Or.inl hm)), Or.inl hm⟩
  ·exact ⟨Or.inr (Or.inl (by omega)), Or.inr (Or.inl (by omega))⟩)
 have hg1 : g.A0 = _ := (Prod.mk.inj hg).1
 have hg2 : g.R0 = _ := (Prod.mk.inj hg).2
 refine ⟨{ g with β := fun k => bs (k - 1000000) }, hg, ?_⟩
 have hlen : (dvs ++ bvs.flatten).length = (AF.ds l ++ bxA bx.flatten).length := zal.len hv
 have hbne : ∀ b, (zc0 l bx).bx b ≠ none ↔ ∃ q, q < bx.length /\ b = 1000000 + q := fun b => by
  have := zg5 bx 0 (AF.ds l).length b
  simp only [Nat.zero_add] at this
  exact this
 have hblt : ∀ q, q < bx.length -> bs q < w.heap.size := fun q hq => by have := hbx.lt q hq; rwa [Nat.zero_add] at this
 have hdeep : ∀ e x, (zc0 l bx).ev e = some x -> x.deep = true /\ x.on = true := fun e x hx => zci _ _ e x hx
 have hφ : ∀ e, (zc0 l bx).On e -> ∀ b ∈ g.φ e, ¬ (b < w.heap.size /\ b ∉ fp) := fun e he b hb => hR.etop e he b hb
 have hfree : ∀ b, ((b < w.heap.size /\ b ∉ fp /\ ∀ j, j < bx.length -> b ≠ bs j) /\ A b) -> zcx (zc0 l bx) { g with β := fun k => bs (k - 1000000) } w b := fun b hb => by
  refine ⟨⟨fun k hk => ?_, fun e x hx ho hh => hφ e ⟨x, hx, ho⟩ b (List.mem_of_mem_head? hh) ⟨hb.1.1, hb.1.2.1⟩, hb.1.1, ?_⟩, fun e he hm => hφ e he b hm ⟨hb.1.1, hb.1.2.1⟩⟩
  ·obtain ⟨q, hq, rfl⟩ := (hbne k).1 hk
   show bs (1000000 + q - 1000000) ≠ b
   rw [show 1000000 + q - 1000000 = q by omega]
   exact fun e => hb.1.2.2 q hq e.symm
  ·show g.A0 b
   rw [hg1]
   exact Or.inl hb.2
 have hat : ∀ (i : Nat) d v, (AF.ds l ++ bxA bx.flatten)[i]? = some d -> (dvs ++ bvs.flatten)[i]? = some v -> VR (zc0 l bx) { g with β := fun k => bs (k - 1000000) } w (gVN i d) v := fun i d v hd hv1 => by
  obtain ⟨b, d⟩ := d
  cases b with
  | false =>
   obtain ⟨u, e1, e2⟩ := zal.atR hv i d hd
   rw [e1] at hv1
   cases hv1
   exact zqx hfree e2
  | true =>
   have h0 := hR.slots i
   have hj0 := zf9 (AF.ds l ++ bxA bx.flatten) 0 i
   rw [Nat.zero_add, hd] at hj0
   have h0' : VR (zdl (AF.ds l ++ bxA bx.flatten)) g w (ze0 0 (AF.ds l ++ bxA bx.flatten) i) _ := h0
   rw [hj0] at h0'
   have hlt : i < (dvs ++ bvs.flatten).length := (List.getElem?_eq_some_iff.1 hv1).1
   have e : ((⟨dvs ++ bvs.flatten⟩ : Array Value) ++ Array.replicate ((AF.ds l ++ bxA bx.flatten).length - (dvs ++ bvs.flatten).length) undef).getD i (g.R0.ξ i) = v := by
    rw [Array.getD_eq_getD_getElem?, Array.getElem?_append_left (by simpa using hlt)]
    simp only [List.getElem?_toArray, hv1, Option.getD_some]
   rw [e] at h0'
   have hf := zjn hfs i d hd
   cases d with
   | one t => exact zi4 (σ := zdl (AF.ds l ++ bxA bx.flatten)) (σ' := zc0 l bx) (g := g) (g' := { g with β := fun k => bs (k - 1000000) }) rfl rfl hf h0'
   | agg ts => obtain ⟨a, e1, e2⟩ := h0'; exact ⟨a, e1, zhj (σ := zdl (AF.ds l ++ bxA bx.flatten)) (σ' := zc0 l bx) (g := g) (g' := { g with β := fun k => bs (k - 1000000) }) rfl rfl hf e2⟩
 have hvl := AF.vals_len bs l dvs hl
 refine ⟨rfl, by simp; omega, fun b hb => ?_, fun i => ?_, fun b cs hb => ?_, fun b hb => ?_, fun b b' hb hb' he => ?_, fun e x he ho => ?_, fun e x he ho => ?_, hR.slc, fun e he b hb => ?_, fun e he b hb => ?_, fun e he => hR.nodup e he, fun e e' h1 h2 hne => hR.apart e e' h1 h2 hne, fun e k he hk hm => ?_⟩
 ·show g.A0 b /\ g.R0 b
  rw [hg1, hg2]
  show (A b \/ _) /\ (b ∈ fp \/ _)
  by_cases hlt : b < w.heap.size
  ·by_cases hm : b ∈ fp
   ·exact ⟨Or.inr (Or.inr (Or.inl hm)), Or.inl hm⟩
   ·have : ∃ j, j < bx.length /\ b = bs j := Classical.byContradiction fun hh => hb ⟨hlt, hm, fun j hj e => hh ⟨j, hj, e⟩⟩
    exact ⟨Or.inr (Or.inr (Or.inr this)), Or.inr (Or.inr this)⟩
  ·exact ⟨Or.inr (Or.inl (by omega)), Or.inr (Or.inl (by omega))⟩
 ·show VR _ _ _ (zdq 0 bx (zbe 0 0 l) i) _
  rcases zht bx 0 (zbe 0 0 l) i with ⟨⟨q, h4, rfl⟩, h5⟩ | ⟨_, h5⟩
  ·rw [h5, Nat.zero_add, Array.getD_eq_getD_getElem?, Array.getElem?_eq_none (by simp; omega)]
   refine ⟨?_, (hbne _).2 ⟨q, h4, rfl⟩⟩
   show (none : Option Value).getD (g.R0.ξ (1000000 + q)) = .pointer (some ⟨bs (1000000 + q - 1000000), 0, none⟩)
   rw [hg2, show 1000000 + q - 1000000 = q by omega]
   exact h3 q h4
  ·rw [h5]
   by_cases hi : i < l.length
   ·obtain ⟨u, e1, e2⟩ := zcy (σ := zc0 l bx) (g := { g with β := fun k => bs (k - 1000000) }) (w := w) (bs := bs) (n := bx.length) (fun j hj => ⟨(hbne _).2 ⟨j, hj, rfl⟩, by show bs (1000000 + j - 1000000) = bs j; rw [show 1000000 + j - 1000000 = j by omega]⟩) l 0 0 dvs hj hl (fun i d v e1 e2 => by
     rw [Nat.zero_add]
     exact hat i d v (by rw [List.getElem?_append_left (List.getElem?_eq_some_iff.1 e1).1]; exact e1) (by rw [List.getElem?_append_left (List.getElem?_eq_some_iff.1 e2).1]; exact e2)) i hi
    rw [Nat.zero_add] at e2
    rw [Array.getD_eq_getD_getElem?, Array.getElem?_append_left (by simp; omega)]
    simp only [List.getElem?_toArray, e1, Option.getD_some]
    exact e2
   ·have := zcm l 0 0 i (by omega)
    rw [Nat.zero_add] at this
    rw [this]
    trivial
 ·obtain ⟨q, vs, ty, k1, k2, k3, k4⟩ := zgt (σ := zc0 l bx) (g := { g with β := fun k => bs (k - 1000000) }) bx bvs 0 (AF.ds l).length hbx (fun i p v e1 e2 => by
   have := hat ((AF.ds l).length + i) (p.1, .one p.2) v (by rw [List.getElem?_append_right (by omega), show (AF.ds l).length + i - (AF.ds l).length = i by omega]; unfold bxA; rw [List.getElem?_map, e1]; rfl) (by rw [List.getElem?_append_right (by omega), show (AF.ds l).length + i - dvs.length = i by omega]; exact e2)
   rw [zrr] at this
   exact this) b cs hb
  rw [Nat.zero_add] at k2 k3
  subst k2
  exact ⟨⟨vs⟩, ty, by show w.heap[bs (1000000 + q - 1000000)]? = _; rw [show 1000000 + q - 1000000 = q by omega]; exact k3, k4⟩
 ·obtain ⟨q, hq, rfl⟩ := (hbne b).1 hb
  intro h
  have h := h.2.2 q hq
  exact h (show bs (1000000 + q - 1000000) = bs q by rw [show 1000000 + q - 1000000 = q by omega])
 ·obtain ⟨q, hq, rfl⟩ := (hbne b).1 hb
  obtain ⟨q', hq', rfl⟩ := (hbne b').1 hb'
  have he : bs (1000000 + q - 1000000) = bs (1000000 + q' - 1000000) := he
  rw [show 1000000 + q - 1000000 = q by omega, show 1000000 + q' - 1000000 = q' by omega] at he
  rw [hinj q q' hq hq' he]
 ·obtain ⟨ao, cap, e1, e2, e3, e4⟩ := hR.evs e x he ho
  refine ⟨ao, cap, e1, e2, e3, ?_⟩
  rcases e4 with e4 | ⟨b, cells, ty, fps, j1, j2, j3, j4, j5⟩
  ·exact Or.inl e4
  ·rw [if_pos (hdeep e x he).1] at j5
   exact Or.inr ⟨b, cells, ty, fps, j1, j2, j3, j4, by rw [if_pos (hdeep e x he).1]; exact j5⟩
 ·rw [(hdeep e x he).2] at ho; cases ho
 ·exact hR.ebase e he b hb
 ·exact fun h => hφ e he b hb ⟨h.1, h.2.1⟩
 ·obtain ⟨q, hq, rfl⟩ := (hbne k).1 hk
  have hm : bs (1000000 + q - 1000000) ∈ g.φ e := hm
  rw [show 1000000 + q - 1000000 = q by omega] at hm
  exact hφ e he _ hm ⟨hblt q hq, hbf q hq⟩
def bxE (σ : St) : Nat -> Bxs -> (List V -> Prop) -> Prop
 | _, [], K => K []
 | j, b :: bs, K => σ.sl (1000000 + j) = .one (.bx (1000000 + j) 0) /\ zao (σ.bx (1000000 + j)) fun cs => cs.length = b.length /\ bxE σ (j + 1) bs fun vs => K (cs.map .one ++ vs)
theorem CRs.ones {σ : St} {g : Gh} {w : World} : ∀ {cs : List C} {vs : List Value}, CRs σ g w cs vs -> VRl σ g w (cs.map .one) vs
 | [], _, h => h
 | c :: cs, _, h => by obtain ⟨v, vs', rfl, h1, h2⟩ := h; exact ⟨v, vs', rfl, h1, CRs.ones h2⟩
theorem zen {n0 : Nat -> Prop} {N : Nat} {σ : St} {g : Gh} {a : Act} {w : World} {bs : Nat -> Nat} (hR : Rel n0 N σ g a w) (hN : N <= 1000000) : ∀ {bx : Bxs} {j : Nat} {K : List V -> Prop}, (∀ q, q < bx.length -> g.R0.ξ (1000000 + (j + q)) = zj4 (bs (j + q))) -> bxE σ j bx K →
  ∃ vs bvs, K vs /\ zke w bs j bvs bx /\ VRl σ g w vs bvs.flatten /\ ∀ q, q < bx.length -> σ.bx (1000000 + (j + q)) ≠ none /\ g.β (1000000 + (j + q)) = bs (j + q)
 | [], j, K, _, h => ⟨[], [], h, trivial, rfl, fun q hq => by simp at hq⟩
 | b :: bx, j, K, hξ, h => by
  obtain ⟨h1, h2⟩ := h
  obtain ⟨cs, h3, h4, h5⟩ := zam h2
  obtain ⟨vs, bvs, k1, k2, k3, k4⟩ := zen hR hN (bx := bx) (j := j + 1) (fun q hq => by have := hξ (q + 1) (by simpa using hq); rw [show j + (q + 1) = j + 1 + q by omega] at this; exact this) h5
  have h0 := hR.slots (1000000 + j)
  rw [h1, Array.getD_eq_getD_getElem?, Array.getElem?_eq_none (by rw [hR.size]; omega)] at h0
  have hx := hξ 0 (by simp)
  rw [Nat.add_zero] at hx
  have h0 : CR σ g w (.bx (1000000 + j) 0) (g.R0.ξ (1000000 + j)) := h0
  rw [hx] at h0
  have hβ : g.β (1000000 + j) = bs j := by
   have := h0.1
   unfold zj4 at this
   simp only [Value.pointer.injEq, Option.some.injEq] at this
   injection this with e
   exact e.symm
  obtain ⟨us, ty, j1, j2⟩ := hR.boxes _ cs h3
  rw [hβ] at j1
  refine ⟨_, us.toList :: bvs, k1, ⟨by rw [j2.len, h4], ⟨ty, j1⟩, k2⟩, VRl.append j2.ones k3, fun q hq => ?_⟩
  cases q with
  | zero => exact ⟨h0.2, hβ⟩
  | succ q => rw [show j + (q + 1) = j + 1 + q by omega]; exact k4 q (by simpa using hq)
def PB0 (P : Program) (rs : List ResultVar) (res : List (Bool × D)) (bx : Bxs) (pl : List (Nat × Nat × Nat)) (σ : St) : Prop := zao (zbg P σ rs) fun vs => bxE σ 0 bx fun cs => gvA σ (fun _ => True) [] pl (vs ++ cs) (res ++ bxA bx.flatten)
def PB (P : Program) (rs : List ResultVar) (res : List (Bool × D)) (bx : Bxs) (e : Exit) (σ : St) : Prop := match e with
 | .normal => PB0 P rs res bx [] σ \/ ∃ pl, PB0 P rs res bx pl σ
 | .ret => PB0 P rs res bx [] σ \/ ∃ pl, PB0 P rs res bx pl σ
 | _ => False
theorem zcw {σ : St} : ∀ {rs : List ResultVar} {vs : List V}, zbg P σ rs = some vs -> vs.length = rs.length
 | [], vs, h => by cases h; rfl
 | r :: rs, vs, h => by
  unfold zbg at h
  cases h1 : zkf P σ r with
  | none => rw [h1] at h; cases h
  | some v =>
   rw [h1] at h
   simp only [Option.bind_some] at h
   cases h2 : zbg P σ rs with
   | none => rw [h2] at h; cases h
   | some us => rw [h2] at h; cases h; simp [zcw h2]
theorem VRl.len {σ : St} {g : Gh} {w : World} : ∀ {xs : List V} {vs : List Value}, VRl σ g w xs vs -> vs.length = xs.length
 | [], _, h => by rw [show _ = [] from h]; rfl
 | x :: xs, _, h => by obtain ⟨v, vs', rfl, _, h2⟩ := h; simp [VRl.len h2]
theorem zdb {f : FuncId} {fn : Func} {c : Code} {bx bx' : Bxs} {l : List AF} {res : List (Bool × D)} (hc : zbi P f) (hf : P.funcs[f]? = some fn) (hb : fn.body = some c) (hd : zbp fn.ntmps c = true) (hN : l.length <= fn.ntmps) (hN2 : fn.ntmps <= 1000000) (hbl : bx'.length = bx.length) (hj : AF.okJ bx.length l = true) (hs : zay (AF.ds l ++ bxA bx.flatten)) (hfs : gFS (AF.ds l ++ bxA bx.flatten) = true) (hrl : fn.results.toList.length = res.length)
  (h : ex P c [] (PB P fn.results.toList res bx') (zc0 l bx)) : PC P f bx l bx' res := by
 refine ⟨hc, hbl, fun w bs bvs dvs fp tp A hinj hbf hbx hv hn hl => ?_⟩
 refine calls_of_wp hf hb ?_
 obtain ⟨g, hg, hR⟩ := zhe (N := fn.ntmps) hinj hbf hbx hv hn hl hj hN hN2 hs hfs (ξ := fun i => if 1000000 <= i then zj4 (bs (i - 1000000)) else undef) (fun i hi => if_neg (by omega)) (fun i b => by
  by_cases h : 1000000 <= i
  ·rw [if_pos h]; exact fun e => by cases e
  ·rw [if_neg h]; exact fun e => by cases e) (fun j hj => by
  rw [if_pos (by omega), show 1000000 + j - 1000000 = j by omega])
 refine wp_mono (za2 (w0 := w) c (zc0 l bx) _ hd h g _ w hR (fun k hk => hk.1) (Bk.refl _ _) hg) fun e a' w' hq => ?_
 obtain ⟨σ', g', h1, h2, h3, h4, h5⟩ := hq
 have hξ : ∀ q, q < bx'.length -> g'.R0.ξ (1000000 + (0 + q)) = zj4 (bs (0 + q)) := fun q hq => by
  rw [(Prod.mk.inj h5).2, Nat.zero_add]
  show (if 1000000 <= 1000000 + q then zj4 (bs (1000000 + q - 1000000)) else undef) = _
  rw [if_pos (by omega), show 1000000 + q - 1000000 = q by omega]
 have key : (∃ pl, PB0 P fn.results.toList res bx' pl σ') -> ∃ v, (results fn a'.tmps).run P w' = .ok v w' /\ ∃ us bvs' fp' tp', Ending.returned v = .returned (zbv us) /\ zke w' bs 0 bvs' bx' /\ us.length = res.length ∧
   zal w' (fun k => (k < w'.heap.size /\ k ∉ fp' /\ ∀ j, j < bx.length -> k ≠ bs j) /\ (A k \/ w.heap.size <= k \/ k ∈ fp)) (res ++ bxA bx'.flatten) (us ++ bvs'.flatten) fp' tp' /\ fp'.Nodup /\ (∀ b ∈ fp', b ∈ fp \/ w.heap.size <= b) /\ Bk (fun k => k < w.heap.size /\ k ∉ fp /\ ∀ j, j < bx.length -> k ≠ bs j) w w' := by
  rintro ⟨pl, hk⟩
  obtain ⟨vs, hvs, hk⟩ := zam hk
  obtain ⟨us, r1, r2⟩ := zbo h2 fn hvs
  obtain ⟨cs, bvs', k0, b1, b2, b3⟩ := zen (bs := bs) h2 hN2 hξ hk
  obtain ⟨B, hB⟩ := h2.fam
  obtain ⟨s, k1, ⟨tp', k2⟩, k3, k4⟩ := zcj h2 hB k0 (VRl.append r2 b2)
  rw [List.append_nil] at k4
  have hsp : s.Pairwise okP := (List.pairwise_reverse.1 (k4 List.Pairwise.nil)).imp fun h => h.symm
  have hin : ∀ b ∈ bks B s, ∃ e, σ'.On e /\ b ∈ g'.φ e := fun b hb => by
   obtain ⟨x, hx, hm⟩ := List.mem_flatMap.1 hb
   exact ⟨x.1, k3 x hx, hB.sub x.1 x.2 b (k3 x hx) hm⟩
  have hbβ : ∀ j, j < bx.length -> σ'.bx (1000000 + j) ≠ none /\ g'.β (1000000 + j) = bs j := fun j hj => by
   have := b3 j (by omega)
   rwa [Nat.zero_add] at this
  have hA : ∀ b, zcx σ' g' w' b -> (b < w'.heap.size /\ b ∉ bks B s /\ ∀ j, j < bx.length -> b ≠ bs j) /\ (A b \/ w.heap.size <= b \/ b ∈ fp) := fun b hb => by
   have hnb : ∀ j, j < bx.length -> b ≠ bs j := fun j hj e => hb.1.1 _ (hbβ j hj).1 (by rw [(hbβ j hj).2, e])
   refine ⟨⟨hb.1.2.2.1, fun hm => ?_, hnb⟩, ?_⟩
   ·obtain ⟨e, ho, hm⟩ := hin b hm
    exact hb.2 e ho hm
   ·have h0 := hb.1.2.2.2
    rw [(Prod.mk.inj h5).1] at h0
    rcases h0 with h0 | h0 | h0 | ⟨j, hj, h0⟩
    ·exact Or.inl h0
    ·exact Or.inr (Or.inl h0)
    ·exact Or.inr (Or.inr h0)
    ·exact absurd h0 (hnb j hj)
  refine ⟨_, r1, us, bvs', bks B s, tp', rfl, b1, by rw [r2.len, <- hrl]; exact zcw hvs, zal.keepA hA k2, zce h2 hB k3 hsp, fun b hb => ?_, h4⟩
  obtain ⟨e, ho, hm⟩ := hin b hb
  have h0 := (h2.ebase e ho b hm).2
  rw [(Prod.mk.inj h5).2] at h0
  rcases h0 with h0 | h0 | ⟨j, hj, h0⟩
  ·exact Or.inl h0
  ·exact Or.inr h0
  ·have := h2.ebx e _ ho (hbβ j hj).1
   rw [(hbβ j hj).2] at this
   exact absurd (h0 ▸ hm) this
 have key' : ∀ {Y : Prop}, (PB0 P fn.results.toList res bx' [] σ' \/ ∃ pl, PB0 P fn.results.toList res bx' pl σ') -> ((∃ pl, PB0 P fn.results.toList res bx' pl σ') -> Y) -> Y := fun h k => h.elim (fun h => k ⟨[], h⟩) k
 cases e with
 | normal => exact ⟨h2.defers, key' h1 key⟩
 | ret => exact ⟨h2.defers, key' h1 key⟩
 | exit _ => exact h1.elim
 | goto _ => exact h1.elim
 | panic _ => exact h1.elim
 | outgrown => exact h1.elim
end Go.Proofs.Yteeaofpphmhjdaa
namespace Go.Proofs.Yteeaofpphmhjdaa
set_option linter.unusedSimpArgs false
set_option linter.unusedVariables false
set_option linter.unusedSectionVars false
set_option maxRecDepth 4000
open Go.RowKit
variable {P : Program}
structure KeptB (W : List Nat) (σ τ : St) : Prop where
 sl : ∀ i, τ.sl i = .one .any \/ (τ.sl i = σ.sl i /\ (τ.sl i).okU τ)
 bx : ∀ b cs, b ∉ W -> τ.bx b = some cs -> σ.bx b = some cs /\ zqy τ cs
 bxW : ∀ b ∈ W, σ.bx b ≠ none /\ τ.bx b ≠ none
 ev : ∀ e x, τ.ev e = some x -> σ.ev e = some x /\ x.on = true /\ x.deep = true
theorem Rel.givenB {W : List Nat} {n0 : Nat -> Prop} {N : Nat} {σ τ : St} {g g' : Gh} {a : Act} {w w' : World} (hR : Rel n0 N σ g a w) (hn0 : LtK n0 w) (hK : KeptB W σ τ) {fp : List Nat} (hfp : ∀ b ∈ fp, ∃ e, σ.On e /\ τ.ev e = none /\ b ∈ g.φ e) (hbk : Bk (fun k => k < w.heap.size /\ k ∉ fp /\ ∀ b ∈ W, k ≠ g.β b) w w')
  {ev' : Nat -> Option Ev} {F : List Nat} (hn : New τ g (fun b => b ∈ fp \/ w.heap.size <= b) w' ev' g' F) (hW : ∀ b ∈ W, ∀ cs, τ.bx b = some cs -> ∃ vs ty, w'.heap[g.β b]? = some (.cells vs ty (0, 0)) /\ CRs ⟨τ.sl, τ.bx, ev'⟩ g' w' cs vs.toList) : Rel n0 N ⟨τ.sl, τ.bx, ev'⟩ g' a w' := by
 have hOnσ : ∀ e, τ.On e -> σ.On e := fun e ⟨x, hx, ho⟩ => ⟨x, (hK.ev e x hx).1, ho⟩
 have hlt : ∀ e, σ.On e -> ∀ b ∈ g.φ e, b < w.heap.size := fun e ⟨x, hx, ho⟩ => (hR.evs e x hx ho).lt
 have hbne : ∀ b, τ.bx b ≠ none -> σ.bx b ≠ none := fun b hb => by
  by_cases hbW : b ∈ W
  ·exact (hK.bxW b hbW).1
  obtain ⟨cs, hcs⟩ := Option.ne_none_iff_exists'.1 hb
  rw [(hK.bx b cs hbW hcs).1]; simp
 have hfR : ∀ b ∈ fp, g.A0 b /\ g.R0 b /\ ¬ n0 b := fun b hb => by
  obtain ⟨e, ho, _, hm⟩ := hfp b hb
  obtain ⟨k1, k2⟩ := hR.ebase e ho b hm
  exact ⟨k1, k2, hR.etop e ho b hm⟩
 have hNB : ∀ b, (b ∈ fp \/ w.heap.size <= b) -> g.A0 b /\ g.R0 b /\ ¬ n0 b := fun b hb => by
  rcases hb with hb | hb
  ·exact hfR b hb
  ·have hnn := hn0.new hb
   exact ⟨(hR.anew b hnn).1, (hR.anew b hnn).2, hnn⟩
 have hβfp : ∀ b, τ.bx b ≠ none -> ¬ (g.β b ∈ fp \/ w.heap.size <= g.β b) := fun b hb h => by
  rcases h with h | h
  ·obtain ⟨e, ho, _, hm⟩ := hfp _ h
   exact hR.ebx e b ho (hbne b hb) hm
  ·have := hR.lt (hbne b hb); omega
 have hφfp : ∀ e, τ.On e -> ∀ b ∈ g.φ e, ¬ (b ∈ fp \/ w.heap.size <= b) := fun e ho b hb h => by
  rcases h with h | h
  ·obtain ⟨e', ho', hno, hm⟩ := hfp b h
   refine hR.apart e e' (hOnσ e ho) ho' (fun hee => ?_) b hb hm
   subst hee
   obtain ⟨x, hx, _⟩ := ho
   rw [hx] at hno; cases hno
  ·have := hlt e (hOnσ e ho) b hb; omega
 have hon : ∀ e, St.On ⟨τ.sl, τ.bx, ev'⟩ e -> τ.ev e ≠ none -> τ.On e := fun e ⟨x, hx, ho⟩ hee => ⟨x, (hn.old e hee).1.symm.trans hx, ho⟩
 have hkeep : ∀ b, b < w.heap.size -> b ∉ fp -> (∀ k ∈ W, b ≠ g.β k) -> w'.heap[b]? = w.heap[b]? := fun b h1 h2 h3 => hbk.block b ⟨h1, h2, h3⟩
 have hrn : ∀ b, zcx σ g w b -> w'.heap[b]? = w.heap[b]? /\ zcx ⟨τ.sl, τ.bx, ev'⟩ g' w' b := fun b hb => by
  obtain ⟨hf, hr⟩ := hb
  have hnb : ∀ e, St.On ⟨τ.sl, τ.bx, ev'⟩ e -> b ∉ g'.φ e := fun e ho hm => by
   by_cases hee : τ.ev e = none
   ·obtain ⟨x, hx, _⟩ := ho
    rcases ((hn.new e x hee hx).2.2.1 b hm).1 with h | h
    ·obtain ⟨e', ho', _, hm'⟩ := hfp b h
     exact hr e' ho' hm'
    ·have := hf.2.2.1; omega
   ·rw [(hn.old e hee).2.2] at hm
    exact hr e (hOnσ e (hon e ho hee)) hm
  refine ⟨hkeep b hf.2.2.1 (fun hm => by obtain ⟨e', ho', _, hm'⟩ := hfp b hm; exact hr e' ho' hm') (fun k hk e => hf.1 k (hK.bxW k hk).1 e.symm), ⟨fun k hk => by rw [hn.β]; exact hf.1 k (hbne k hk), fun e x hx hon' hh => hnb e ⟨x, hx, hon'⟩ (List.mem_of_mem_head? hh), Nat.lt_of_lt_of_le hf.2.2.1 hbk.size, by rw [hn.A0]; exact hf.2.2.2⟩, hnb⟩
 have hψ : ∀ e, τ.ev e ≠ none -> ev' e = τ.ev e /\ g'.ψ e = g.ψ e := fun e he => ⟨(hn.old e he).1, (hn.old e he).2.1⟩
 refine ⟨by rw [hR.defers], hR.size, by rw [hn.A0, hn.R0]; exact hR.anew, fun i => ?_, fun b cs hb => ?_, fun b hb => by rw [hn.β]; exact hR.base b (hbne b hb), fun b b' h1 h2 h3 => by rw [hn.β] at h3; exact hR.inj b b' (hbne b h1) (hbne b' h2) h3, fun e x he ho => ?_, fun e x he ho => ?_, hn.slc, fun e he b hb => ?_, fun e he b hb => ?_, fun e he => ?_, fun e e' h1 h2 hne b hb1 hb2 => ?_, fun e k he hk hm => ?_⟩
 ·rcases hK.sl i with h | ⟨h, hok⟩
  ·rw [show (⟨τ.sl, τ.bx, ev'⟩ : St).sl i = .one .any from h]; trivial
  ·rw [hn.R0]
   show VR _ g' w' (τ.sl i) _
   have hs := hR.slots i
   rw [<- h] at hs
   exact okU_vr hn.β hψ hrn hok hs
 ·by_cases hbW : b ∈ W
  ·rw [hn.β]; exact hW b hbW cs hb
  obtain ⟨hb1, hb2⟩ := hK.bx b cs hbW hb
  obtain ⟨vs, ty, k1, k2⟩ := hR.boxes b cs hb1
  have hne : τ.bx b ≠ none := by rw [show τ.bx b = some cs from hb]; simp
  have hnf := hβfp b hne
  exact ⟨vs, ty, by rw [hn.β, hkeep _ (hR.lt (hbne b hne)) (fun h => hnf (Or.inl h)) (fun k hk e => hbW (hR.inj b k (hbne b hne) (hK.bxW k hk).1 e ▸ hk))]; exact k1, zf2 hn.β hψ hrn hb2 k2⟩
 ·by_cases hee : τ.ev e = none
  ·obtain ⟨⟨k1, _, k0⟩, k2, k3, k4⟩ := hn.new e x hee he
   rw [k0]
   unfold zan at k2
   obtain ⟨ao, cap, j1, j2, j3, j4⟩ := k2
   refine ⟨ao, cap, j1, j2, j3, ?_⟩
   rcases j4 with j4 | ⟨b, cells, ty, fps, j4, j5, j6, j7, j8⟩
   ·exact Or.inl j4
   ·exact Or.inr ⟨b, cells, ty, fps, j4, j5, j6, j7, by rw [if_pos k1]; exact j8⟩
  ·obtain ⟨o1, o2, o3⟩ := hn.old e hee
   have hx : τ.ev e = some x := o1.symm.trans he
   obtain ⟨k1, k2, k3⟩ := hK.ev e x hx
   have hE := hR.evs e x k1 k2
   have hno := hφfp e ⟨x, hx, k2⟩
   have hl := hlt e ⟨x, k1, k2⟩
   have hkp : ∀ b ∈ g.φ e, w'.heap[b]? = w.heap[b]? := fun b hb => hkeep b (hl b hb) (fun h => hno b hb (Or.inl h)) fun k' hk' e => hR.ebx _ k' ⟨x, k1, k2⟩ (hK.bxW k' hk').1 (e ▸ hb)
   rw [o2, o3]
   obtain ⟨ao, cap, r1, r2, r3, r4⟩ := hE
   refine ⟨ao, cap, r1, r2, r3, ?_⟩
   rcases r4 with r4 | ⟨b, cells, ty, fps, r4, r5, r6, r7, r8⟩
   ·exact Or.inl r4
   ·rw [if_pos k3] at r8
    exact Or.inr ⟨b, cells, ty, fps, r4, r5, by rw [hkp b (by rw [r5]; simp)]; exact r6, r7, by rw [if_pos k3]; exact zad.keep cells 0 x.sz x.rows fps r8 fun b' hb' => hkp b' (by rw [r5]; simp [hb'])⟩
 ·by_cases hee : τ.ev e = none
  ·rw [(hn.new e x hee he).1.2.1] at ho; cases ho
  ·have hx : τ.ev e = some x := (hn.old e hee).1.symm.trans he
   rw [(hK.ev e x hx).2.1] at ho; cases ho
 ·rw [hn.A0, hn.R0]
  by_cases hee : τ.ev e = none
  ·obtain ⟨x, hx, _⟩ := he
   have := hNB b ((hn.new e x hee hx).2.2.1 b hb).1
   exact ⟨this.1, this.2.1⟩
  ·rw [(hn.old e hee).2.2] at hb
   exact hR.ebase e (hOnσ e (hon e he hee)) b hb
 ·by_cases hee : τ.ev e = none
  ·obtain ⟨x, hx, _⟩ := he
   exact (hNB b ((hn.new e x hee hx).2.2.1 b hb).1).2.2
  ·rw [(hn.old e hee).2.2] at hb
   exact hR.etop e (hOnσ e (hon e he hee)) b hb
 ·by_cases hee : τ.ev e = none
  ·obtain ⟨x, hx, _⟩ := he
   exact (hn.new e x hee hx).2.2.2
  ·rw [(hn.old e hee).2.2]
   exact hR.nodup e (hOnσ e (hon e he hee))
 ·by_cases hee : τ.ev e = none
  ·obtain ⟨x, hx, _⟩ := h1
   by_cases hee' : τ.ev e' = none
   ·obtain ⟨x', hx', _⟩ := h2
    exact hn.apart e e' hee hee' (by rw [show ev' e = some x from hx]; simp) (by rw [show ev' e' = some x' from hx']; simp) hne b hb1 hb2
   ·rw [(hn.old e' hee').2.2] at hb2
    exact hφfp e' (hon e' h2 hee') b hb2 ((hn.new e x hee hx).2.2.1 b hb1).1
  ·rw [(hn.old e hee).2.2] at hb1
   by_cases hee' : τ.ev e' = none
   ·obtain ⟨x', hx', _⟩ := h2
    exact hφfp e (hon e h1 hee) b hb1 ((hn.new e' x' hee' hx').2.2.1 b hb2).1
   ·rw [(hn.old e' hee').2.2] at hb2
    exact hR.apart e e' (hOnσ e (hon e h1 hee)) (hOnσ e' (hon e' h2 hee')) hne b hb1 hb2
 ·rw [hn.β] at hm
  by_cases hee : τ.ev e = none
  ·obtain ⟨x, hx, _⟩ := he
   exact hβfp k hk ((hn.new e x hee hx).2.2.1 _ hm).1
  ·rw [(hn.old e hee).2.2] at hm
   exact hR.ebx e k (hOnσ e (hon e he hee)) (hbne k hk) hm
def mtK (W : List Nat) : List AF -> List V -> (List V -> Prop) -> Prop
 | [], [], K => K []
 | .d _ _ :: l, v :: vs, K => mtK W l vs fun u => K (v :: u)
 | .p j :: l, .one (.bx b o) :: vs, K => W[j]? = some b /\ o = 0 /\ mtK W l vs K
 | .fn g js :: l, .one (.fn g' bs) :: vs, K => g' = g /\ js.map (fun j => W[j]?) = bs.map some /\ mtK W l vs K
 | _, _, _ => False
theorem zmf {g : Gh} {W : List Nat} {bs : Nat -> Nat} (hb : ∀ j b, W[j]? = some b -> bs j = g.β b) : ∀ (js bs' : List Nat), js.map (fun j => W[j]?) = bs'.map some -> bs'.map (fun b => Value.pointer (some ⟨g.β b, 0, none⟩)) = js.map fun j => zj4 (bs j)
 | [], [], _ => rfl
 | [], _ :: _, e => by cases e
 | _ :: _, [], e => by cases e
 | j :: js, b :: bs', e => by
  simp only [List.map_cons, List.cons.injEq] at e
  rw [List.map_cons, List.map_cons, zmf hb js bs' e.2, hb j b e.1]
  rfl
theorem zc3 {σ : St} {g : Gh} {w : World} {W : List Nat} {bs : Nat -> Nat} (hb : ∀ j b, W[j]? = some b -> bs j = g.β b) : ∀ {l : List AF} {xs : List V} {K : List V -> Prop} {vs : List Value}, mtK W l xs K -> VRl σ g w xs vs →
  ∃ us dvs, K us /\ VRl σ g w us dvs /\ dvs.length = (AF.ds l).length /\ vs = AF.vals bs l dvs
 | [], [], K, vs, h, hv => ⟨[], [], h, rfl, rfl, hv⟩
 | .d _ _ :: l, x :: xs, K, vs, h, hv => by
  obtain ⟨v, vs', rfl, h1, h2⟩ := hv
  obtain ⟨us, dvs, k1, k2, k3, k4⟩ := zc3 hb (l := l) h h2
  exact ⟨x :: us, v :: dvs, k1, ⟨v, dvs, rfl, h1, k2⟩, by simp [AF.ds, k3], by rw [k4]; rfl⟩
 | .p j :: l, .one (.bx b o) :: xs, K, vs, h, hv => by
  obtain ⟨v, vs', rfl, h1, h2⟩ := hv
  obtain ⟨e1, rfl, h⟩ := h
  obtain ⟨us, dvs, k1, k2, k3, k4⟩ := zc3 hb (l := l) h h2
  refine ⟨us, dvs, k1, k2, k3, ?_⟩
  have h1 : CR σ g w (.bx b 0) v := h1
  rw [k4, h1.1, <- hb j b e1]
  rfl
 | .fn f js :: l, .one (.fn f' bs') :: xs, K, vs, h, hv => by
  obtain ⟨v, vs', rfl, h1, h2⟩ := hv
  obtain ⟨rfl, e1, h⟩ := h
  obtain ⟨us, dvs, k1, k2, k3, k4⟩ := zc3 hb (l := l) h h2
  refine ⟨us, dvs, k1, k2, k3, ?_⟩
  have h1 : CR σ g w (.fn f' bs') v := h1
  rw [k4, h1.1]
  rw [zmf hb js bs' e1]
  rfl
 | .d _ _ :: _, [], _, _, h, _ => h.elim
 | .p _ :: _, [], _, _, h, _ => h.elim
 | .fn _ _ :: _, [], _, _, h, _ => h.elim
 | [], _ :: _, _, _, h, _ => h.elim
 | .p _ :: _, .agg _ :: _, _, _, h, _ => h.elim
 | .p _ :: _, .tup _ :: _, _, _, h, _ => h.elim
 | .fn _ _ :: _, .agg _ :: _, _, _, h, _ => h.elim
 | .fn _ _ :: _, .tup _ :: _, _, _, h, _ => h.elim
 | .p _ :: _, .one (.t _) :: _, _, _, h, _ => h.elim
 | .p _ :: _, .one (.nl _) :: _, _, _, h, _ => h.elim
 | .p _ :: _, .one (.ow _ _) :: _, _, _, h, _ => h.elim
 | .p _ :: _, .one (.el _ _) :: _, _, _, h, _ => h.elim
 | .p _ :: _, .one (.eo _ _ _ _ _) :: _, _, _, h, _ => h.elim
 | .p _ :: _, .one (.fn _ _) :: _, _, _, h, _ => h.elim
 | .p _ :: _, .one (.cv _) :: _, _, _, h, _ => h.elim
 | .p _ :: _, .one .any :: _, _, _, h, _ => h.elim
 | .p _ :: _, .one (.rn _) :: _, _, _, h, _ => h.elim
 | .p _ :: _, .one (.er _ _) :: _, _, _, h, _ => h.elim
 | .fn _ _ :: _, .one (.t _) :: _, _, _, h, _ => h.elim
 | .fn _ _ :: _, .one (.nl _) :: _, _, _, h, _ => h.elim
 | .fn _ _ :: _, .one (.ow _ _) :: _, _, _, h, _ => h.elim
 | .fn _ _ :: _, .one (.el _ _) :: _, _, _, h, _ => h.elim
 | .fn _ _ :: _, .one (.eo _ _ _ _ _) :: _, _, _, h, _ => h.elim
 | .fn _ _ :: _, .one (.bx _ _) :: _, _, _, h, _ => h.elim
 | .fn _ _ :: _, .one (.cv _) :: _, _, _, h, _ => h.elim
 | .fn _ _ :: _, .one .any :: _, _, _, h, _ => h.elim
 | .fn _ _ :: _, .one (.rn _) :: _, _, _, h, _ => h.elim
 | .fn _ _ :: _, .one (.er _ _) :: _, _, _, h, _ => h.elim
def zrz (σ : St) : List Nat -> Bxs -> (List V -> Prop) -> Prop
 | [], [], K => K []
 | k :: W, b :: bx, K => zao (σ.bx k) fun cs => cs.length = b.length /\ zrz σ W bx fun l => K (cs.map .one ++ l)
 | _, _, _ => False
theorem zfh {n0 : Nat -> Prop} {N : Nat} {σ : St} {g : Gh} {a : Act} {w : World} (hR : Rel n0 N σ g a w) {bs : Nat -> Nat} : ∀ {W : List Nat} {bx : Bxs} {j : Nat} {K : List V -> Prop}, (∀ i b, W[i]? = some b -> bs (j + i) = g.β b) -> zrz σ W bx K →
  ∃ l bvs, K l /\ VRl σ g w l bvs.flatten /\ zke w bs j bvs bx /\ W.length = bx.length /\ ∀ b ∈ W, σ.bx b ≠ none
 | [], [], j, K, _, h => ⟨[], [], h, rfl, trivial, rfl, fun b hb => by simp at hb⟩
 | k :: W, b :: bx, j, K, hb, h => by
  obtain ⟨cs, h1, h2, h3⟩ := zam h
  obtain ⟨l, bvs, k1, k2, k3, k4, k5⟩ := zfh hR (W := W) (bx := bx) (j := j + 1) (fun i b hi => by have := hb (i + 1) b (by simpa using hi); rw [show j + (i + 1) = j + 1 + i by omega] at this; exact this) h3
  obtain ⟨us, ty, j1, j2⟩ := hR.boxes k cs h1
  have hk := hb 0 k rfl
  rw [Nat.add_zero] at hk
  refine ⟨_, us.toList :: bvs, k1, VRl.append j2.ones k2, ⟨by rw [j2.len, h2], ⟨ty, by rw [hk]; exact j1⟩, k3⟩, by simp [k4], fun x hx => ?_⟩
  rcases List.mem_cons.1 hx with rfl | hx
  ·rw [h1]; simp
  ·exact k5 x hx
 | [], _ :: _, _, _, _, h => h.elim
 | _ :: _, [], _, _, _, h => h.elim
theorem zk6 {σ : St} {K K' : List V -> Prop} (hK : ∀ l, K l -> K' l) : ∀ {W : List Nat} {bx : Bxs}, zrz σ W bx K -> zrz σ W bx K' := fun {W} => by
 induction W generalizing K K' with
 | nil => intro bx h; cases bx with
  | nil => exact hK _ h
  | cons _ _ => exact h.elim
 | cons k W ih => intro bx h; cases bx with
  | nil => exact h.elim
  | cons b bx =>
   obtain ⟨cs, h1, h2, h3⟩ := zam h
   show zao (σ.bx k) _
   rw [h1]
   exact ⟨h2, ih (fun l => hK _) h3⟩
theorem zoi {W : List Nat} : ∀ {l : List AF} {xs : List V} {K K' : List V -> Prop}, (∀ u, K u -> K' u) -> mtK W l xs K -> mtK W l xs K' := fun {l} => by
 induction l with
 | nil => intro xs K K' hK h; cases xs with
  | nil => exact hK _ h
  | cons _ _ => exact h.elim
 | cons a l ih => intro xs K K' hK h; cases xs with
  | nil => cases a <;> exact h.elim
  | cons x xs =>
   cases a with
   | d b y => exact ih (fun u => hK _) h
   | p j =>
    cases x with
    | one c => cases c <;> first | exact h.elim | exact ⟨h.1, h.2.1, ih hK h.2.2⟩
    | agg _ => exact h.elim
    | tup _ => exact h.elim
   | fn g js =>
    cases x with
    | one c => cases c <;> first | exact h.elim | exact ⟨h.1, h.2.1, ih hK h.2.2⟩
    | agg _ => exact h.elim
    | tup _ => exact h.elim
def zdz (d : Nat) : Nat -> List Nat -> Bxs -> (Nat -> Option (List C)) -> (Nat -> Option (List C))
 | m, k :: W, b :: bx, f => upd (zdz d (m + b.length) W bx f) k (some (mC d m b))
 | _, _, _, f => f
theorem ziw (d : Nat) : ∀ (W : List Nat) (bx : Bxs) (m : Nat) (f : Nat -> Option (List C)) (b : Nat), b ∉ W -> zdz d m W bx f b = f b
 | [], _, _, _, _, _ => by unfold zdz; rfl
 | k :: W, [], _, _, _, _ => by unfold zdz; rfl
 | k :: W, c :: bx, m, f, b, hb => by
  unfold zdz
  rw [zae _ _ (fun e => hb (by simp [e]))]
  exact ziw d W bx _ f b fun h => hb (by simp [h])
theorem zmx (d : Nat) : ∀ (W : List Nat) (bx : Bxs) (m : Nat) (f : Nat -> Option (List C)) (b : Nat), W.length = bx.length -> b ∈ W -> zdz d m W bx f b ≠ none
 | [], _, _, _, _, _, hb => by simp at hb
 | k :: W, [], _, _, _, hl, _ => by simp at hl
 | k :: W, c :: bx, m, f, b, hl, hb => by
  unfold zdz
  by_cases h : b = k
  ·subst h; rw [zac]; simp
  ·rw [zae _ _ h]
   exact zmx d W bx _ f b (by simpa using hl) ((List.mem_cons.1 hb).resolve_left h)
theorem zfi {σ : St} {g : Gh} {w : World} {bs : Nat -> Nat} (d : Nat) {β : Nat -> Nat} : ∀ (W : List Nat) (bx : Bxs) (bvs : List (List Value)) (j m : Nat) (f : Nat -> Option (List C)), (∀ i b, W[i]? = some b -> bs (j + i) = β b) -> zke w bs j bvs bx -> CRs σ g w (mC d m bx.flatten) bvs.flatten -> W.length = bx.length →
  ∀ b ∈ W, ∀ cs, zdz d m W bx f b = some cs -> ∃ vs ty, w.heap[β b]? = some (.cells vs ty (0, 0)) /\ CRs σ g w cs vs.toList
 | [], _, _, _, _, _, _, _, _, _, b, hb, _, _ => by simp at hb
 | k :: W, [], _, _, _, _, _, _, _, hl, _, _, _, _ => by simp at hl
 | k :: W, c :: bx, [], _, _, _, _, h0, _, _, _, _, _, _ => h0.elim
 | k :: W, c :: bx, vs :: bvs, j, m, f, hβ, h0, hc, hl, b, hb, cs, hs => by
  obtain ⟨h1, ⟨ty, h2⟩, h3⟩ := h0
  rw [List.flatten_cons, List.flatten_cons, zcd] at hc
  obtain ⟨v1, v2, e, c1, c2⟩ := hc.split
  obtain ⟨e1, e2⟩ := List.append_inj e (by rw [c1.len, zhc, h1])
  subst e1 e2
  unfold zdz at hs
  by_cases h : b = k
  ·subst h
   rw [zac] at hs
   cases hs
   have := hβ 0 b rfl
   rw [Nat.add_zero] at this
   exact ⟨⟨vs⟩, ty, by rw [<- this]; exact h2, c1⟩
  ·rw [zae _ _ h] at hs
   exact zfi d W bx bvs (j + 1) (m + c.length) f (fun i b hi => by have := hβ (i + 1) b (by simpa using hi); rw [show j + (i + 1) = j + 1 + i by omega] at this; exact this) h3 c2 (by simpa using hl) b ((List.mem_cons.1 hb).resolve_left h) cs hs
def St.callP (σ : St) (d : Nat) (W : List Nat) (bx' : Bxs) (res : List (Bool × D)) : St := { sl := upd σ.sl d (zsb (mD d 0 res)), bx := zdz d (za4 res).length W bx' σ.bx, ev := mE d 0 (za4 res ++ bx'.flatten) σ.ev }
theorem CRs.split_flat {σ : St} {g : Gh} {w w' : World} {A : Nat -> Prop} {d m : Nat} {l : List (Bool × T)} {c : Bxs} {us vs : List Value} (h : CRs σ g w (mC d 0 (l ++ c.flatten)) (us ++ vs)) (hl : us.length = l.length) : CRs σ g w (mC d 0 l) us /\ CRs σ g w (mC d l.length c.flatten) vs := by
 rw [zcd] at h
 obtain ⟨v1, v2, e, c1, c2⟩ := h.split
 obtain ⟨e1, e2⟩ := List.append_inj e (by rw [c1.len, zhc, hl])
 subst e1 e2
 rw [Nat.zero_add] at c2
 exact ⟨c1, c2⟩
theorem zal.one_vals {w : World} {A : Nat -> Prop} : ∀ {ds : List (Bool × D)} {vs : List Value} {fp tp : List Nat}, zal w A ds vs fp tp -> (vs.flatMap fun u => u.cells.toList).length = (za4 ds).length := fun {ds vs fp tp} h => by
 obtain ⟨tp', h'⟩ := h.flat
 rw [zal.len h']
 unfold bxA
 rw [List.length_map]
theorem zm3 {W : List Nat} {o : Oper} {σ : St} {τs : Nat -> V} {τe : Nat -> Option Ev} {τb : Nat -> Option (List C)} {x : Operand} {asx : Array Operand} {ts : Array TypeId} {f : FuncId} {cvs : List V} {d : Nat} {bx bx' : Bxs} {l : List AF} {res : List (Bool × D)} {ps : List (Nat × Nat × Nat)} (ho : o.op = .call ⟨.value x, asx, ts⟩) (hd : o.dst = some d)
  (h : PC P f bx l bx' res) (hc : za7 (σ.get P 0 x) = some (f, cvs)) (hK : KeptB W σ ⟨τs, zdz d (za4 res).length W bx' τb, τe⟩) (hWn : W.Nodup)
  (hv : mtK W l (σ.gets P asx ts ++ cvs) fun us => zrz σ W bx fun cs => gvA σ (fun u => ∀ s ∈ u, τe s.1 = none) [] ps (us ++ cs) (AF.ds l ++ bxA bx.flatten)) (hf : mF d 0 (za4 res ++ bx'.flatten) τe) : zab P o σ (St.callP ⟨τs, τb, τe⟩ d W bx' res) := by
 intro n0 N g a w hR hn hdN
 obtain ⟨vs, h1, h2⟩ := zi9 hR ho hc h.1
 unfold Oper.wp
 rw [h1]
 obtain ⟨B, hB⟩ := hR.fam
 let bs : Nat -> Nat := fun j => g.β (W.getD j 0)
 have hbs : ∀ j b, W[j]? = some b -> bs j = g.β b := fun j b hj => by show g.β (W.getD j 0) = _; rw [List.getD_eq_getElem?_getD, hj]; rfl
 obtain ⟨us, dvs, a1, a2, a3, rfl⟩ := zc3 hbs hv h2
 obtain ⟨cs, bvs, b1, b2, b3, b4, b5⟩ := zfh hR (bs := bs) (j := 0) (fun i b hi => by rw [Nat.zero_add]; exact hbs i b hi) a1
 obtain ⟨s, k1, ⟨tp, k2⟩, k3, k4⟩ := zcj hR hB b1 (VRl.append a2 b2)
 rw [List.append_nil] at k1 k4
 have hsp : s.Pairwise okP := (List.pairwise_reverse.1 (k4 List.Pairwise.nil)).imp fun h => h.symm
 have hnd := zce hR hB k3 hsp
 have hfp : ∀ b ∈ bks B s, ∃ e, σ.On e /\ τe e = none /\ b ∈ g.φ e := fun b hb => by
  obtain ⟨x, hx, hm⟩ := List.mem_flatMap.1 hb
  exact ⟨x.1, k3 x hx, k1 x (List.mem_reverse.2 hx), hB.sub x.1 x.2 b (k3 x hx) hm⟩
 have hfn : ∀ b, zcx σ g w b -> b ∉ bks B s := fun b hb hm => by obtain ⟨e, h1, _, h3⟩ := hfp b hm; exact hb.2 e h1 h3
 have hWj : ∀ j, j < bx.length -> ∃ b, W[j]? = some b /\ b ∈ W /\ bs j = g.β b := fun j hj => by
  have hlt : j < W.length := by omega
  exact ⟨W[j], List.getElem?_eq_getElem hlt, List.getElem_mem hlt, hbs j _ (List.getElem?_eq_getElem hlt)⟩
 have hWb : ∀ b ∈ W, ∃ j, j < bx.length /\ bs j = g.β b := fun b hb => by
  obtain ⟨j, hj, rfl⟩ := List.getElem_of_mem hb
  exact ⟨j, by omega, hbs j _ (List.getElem?_eq_getElem hj)⟩
 have hinj : ∀ i j, i < bx.length -> j < bx.length -> bs i = bs j -> i = j := fun i j hi hj he => by
  obtain ⟨b, e1, e2, e3⟩ := hWj i hi
  obtain ⟨c, f1, f2, f3⟩ := hWj j hj
  have : b = c := hR.inj b c (b5 b e2) (b5 c f2) (by rw [<- e3, <- f3]; exact he)
  subst this
  have hi' : i < W.length := by omega
  have hj' : j < W.length := by omega
  rw [List.getElem?_eq_getElem hi'] at e1
  rw [List.getElem?_eq_getElem hj'] at f1
  exact (List.getElem_inj hWn).1 ((Option.some.inj e1).trans (Option.some.inj f1).symm)
 have hbf : ∀ j, j < bx.length -> bs j ∉ bks B s := fun j hj hm => by
  obtain ⟨b, _, e2, e3⟩ := hWj j hj
  obtain ⟨e, h1, _, h3⟩ := hfp _ hm
  exact hR.ebx e b h1 (b5 b e2) (e3 ▸ h3)
 have hfb : ∀ b, zcx σ g w b -> ∀ j, j < bx.length -> b ≠ bs j := fun b hb j hj e => by
  obtain ⟨c, _, e2, e3⟩ := hWj j hj
  exact hb.1.1 c (b5 c e2) (by rw [<- e3, e])
 refine (h.2.2 w bs bvs dvs (bks B s) tp (zcx σ g w) hinj hbf b3 (zal.keepA (fun b hb => ⟨⟨hb.1.2.2.1, hfn b hb, hfb b hb⟩, hb⟩) k2) hnd a3).mono ?_
 rintro e w' ⟨us', bvs', fp', tp', rfl, hbx', hlu, o1, o2, o3, hbk⟩
 obtain ⟨v1, v2, f1, f2, t1, t2, ev, ef, et, p1, p2⟩ := zal.split o1
 obtain ⟨rfl, rfl⟩ := List.append_inj ev (by rw [hlu, zal.len p1])
 subst ef
 obtain ⟨t1', p1'⟩ := p1.flat
 have pp := zal.append p1' p2
 rw [<- zdj] at pp
 have hnew := New.refl ⟨τs, zdz d (za4 res).length W bx' τb, τe⟩ g (fun b => b ∈ bks B s \/ w.heap.size <= b) w' hR.slc
 obtain ⟨g', q1, q2, q3⟩ := New.mix (τ := ⟨τs, zdz d (za4 res).length W bx' τb, τe⟩) (g := g) (NB := fun b => b ∈ bks B s \/ w.heap.size <= b) (w' := w') d (za4 res ++ bx'.flatten) _ (f1 ++ f2) _ 0 τe g [] hnew hf pp o2 (fun b hb' => ⟨o3 b hb', by simp⟩)
 have hbk' : Bk (fun k => k < w.heap.size /\ k ∉ bks B s /\ ∀ b ∈ W, k ≠ g.β b) w w' := ⟨hbk.os, hbk.tape, hbk.output, hbk.size, fun k hk => hbk.block k ⟨hk.1, hk.2.1, fun j hj e => by
  obtain ⟨c, _, e2, e3⟩ := hWj j hj
  exact hk.2.2 c e2 (by rw [<- e3, e])⟩⟩
 have hfree : ∀ k, ((k < w'.heap.size /\ k ∉ f1 ++ f2 /\ ∀ j, j < bx.length -> k ≠ bs j) /\ (zcx σ g w k \/ w.heap.size <= k \/ k ∈ bks B s)) -> zcx ⟨τs, zdz d (za4 res).length W bx' τb, mE d 0 (za4 res ++ bx'.flatten) τe⟩ g' w' k := fun k hk => by
  have hOnσ : ∀ e, St.On ⟨τs, zdz d (za4 res).length W bx' τb, τe⟩ e -> σ.On e := fun e ⟨x, hx, ho⟩ => ⟨x, (hK.ev e x hx).1, ho⟩
  have hno : ∀ e, St.On ⟨τs, zdz d (za4 res).length W bx' τb, mE d 0 (za4 res ++ bx'.flatten) τe⟩ e -> k ∉ g'.φ e := fun e ho' hm => by
   by_cases hee : τe e = none
   ·obtain ⟨x, hx, _⟩ := ho'
    have := ((q1.new e x hee hx).2.2.1 k hm).2
    rw [List.nil_append] at this
    exact hk.1.2.1 this
   ·rw [(q1.old e hee).2.2] at hm
    obtain ⟨x, hx, hon⟩ := ho'
    have ho2 : St.On ⟨τs, zdz d (za4 res).length W bx' τb, τe⟩ e := ⟨x, (q1.old e hee).1.symm.trans hx, hon⟩
    rcases hk.2 with h | h | h
    ·exact h.2 e (hOnσ e ho2) hm
    ·obtain ⟨y, hy, hyo⟩ := hOnσ e ho2
     have := (hR.evs e y hy hyo).lt k hm; omega
    ·obtain ⟨e', h1, h2, h3⟩ := hfp k h
     refine hR.apart e e' (hOnσ e ho2) h1 (fun ee => ?_) k hm h3
     subst ee
     obtain ⟨y, hy, _⟩ := ho2
     have hy : τe e = some y := hy
     rw [h2] at hy; cases hy
  have hbne : ∀ b, zdz d (za4 res).length W bx' τb b ≠ none -> σ.bx b ≠ none := fun b hb => by
   by_cases hbW : b ∈ W
   ·exact (hK.bxW b hbW).1
   obtain ⟨cs, hcs⟩ := Option.ne_none_iff_exists'.1 hb
   rw [(hK.bx b cs hbW hcs).1]; simp
  refine ⟨⟨fun j hj e => ?_, fun e x hx hon hh => hno e ⟨x, hx, hon⟩ (List.mem_of_mem_head? hh), hk.1.1, ?_⟩, hno⟩
  ·have hj' := hbne j hj
   rw [q1.β] at e
   rcases hk.2 with h | h | h
   ·exact h.1.1 j hj' e
   ·have := hR.lt hj'; omega
   ·obtain ⟨e', h1, _, h3⟩ := hfp k h
    exact hR.ebx e' j h1 hj' (e ▸ h3)
  ·rw [q1.A0]
   rcases hk.2 with h | h | h
   ·exact h.1.2.2.2
   ·exact (hR.anew k (hn.new h)).1
   ·obtain ⟨e', h1, _, h3⟩ := hfp k h
    exact (hR.ebase e' h1 k h3).1
 have hcr := q3 ⟨τs, zdz d (za4 res).length W bx' τb, mE d 0 (za4 res ++ bx'.flatten) τe⟩ w' rfl fun t v h => zah.keep (fun _ _ => rfl) hfree t v h
 obtain ⟨hc1, hc2⟩ := hcr.split_flat (A := fun _ => True) (w' := w') (m := 0) (zal.one_vals p1)
 have hR' := hR.givenB hn hK (fun b hb => by obtain ⟨e, x1, x2, x3⟩ := hfp b hb; exact ⟨e, x1, x2, x3⟩) hbk' q1 (zfi d W bx' bvs' 0 (za4 res).length τb (fun i b hi => by rw [Nat.zero_add]; exact hbs i b hi) hbx' hc2 (by rw [h.2.1]; omega))
 have hBk : Bk n0 w w' := ⟨hbk.os, hbk.tape, hbk.output, hbk.size, fun k hk => hbk.block k ⟨hn k hk, fun hm => by
  obtain ⟨e, h1, _, h3⟩ := hfp k hm
  exact hR.etop e h1 k h3 hk, fun j hj e => by
  obtain ⟨c, _, e2, e3⟩ := hWj j hj
  exact hR.base c (b5 c e2) (by rw [<- e3, <- e]; exact hk)⟩⟩
 refine ⟨g', ?_, hBk, q1.A0, q1.R0⟩
 have hp := hR'.put (some d) (x := zsb (mD d 0 res)) (v := zbv us') (zlm (zlo d 0 p1 hc1) (zk0 d res 0)) (fun i hi => by cases hi; exact hdN d hd)
 rw [hd]
 exact hp
end Go.Proofs.Yteeaofpphmhjdaa
namespace Go.Proofs.Yteeaofpphmhjdaa
set_option linter.unusedSimpArgs false
set_option linter.unusedVariables false
set_option linter.unusedSectionVars false
set_option maxRecDepth 4000
open Go.RowKit
variable {P : Program}
def subN : List Nat -> List Nat -> Prop
 | [], _ => True
 | x :: xs, l => noK x l = false /\ subN xs l
theorem zlz : ∀ {x : Nat} {l : List Nat}, noK x l = false -> x ∈ l
 | _, [], h => by cases h
 | x, y :: l, h => by
  unfold noK at h
  by_cases e : x = y
  ·simp [e]
  ·rw [if_neg e] at h; exact List.mem_cons_of_mem _ (zlz h)
theorem zd3 : ∀ {xs l : List Nat}, subN xs l -> ∀ x ∈ xs, x ∈ l
 | [], _, _, x, hx => by simp at hx
 | y :: xs, l, h, x, hx => by
  rcases List.mem_cons.1 hx with rfl | hx
  ·exact zlz h.1
  ·exact zd3 h.2 x hx
theorem zec {σ : St} : ∀ (L : List Nat) (i : Nat), (i ∈ L -> ze1 (σ.lL L) i = σ.sl i) /\ (i ∉ L -> ze1 (σ.lL L) i = .one .any)
 | [], i => ⟨fun h => by simp at h, fun _ => rfl⟩
 | j :: L, i => by
  show (_ -> (if i = j then σ.sl j else ze1 (σ.lL L) i) = _) /\ (_ -> (if i = j then σ.sl j else ze1 (σ.lL L) i) = _)
  by_cases h : i = j
  ·subst h; rw [if_pos rfl]; exact ⟨fun _ => rfl, fun h => by simp at h⟩
  ·rw [if_neg h]
   exact ⟨fun hm => (zec L i).1 ((List.mem_cons.1 hm).resolve_left h), fun hm => (zec L i).2 fun h' => hm (List.mem_cons_of_mem _ h')⟩
theorem zb6 {α : Type} (f : Nat -> α) : ∀ (L : List Nat) (i : Nat), (i ∈ L -> tbl (L.map fun b => (b, f b)) i = some (f i)) /\ (i ∉ L -> tbl (L.map fun b => (b, f b)) i = none)
 | [], i => ⟨fun h => by simp at h, fun _ => rfl⟩
 | j :: L, i => by
  show (_ -> (if i = j then some (f j) else tbl (L.map fun b => (b, f b)) i) = _) /\ (_ -> (if i = j then some (f j) else tbl (L.map fun b => (b, f b)) i) = _)
  by_cases h : i = j
  ·subst h; rw [if_pos rfl]; exact ⟨fun _ => rfl, fun h => by simp at h⟩
  ·rw [if_neg h]
   exact ⟨fun hm => (zb6 f L i).1 ((List.mem_cons.1 hm).resolve_left h), fun hm => (zb6 f L i).2 fun h' => hm (List.mem_cons_of_mem _ h')⟩
def blank (W : List Nat) (f : Nat -> Option (List C)) : Nat -> Option (List C)
 | b => if noK b W = true then f b else some []
theorem zoy (W : List Nat) (f : Nat -> Option (List C)) (b : Nat) : blank W f b = if noK b W = true then f b else some [] := rfl
def St.wB (σ : St) (W : List Nat) : St := ⟨σ.sl, blank W σ.bx, σ.ev⟩
def St.BW (σ : St) (L W : List Nat) : List Nat := dif W ((σ.wB W).KB L)
def St.EW (σ : St) (L W : List Nat) : List Nat := (σ.wB W).KE L
def St.hW (σ : St) (L W : List Nat) : St := ⟨ze1 (σ.lL L), tbl (σ.lB (σ.BW L W)), tbl (σ.lE (σ.EW L W))⟩
section
variable {ks : List Fr} {Q : Exit -> St -> Prop} {σ : St} {ops : Array Oper} {os : List Oper} {ty : TypeId} {ps : String} {af : Array Edge} {d : Nat} {x : Operand} {asx : Array Operand} {ts : Array TypeId} {f : FuncId} {bx bx' : Bxs} {l : List AF} {res : List (Bool × D)}
theorem zar (L A W : List Nat) (pl : List (Nat × Nat × Nat)) (h : PC P f bx l bx' res) (hWn : W.Nodup) (hWl : W.length = bx'.length) (hw : wkK σ (A ++ L))
  (hk : subN (σ.BW L W) (σ.KB (A ++ L)) /\ subN W (σ.KB (A ++ L)) /\ subN (σ.EW L W) (σ.KE (A ++ L)) /\ okL ⟨ze1 (σ.lL L), zdz d (za4 res).length W bx' (tbl (σ.lB (σ.BW L W))), tbl (σ.lE (σ.EW L W))⟩ (σ.lL L) /\ okB ⟨ze1 (σ.lL L), zdz d (za4 res).length W bx' (tbl (σ.lB (σ.BW L W))), tbl (σ.lE (σ.EW L W))⟩ (σ.lB (σ.BW L W)) /\ okE (σ.lE (σ.EW L W)))
  (hp : zao (za7 ((σ.hL (A ++ L)).get P 0 x)) fun p => p.1 = f /\ mtK W l ((σ.hL (A ++ L)).gets P asx ts ++ p.2) fun us => zrz (σ.hL (A ++ L)) W bx fun cs => gvA (σ.hL (A ++ L)) (zo7 (σ.lE (σ.EW L W))) [] pl (us ++ cs) (AF.ds l ++ bxA bx.flatten))
  (hf : mF d 0 (za4 res ++ bx'.flatten) (tbl (σ.lE (σ.EW L W))))
  (k : exo P ops os ks Q ((σ.hW L W).callP d W bx' res)) : exo P ops (⟨some d, .call ⟨.value x, asx, ts⟩, ty, ps, af, none⟩ :: os) ks Q σ := by
 obtain ⟨⟨f', cvs⟩, h1, rfl, h2⟩ := zam hp
 obtain ⟨k1, k2, k3, k4, k5, k6⟩ := hk
 have hK : KeptB W (σ.hL (A ++ L)) ⟨ze1 (σ.lL L), zdz d (za4 res).length W bx' (tbl (σ.lB (σ.BW L W))), tbl (σ.lE (σ.EW L W))⟩ := by
  refine ⟨fun i => ?_, fun b cs hb hcs => ?_, fun b hb => ⟨?_, zmx d W bx' _ _ b hWl hb⟩, fun e x he => ?_⟩
  ·by_cases hi : i ∈ L
   ·refine Or.inr ⟨?_, znm k4 i⟩
    show ze1 (σ.lL L) i = ze1 (σ.lL (A ++ L)) i
    rw [(zec L i).1 hi, (zec (A ++ L) i).1 (List.mem_append_right _ hi)]
   ·exact Or.inl ((zec L i).2 hi)
  ·have hcs : zdz d (za4 res).length W bx' (tbl (σ.lB (σ.BW L W))) b = some cs := hcs
   rw [ziw d W bx' _ _ b hb] at hcs
   by_cases hm : b ∈ σ.BW L W
   ·refine ⟨?_, zms k5 b cs hcs⟩
    have e1 := (zb6 (fun b => (σ.bx b).getD []) (σ.BW L W) b).1 hm
    have e2 := (zb6 (fun b => (σ.bx b).getD []) (σ.KB (A ++ L)) b).1 (zd3 k1 b hm)
    have e1 : tbl (σ.lB (σ.BW L W)) b = some ((σ.bx b).getD []) := e1
    rw [e1] at hcs
    cases hcs
    exact e2
   ·have e1 := (zb6 (fun b => (σ.bx b).getD []) (σ.BW L W) b).2 hm
    have e1 : tbl (σ.lB (σ.BW L W)) b = none := e1
    rw [e1] at hcs; cases hcs
  ·have e2 := (zb6 (fun b => (σ.bx b).getD []) (σ.KB (A ++ L)) b).1 (zd3 k2 b hb)
   have e2 : (σ.hL (A ++ L)).bx b = some ((σ.bx b).getD []) := e2
   rw [e2]; simp
  ·have he : tbl (σ.lE (σ.EW L W)) e = some x := he
   by_cases hm : e ∈ σ.EW L W
   ·refine ⟨?_, zm0 k6 e x he⟩
    have e1 := (zb6 (fun e => (σ.ev e).getD ⟨false, 0, [], 0, false⟩) (σ.EW L W) e).1 hm
    have e2 := (zb6 (fun e => (σ.ev e).getD ⟨false, 0, [], 0, false⟩) (σ.KE (A ++ L)) e).1 (zd3 k3 e hm)
    have e1 : tbl (σ.lE (σ.EW L W)) e = some ((σ.ev e).getD ⟨false, 0, [], 0, false⟩) := e1
    rw [e1] at he
    cases he
    exact e2
   ·have e1 := (zb6 (fun e => (σ.ev e).getD ⟨false, 0, [], 0, false⟩) (σ.EW L W) e).2 hm
    have e1 : tbl (σ.lE (σ.EW L W)) e = none := e1
    rw [e1] at he; cases he
 refine zeb rfl rfl (zab.pre (wkK_wk hw) (zm3 (P := P) (o := ⟨some d, .call ⟨.value x, asx, ts⟩, ty, ps, af, none⟩) rfl rfl h h1 hK hWn (ps := pl) ?_ hf)) k
 exact zoi (fun us hu => zk6 (fun cs hc => zd4 (fun u hu => zgu hu) hc) hu) h2
end
attribute [go_sem] AF.ds c1P ziz zem zbe zdq zc0 bxE PB PB0 mtK zrz zdz St.callP subN zoy St.wB St.BW St.EW St.hW bxA List.flatten_cons List.flatten_nil
end Go.Proofs.Yteeaofpphmhjdaa
namespace Go.Proofs.Yteeaofpphmhjdaa
set_option linter.unusedSimpArgs false
set_option linter.unusedVariables false
set_option linter.unusedSectionVars false
set_option maxRecDepth 4000
open Go.RowKit
variable {P : Program}
section
variable {ks : List Fr} {Q : Exit -> St -> Prop} {σ : St} {ops : Array Oper} {os : List Oper} {L : List (List Ky × List Ky)} {ty : TypeId} {ps : String} {af : Array Edge} {d : Nat} {x : Operand} {asx : Array Operand} {ts : Array TypeId} {f : FuncId} {bx bx' : Bxs} {l : List AF} {res : List (Bool × D)}
theorem zqe {ds0 res0 : List D} {gR : List Ky} (h : FC P f ds0 res0) (hp : zao (za7 (σ.get P 0 x)) fun p => p.1 = f /\ VDs σ (σ.gets P asx ts ++ p.2) ds0 /\ ze3 d 0 (zat res0) σ.ev)
  (k : exd P ops os (L ++ [(gR ++ (zaq (x :: asx.toList) ++ (vsK σ (σ.gets P asx ts ++ zq8 (za7 (σ.get P 0 x))) ++ eK (owL d 0 (zat res0)))), dK (some d) ++ eK (owL d 0 (zat res0)))]) ks Q (σ.callF d res0)) :
  zis P ops ⟨some d, .call ⟨.value x, asx, ts⟩, ty, ps, af, none⟩ os L gR ks Q σ := by
 obtain ⟨⟨f', cvs⟩, h1, rfl, h2, h3⟩ := zam hp
 rw [h1] at k
 exact zrn _ _ _ _ _ _ rfl (zho rfl rfl h h1 h2 h3) k
end
end Go.Proofs.Yteeaofpphmhjdaa
namespace Go.Proofs.Yteeaofpphmhjdaa
set_option linter.unusedSimpArgs false
set_option linter.unusedVariables false
set_option linter.unusedSectionVars false
set_option maxRecDepth 4000
open Go.RowKit
variable {P : Program} {N : Nat}
def zb8 (P : Program) (N : Nat) (c : Code) (σ : St) (Q : Exit -> St -> Prop) : Prop := ∀ n0 w0 A0 g a w, Rel n0 N σ g a w -> LtK n0 w -> Bk n0 w0 w -> (g.A0, g.R0) = A0 -> c.wp P (Ends n0 N w0 A0 Q) a w
theorem Ends.mono {n0 : Nat -> Prop} {w0 : World} {A0 : (Nat -> Prop) × RP} {Q Q' : Exit -> St -> Prop} (h : ∀ e σ, Q e σ -> Q' e σ) {e : Exit} {a : Act} {w : World} : Ends n0 N w0 A0 Q e a w -> Ends n0 N w0 A0 Q' e a w
 | ⟨σ, g, h1, h2⟩ => ⟨σ, g, h _ _ h1, h2⟩
theorem zb8.mono {c : Code} {σ : St} {Q Q' : Exit -> St -> Prop} (h : ∀ e σ, Q e σ -> Q' e σ) (k : zb8 P N c σ Q) : zb8 P N c σ Q' := fun n0 w0 A0 g a w h1 h2 h3 h4 => wp_mono (k n0 w0 A0 g a w h1 h2 h3 h4) fun _ _ _ => Ends.mono h
theorem zb8.ofEx {c : Code} {σ : St} {Q : Exit -> St -> Prop} (hd : zbp N c = true) (h : ex P c [] Q σ) : zb8 P N c σ Q := fun _ _ _ g a w h1 h2 h3 h4 => za2 c σ Q hd h g a w h1 h2 h3 h4
def zoz (P : Program) (N : Nat) (c : Code) (Q : Exit -> St -> Prop) (e : Exit) (σ : St) : Prop := match e with | .normal => zb8 P N c σ Q | e => Q e σ
theorem zg7 (c : Code) (Q : Exit -> St -> Prop) (σ : St) : zoz P N c Q .normal σ = zb8 P N c σ Q := rfl
theorem zkc (c : Code) (Q : Exit -> St -> Prop) (σ : St) (i : Nat) : zoz P N c Q (.exit i) σ = Q (.exit i) σ := rfl
theorem zb8.seq {x y : Code} {σ : St} {Q : Exit -> St -> Prop} (h : zb8 P N x σ (zoz P N y Q)) : zb8 P N (.seq x y) σ Q := fun n0 w0 A0 g a w h1 h2 h3 h4 => by
 refine wp_seq (wp_mono (h n0 w0 A0 g a w h1 h2 h3 h4) fun e a' w' hq => ?_)
 obtain ⟨σ', g', k1, k2, k3, k4, k5⟩ := hq
 cases e with
 | normal => exact k1 n0 w0 A0 g' a' w' k2 k3 k4 k5
 | exit i => exact ⟨σ', g', k1, k2, k3, k4, k5⟩
 | goto l => exact ⟨σ', g', k1, k2, k3, k4, k5⟩
 | ret => exact ⟨σ', g', k1, k2, k3, k4, k5⟩
 | panic ch => exact ⟨σ', g', k1, k2, k3, k4, k5⟩
 | outgrown => exact ⟨σ', g', k1, k2, k3, k4, k5⟩
def preC : Nat -> Code -> Code
 | 0, .seq x _ => x
 | n + 1, .seq x y => .seq x (preC n y)
 | _, c => c
def sufC : Nat -> Code -> Code
 | 0, .seq _ y => y
 | n + 1, .seq _ y => sufC n y
 | _, _ => .skip
def okC : Nat -> Code -> Bool
 | 0, .seq _ _ => true
 | n + 1, .seq _ y => okC n y
 | _, _ => false
theorem zb8.cut : ∀ (n : Nat) {c : Code} {σ : St} {Q : Exit -> St -> Prop}, okC n c = true -> zbp N (preC n c) = true -> ex P (preC n c) [] (zoz P N (sufC n c) Q) σ -> zb8 P N c σ Q
 | 0, .seq x y, σ, Q, _, hd, h => zb8.seq (zb8.ofEx hd h)
 | n + 1, .seq x y, σ, Q, ho, hd, h => by
  simp only [preC, zbp, Bool.and_eq_true] at hd
  refine zb8.seq (zb8.mono (fun e σ' k => ?_) (zb8.ofEx (Q := _) hd.1 h))
  cases e with
  | normal => exact zb8.cut n ho hd.2 k
  | exit i => exact k
  | goto l => exact k
  | ret => exact k
  | panic ch => exact k
  | outgrown => exact k
attribute [go_sem] zg7 zkc preC sufC
end Go.Proofs.Yteeaofpphmhjdaa
namespace Go.Proofs.Yteeaofpphmhjdaa
set_option linter.unusedSimpArgs false
set_option linter.unusedVariables false
set_option linter.unusedSectionVars false
set_option maxRecDepth 4000
open Go.RowKit
variable {P : Program} {N : Nat}
theorem zig {ops : Array Oper} {K : St -> Prop} {n0 : Nat -> Prop} {w0 : World} {A0 : (Nat -> Prop) × RP} {R : Exit -> Act -> World -> Prop} {rest : List Nat} (hg : ∀ o ∈ ops.toList, o.guard = none) (hR : ∀ a w σ g, K σ -> Rel n0 N σ g a w -> LtK n0 w -> Bk n0 w0 w -> (g.A0, g.R0) = A0 -> wpOps P ops R rest a w) :
  ∀ (k i : Nat), i + k <= ops.size -> (∀ o ∈ ops.toList, ∀ d, o.dst = some d -> d < N) -> ∀ (σ : St) (g : Gh) (a : Act) (w : World), zaz P ops ((ops.toList.drop i).take k) σ K -> Rel n0 N σ g a w -> LtK n0 w -> Bk n0 w0 w -> (g.A0, g.R0) = A0 -> wpOps P ops R (List.range' i k ++ rest) a w
 | 0, i, hi, hd, σ, g, a, w, h, hr, hn, hb, hA => by
  rw [List.take_zero] at h
  exact hR a w σ g h hr hn hb hA
 | k + 1, i, hi, hd, σ, g, a, w, h, hr, hn, hb, hA => by
  have hlt : i < ops.size := by omega
  have hcons : ops.toList.drop i = ops[i] :: ops.toList.drop (i + 1) := by
   rw [List.drop_eq_getElem_cons (by simpa using hlt)]; rfl
  rw [hcons, List.take_succ_cons] at h
  rw [show List.range' i (k + 1) ++ rest = i :: (List.range' (i + 1) k ++ rest) from rfl, wpOps_cons]
  have ho : ops[i]? = some ops[i] := by simp [hlt]
  have hdi : ∀ d, ops[i].dst = some d -> d < N := hd _ (by simp)
  have hgi : ops[i].guard = none := hg _ (by simp)
  unfold wpOp
  simp only [ho]
  unfold zaz exG at h
  rw [hgi] at h
  have : Region.wanted ops[i] (yielded ops a.tmps) = true := by simp [Region.wanted, hgi]
  rw [if_pos this]
  exact Or.inl (zby (fun a' w' ⟨σ', g', h0, k1, k2, k3, k4⟩ => zig hg hR k (i + 1) (by omega) hd σ' g' a' w' h0 k1 (hn.mono k2.size) (hb.trans k2) (by rw [k3, k4]; exact hA)) (zda h n0 N g a w hr hn hdi))
end Go.Proofs.Yteeaofpphmhjdaa
namespace Go.Proofs.Yteeaofpphmhjdaa
set_option linter.unusedSimpArgs false
set_option linter.unusedVariables false
set_option linter.unusedSectionVars false
set_option maxRecDepth 4000
open Go.RowKit
variable {P : Program} {N : Nat}
attribute [go_sem] Option.bind_some Option.map_some
end Go.Proofs.Yteeaofpphmhjdaa
namespace Go.Proofs.Yteeaofpphmhjdaa
set_option linter.unusedSimpArgs false
set_option linter.unusedVariables false
set_option linter.unusedSectionVars false
set_option maxRecDepth 4000
open Go.RowKit
variable {P : Program} {N : Nat}
theorem zb7 {w : World} {zt : T} {z : Value} (h : zan w zt z []) : ∀ n, zaj w (List.replicate n [zt]).flatten (List.replicate n z) []
 | 0 => ⟨rfl, rfl⟩
 | n + 1 => by
  rw [List.replicate_succ, List.replicate_succ, List.flatten_cons]
  exact ⟨z, List.replicate n z, [], [], rfl, rfl, h, zb7 h n⟩
theorem zhh : ∀ {rows : List (List T)}, lens 1 rows -> rows.flatten.length = rows.length
 | [], _ => rfl
 | r :: rs, h => by
  rw [List.flatten_cons, List.length_append, zhh fun x hx => h x (by simp [hx]), h r (by simp), List.length_cons]; omega
theorem zfg : ∀ {rows : List (List T)} (k : Nat), lens 1 rows -> (rows.take k).flatten = rows.flatten.take k
 | [], k, _ => by simp
 | r :: rs, 0, _ => rfl
 | r :: rs, k + 1, h => by
  obtain ⟨x, rfl⟩ := List.length_eq_one_iff.1 (h r (by simp))
  rw [List.take_succ_cons, List.flatten_cons, List.flatten_cons, zfg k fun y hy => h y (by simp [hy])]
  rfl
def clrM (P : Program) (t : TypeId) (x lo : Operand) (d : Nat) (zt : T) (K : St -> Prop) (σ : St) : Prop := match σ.get P t x, σ.get P 0 lo with
 | .one (.ow e gn), .one (.t (.int _ k)) => zao (σ.ev e) fun y => y.gen = gn /\ y.on = true /\ y.deep = true /\ y.sz = 1 /\ flR y.rows = true /\ 0 <= k /\ k < y.rows.length /\ K ((σ.apd e [] ⟨true, 1, y.rows.take k.toNat ++ List.replicate (y.rows.length - k.toNat) [zt], gn, true⟩).put (some d) (.one .any))
 | _, _ => False
theorem zq9 {t : TypeId} {x lo : Operand} {d : Nat} {zt : T} {K : St -> Prop} {σ : St} (h : clrM P t x lo d zt K σ) : ∃ e gn kk k rows, σ.get P t x = .one (.ow e gn) /\ σ.get P 0 lo = .one (.t (.int kk k)) /\ σ.ev e = some ⟨true, 1, rows, gn, true⟩ /\ flR rows = true /\ 0 <= k /\ k < rows.length /\ K ((σ.apd e [] ⟨true, 1, rows.take k.toNat ++ List.replicate (rows.length - k.toNat) [zt], gn, true⟩).put (some d) (.one .any)) := by
 unfold clrM at h
 split at h
 ·rename_i e gn kk k h1 h2
  obtain ⟨y, he, h3⟩ := zam h
  obtain ⟨dp, sz, rows, g, on⟩ := y
  obtain ⟨rfl, rfl, rfl, rfl, h4, h5, h6, h7⟩ := h3
  exact ⟨e, _, kk, k, rows, h1, h2, he, h4, h5, h6, h7⟩
 ·exact h.elim
theorem zb8.clr {i d : Nat} {ops : Array Oper} {t el : TypeId} {x lo : Operand} {y0 y1 : TypeId} {p0 p1 : String} {f0 f1 : Array Edge} {σ : St} {Q : Exit -> St -> Prop} {z : Value} (m : Nat) (zt : T) (hz : ops.size = m + 2) (c0 : ops[m]? = some ⟨some d, .slice t x (some lo) none none, y0, p0, f0, none⟩) (c1 : ops[m + 1]? = some ⟨none, .call ⟨.builtin .clear, #[.tmp d], #[t]⟩, y1, p1, f1, none⟩)
  (hg : (ops.toList.all fun o => o.guard.isNone) = true) (hd : zbp N (.region i ops false) = true) (hdN : d < N) (hel : elT P t = some el) (hsz : za1 P el = some 1) (hzv : ∀ w, (zeroValue el).run P w = .ok z w) (hzc : z.cells = #[z]) (hz1 : z.oneCell' = true) (hzt : ∀ w, zan w zt z []) (hzf : zt.flat = true)
  (h : exo P ops (ops.toList.take m) [] (fun _ σ' => clrM P t x lo d zt (Q .normal) σ') σ) : zb8 P N (.region i ops false) σ Q := fun n0 w0 A0 g a w hR hn hb hA => by
 refine wp_region ?_
 have hd' : ∀ o ∈ ops.toList, ∀ d, o.dst = some d -> d < N := fun o ho d hdd => by
  simp only [zbp, Array.all_eq_true_iff_forall_mem] at hd
  have := hd o (by simpa using ho)
  rw [hdd] at this
  simpa using this
 have hg' : ∀ o ∈ ops.toList, o.guard = none := fun o ho => by
  have := List.all_eq_true.1 hg o ho
  simpa using this
 rw [hz, List.range_eq_range', show List.range' 0 (m + 2) = List.range' 0 m ++ [m, m + 1] by rw [show m + 2 = m + 1 + 1 from rfl, List.range'_1_concat, List.range'_1_concat]; simp]
 refine zig (w0 := w0) (A0 := A0) hg' ?_ m 0 (by omega) hd' σ g a w (by simpa [exo, znk] using h) hR hn hb hA
 intro a w σ g hK hR hn hb hA
 obtain ⟨e, gn, kk, k, rows, s1, s2, he, hfl, hk0, hkl, hK⟩ := zq9 hK
 have v1 := hR.get P t x
 rw [s1] at v1
 obtain ⟨v1, -⟩ := v1
 obtain ⟨vs0, fps, top, hT⟩ := hR.tgt he rfl
 have hlens := hT.lens
 simp only at hlens
 rcases hT.val with ⟨_, hh, _⟩ | ⟨b, cap, cells, cty, w1, w2, w3, w4, w5, w6, w7⟩
 ·simp only at hh; rw [hh] at hkl; simp at hkl; omega
 simp only at w1 w2 w5 w6
 obtain ⟨kn, rfl⟩ : ∃ kn : Nat, k = kn := ⟨k.toNat, by omega⟩
 rw [Int.toNat_natCast] at hK
 have hkl : kn < rows.length := by omega
 have hfps : fps = [] := by
  have hown := hT.own rfl
  simp only at hown
  have : ∀ {ts : List T} {vs : List Value} {f : List Nat}, (∀ c ∈ ts, c.flat = true) -> zaj w ts vs f -> f = [] := fun {ts} => by
   induction ts with
   | nil => intro vs f _ h; exact h.2
   | cons c ts ih =>
    intro vs f hc h
    obtain ⟨v, vs', f1, f2, _, rfl, h1, h2⟩ := h
    rw [ih (fun c' hc' => hc c' (by simp [hc'])) h2, List.append_nil]
    have hcf := hc c (by simp)
    cases c <;> simp only [T.flat, Bool.false_eq_true] at hcf <;> unfold zan at h1
    ·exact h1.2.2.2
    ·exact h1.2
    ·exact h1.2.2
    ·exact h1.2
  exact this (zgj hfl) hown
 subst hfps
 have hbn := zbm (P := P) (low := some lo) (high := none) (len := rows.length) (cap := cap) hR true (l := (kn : Int)) (u := (rows.length : Int)) (by simp only [zex, s2]) rfl (by omega) (by omega) (by omega) w2
 have hun : P.underlying t = some (.slice el) := zca hel
 have e0 : (execOp a.eval ⟨some d, .slice t x (some lo) none none, y0, p0, f0, none⟩).run P w = .ok (.value (.slice (some ⟨b, kn, none⟩) (rows.length - kn) (cap - kn))) w := by
  unfold execOp
  have hcp : ¬ cap = kn := by omega
  rw [Int.toNat_natCast, Int.toNat_natCast, Option.map_some, Option.map_none] at hbn
  simp only [Instr.sliceAt, Instr.slice, Sem.run_bind, run_underlying hun, Result.andThen, v1, w1, Option.map_some, Option.map_none, hbn, zax hsz, Sem.run_pure]
  rw [if_neg hcp]
  simp only [Addr.add]
  congr 2
  split <;> simp_all
 rw [wpOps_cons]
 unfold wpOp
 simp only [c0]
 rw [if_pos (by simp [Region.wanted])]
 refine Or.inl ?_
 unfold Oper.wp
 rw [e0]
 show wpOps P ops _ [m + 1] _ w
 rw [wpOps_cons]
 unfold wpOp
 simp only [c1]
 rw [if_pos (by simp [Region.wanted])]
 refine Or.inl ?_
 unfold Oper.wp
 have ev : (a.put (some d) (.slice (some ⟨b, kn, none⟩) (rows.length - kn) (cap - kn))).eval (.tmp d) = .slice (some ⟨b, kn, none⟩) (rows.length - kn) (cap - kn) := by
  show (a.tmps.setIfInBounds d _).getD d undef = _
  exact zb4 hR.size hdN _ _
 have hcs : kn + (rows.length - kn) <= cells.size := by rw [w5]; omega
 have hst := run_storeCells_at P b kn cty (List.replicate (rows.length - kn) z) 0 cells w w4 (by simpa using hcs) (fun v hv => by rw [List.eq_of_mem_replicate hv]; exact hz1)
 have hzc' : (Builtin.zeroCells z.cells (rows.length - kn)).toList = List.replicate (rows.length - kn) z := by
  rw [hzc]
  simp [Builtin.zeroCells]
  apply List.ext_getElem
  ·simp
  ·intro i h1 h2
   simp [Nat.mod_one]
 simp only [Nat.add_zero, List.length_replicate] at hst
 have e1 : (execOp (a.put (some d) (.slice (some ⟨b, kn, none⟩) (rows.length - kn) (cap - kn))).eval ⟨none, .call ⟨.builtin .clear, #[.tmp d], #[t]⟩, y1, p1, f1, none⟩).run P w = .ok (.value (.tuple #[])) (w.setRow b (cells.toList.take kn ++ List.replicate (rows.length - kn) z ++ cells.toList.drop (kn + (rows.length - kn))).toArray) := by
  obtain ⟨n', hn'⟩ : ∃ n', rows.length - kn = n' + 1 := ⟨rows.length - kn - 1, by omega⟩
  rw [hn'] at ev hst hzc' ⊢
  unfold execOp
  simp [resolve, invoke, builtin, ev, Builtin.clear_, run_underlying hun, hzv, hzc', hst, Result.andThen]
 rw [e1]
 have hown := hT.own rfl
 simp only at hown
 rw [<- List.take_append_drop kn rows.flatten] at hown
 obtain ⟨u1, u2, f1, f2, hu, hf, k1, k2⟩ := hown.split
 obtain ⟨rfl, rfl⟩ := List.append_eq_nil_iff.1 hf.symm
 have hfl1 := zhh hlens
 have l1 : u1.length = kn := by rw [k1.len, List.length_take]; omega
 rw [Nat.mul_one] at w6
 obtain ⟨rest, hrest⟩ : ∃ rest, cells.toList = vs0 ++ rest := ⟨cells.toList.drop rows.length, by rw [<- w6, List.take_append_drop]⟩
 have hvl : vs0.length = rows.length := by
  have := hT.len
  simp only at this
  omega
 have hnew : cells.toList.take kn ++ List.replicate (rows.length - kn) z ++ cells.toList.drop (kn + (rows.length - kn)) = u1 ++ List.replicate (rows.length - kn) z ++ rest := by
  rw [show kn + (rows.length - kn) = vs0.length by omega, hrest, List.drop_left, hu, List.append_assoc u1 u2, <- l1, List.take_left]
 rw [hnew]
 have hsame : ∀ k, k ≠ b -> (w.setRow b (u1 ++ List.replicate (rows.length - kn) z ++ rest).toArray).heap[k]? = w.heap[k]? := fun k hk => setRow_other w _ k _ hk
 have hblk := setRow_heap w b cells (u1 ++ List.replicate (rows.length - kn) z ++ rest).toArray cty (0, 0) w4
 have hsize : (w.setRow b (u1 ++ List.replicate (rows.length - kn) z ++ rest).toArray).heap.size = w.heap.size := setRow_size _ _ _
 have hbk : Bk n0 w (w.setRow b (u1 ++ List.replicate (rows.length - kn) z ++ rest).toArray) := ⟨rfl, rfl, rfl, Nat.le_of_eq hsize.symm, fun k hk => hsame k fun e' => (hT.bx b (Or.inl w7.symm)).2.1.2.2 (e' ▸ hk)⟩
 generalize w.setRow b (u1 ++ List.replicate (rows.length - kn) z ++ rest).toArray = w' at hsame hblk hsize hbk ⊢
 have hyl : (rows.take kn ++ List.replicate (rows.length - kn) [zt]).length = rows.length := by simp; omega
 have hR' := hR.apd_fin (w' := w') (y := ⟨true, 1, rows.take kn ++ List.replicate (rows.length - kn) [zt], gn, true⟩) (v' := g.ψ e gn) (fp' := [b]) (fps2 := []) hT rfl (fun m hm => ⟨by
   obtain ⟨q, hq, hmq⟩ := hm
   rw [he, Option.some.injEq] at hq
   subst hq
   exact hmq, fun em => by simp only at em; rw [em]⟩) (cons := []) (fun p hp => by simp at hp) (fun b hb => by simp at hb) b (Or.inl w7.symm) (fun k _ hk => hsame k hk) (Nat.le_of_eq hsize.symm) hn (by simp) (fun c hc => by
   simp only [List.mem_singleton] at hc
   exact Or.inl hc) (fun c hc => by simpa using hc.symm) fun A' hA' => by
  refine ⟨some ⟨b, 0, none⟩, cap, by rw [hyl]; exact w1, by rw [hyl]; exact w2, w3, Or.inr ⟨b, _, cty, [], rfl, rfl, hblk, ?_, ?_⟩⟩
  ·have := congrArg List.length hrest
   simp only [List.length_append, Array.length_toList] at this
   simp only [List.size_toArray, List.length_append, List.length_replicate]
   omega
  ·simp only [if_true]
   have hl2 : lens 1 (rows.take kn ++ List.replicate (rows.length - kn) [zt]) := fun r hr => by
    rcases List.mem_append.1 hr with h | h
    ·exact hlens r (List.mem_of_mem_take h)
    ·rw [List.eq_of_mem_replicate h]; rfl
   have ha : zaj w' (rows.take kn ++ List.replicate (rows.length - kn) [zt]).flatten (u1 ++ List.replicate (rows.length - kn) z) [] := by
    rw [List.flatten_append, zfg kn hlens]
    exact (k1.keep fun c hc => by simp at hc).append (zb7 (hzt w') _)
   refine zad.of_vals hl2 ha fun j u hu => ?_
   rw [Nat.zero_add]
   simp only [List.getElem?_toArray]
   rw [List.getElem?_append_left (List.getElem?_eq_some_iff.1 hu).1]
   exact hu
 refine ⟨_, _, hK, (hR'.put (some d) (x := .one .any) (v := .slice (some ⟨b, kn, none⟩) (rows.length - kn) (cap - kn)) trivial fun j hj => by cases hj; exact hdN), hn.mono hbk.size, hb.trans hbk, hA⟩
def cutM (P : Program) (t : TypeId) (x hi : Operand) (d r : Nat) (K : St -> Prop) (σ : St) : Prop := match σ.get P t x, σ.get P 0 hi with
 | .one (.ow e gn), .one (.t (.int _ k)) => zao (σ.ev e) fun y => y.gen = gn /\ y.on = true /\ y.deep = true /\ y.sz = 1 /\ flR y.rows = true /\ 0 <= k /\ k < y.rows.length /\ K (((σ.apd e [] ⟨true, 1, y.rows.take k.toNat, gn + 1, true⟩).put (some d) (.one (.ow e (gn + 1)))).put (some r) (.one (.ow e (gn + 1))))
 | _, _ => False
theorem zq6 {t : TypeId} {x hi : Operand} {d r : Nat} {K : St -> Prop} {σ : St} (h : cutM P t x hi d r K σ) : ∃ e gn kk k rows, σ.get P t x = .one (.ow e gn) /\ σ.get P 0 hi = .one (.t (.int kk k)) /\ σ.ev e = some ⟨true, 1, rows, gn, true⟩ /\ flR rows = true /\ 0 <= k /\ k < rows.length /\ K (((σ.apd e [] ⟨true, 1, rows.take k.toNat, gn + 1, true⟩).put (some d) (.one (.ow e (gn + 1)))).put (some r) (.one (.ow e (gn + 1)))) := by
 unfold cutM at h
 split at h
 ·rename_i e gn kk k h1 h2
  obtain ⟨y, he, h3⟩ := zam h
  obtain ⟨dp, sz, rows, g, on⟩ := y
  obtain ⟨rfl, rfl, rfl, rfl, h4, h5, h6, h7⟩ := h3
  exact ⟨e, _, kk, k, rows, h1, h2, he, h4, h5, h6, h7⟩
 ·exact h.elim
theorem zb8.cutO {i d r : Nat} {ops : Array Oper} {t el : TypeId} {x hi : Operand} {y0 y1 : TypeId} {p0 p1 : String} {f0 f1 : Array Edge} {σ : St} {Q : Exit -> St -> Prop} (m : Nat) (hz : ops.size = m + 2) (c0 : ops[m]? = some ⟨some d, .slice t x none (some hi) none, y0, p0, f0, none⟩) (c1 : ops[m + 1]? = some ⟨some r, .assign (.tmp d), y1, p1, f1, none⟩)
  (hg : (ops.toList.all fun o => o.guard.isNone) = true) (hd : zbp N (.region i ops false) = true) (hdN : d < N /\ r < N) (hel : elT P t = some el) (hsz : za1 P el = some 1)
  (h : exo P ops (ops.toList.take m) [] (fun _ σ' => cutM P t x hi d r (Q .normal) σ') σ) : zb8 P N (.region i ops false) σ Q := fun n0 w0 A0 g a w hR hn hb hA => by
 refine wp_region ?_
 have hd' : ∀ o ∈ ops.toList, ∀ d, o.dst = some d -> d < N := fun o ho d hdd => by
  simp only [zbp, Array.all_eq_true_iff_forall_mem] at hd
  have := hd o (by simpa using ho)
  rw [hdd] at this
  simpa using this
 have hg' : ∀ o ∈ ops.toList, o.guard = none := fun o ho => by
  have := List.all_eq_true.1 hg o ho
  simpa using this
 rw [hz, List.range_eq_range', show List.range' 0 (m + 2) = List.range' 0 m ++ [m, m + 1] by rw [show m + 2 = m + 1 + 1 from rfl, List.range'_1_concat, List.range'_1_concat]; simp]
 refine zig (w0 := w0) (A0 := A0) hg' ?_ m 0 (by omega) hd' σ g a w (by simpa [exo, znk] using h) hR hn hb hA
 intro a w σ g hK hR hn hb hA
 obtain ⟨e, gn, kk, k, rows, s1, s2, he, hfl, hk0, hkl, hK⟩ := zq6 hK
 have v1 := hR.get P t x
 rw [s1] at v1
 obtain ⟨v1, -⟩ := v1
 obtain ⟨ao, cap, w1, w2, w3, w4⟩ := hR.evs e _ he rfl
 simp only at w1 w2 w4
 obtain ⟨kn, rfl⟩ : ∃ kn : Nat, k = kn := ⟨k.toNat, by omega⟩
 rw [Int.toNat_natCast] at hK
 have hkl : kn < rows.length := by omega
 rcases w4 with ⟨_, _, hh, _⟩ | ⟨b, cells, cty, fps, rfl, w5, w6, w7, w8⟩
 ·rw [hh] at hkl; simp at hkl
 rw [if_pos trivial] at w8
 have hfps := zad.flat hfl w8
 subst hfps
 have hbn := zbm (P := P) (low := none) (high := some hi) (len := rows.length) (cap := cap) hR true (l := 0) (u := (kn : Int)) rfl (by simp only [zex, s2]) (by omega) (by omega) (by omega) w2
 have hun : P.underlying t = some (.slice el) := zca hel
 have e0 : (execOp a.eval ⟨some d, .slice t x none (some hi) none, y0, p0, f0, none⟩).run P w = .ok (.value (.slice (some ⟨b, 0, none⟩) kn cap)) w := by
  unfold execOp
  have hcp : ¬ cap = 0 := by omega
  rw [Int.toNat_natCast, show ((0 : Int).toNat) = 0 from rfl, Option.map_some, Option.map_none] at hbn
  simp only [Instr.sliceAt, Instr.slice, Sem.run_bind, run_underlying hun, Result.andThen, v1, w1, Option.map_some, Option.map_none, hbn, zax hsz, Sem.run_pure]
  rw [if_neg hcp]
  simp only [Addr.add]
  congr 2
 have ev : (a.put (some d) (.slice (some ⟨b, 0, none⟩) kn cap)).eval (.tmp d) = .slice (some ⟨b, 0, none⟩) kn cap := by
  show (a.tmps.setIfInBounds d _).getD d undef = _
  exact zb4 hR.size hdN.1 _ _
 rw [wpOps_cons]
 unfold wpOp
 simp only [c0]
 rw [if_pos (by simp [Region.wanted])]
 refine Or.inl ?_
 unfold Oper.wp
 rw [e0]
 show wpOps P ops _ [m + 1] _ w
 rw [wpOps_cons]
 unfold wpOp
 simp only [c1]
 rw [if_pos (by simp [Region.wanted])]
 refine Or.inl ?_
 unfold Oper.wp
 have e1 : ∀ (a : Act) (w : World), (execOp a.eval ⟨some r, .assign (.tmp d), y1, p1, f1, none⟩).run P w = .ok (.value (a.eval (.tmp d))) w := fun a w => rfl
 rw [e1, ev]
 obtain ⟨vs0, fps, top, hT⟩ := hR.tgt he rfl
 have hmem : b ∈ g.φ e := by rw [w5]; simp
 have htop : some b = top := by
  rcases hT.val with ⟨_, hh, _⟩ | ⟨b', cap', cells', cty', q1, _, _, _, _, _, q7⟩
  ·simp only at hh; rw [hh] at hkl; simp at hkl
  ·simp only at q1
   rw [w1] at q1
   injection q1 with q1 _ _
   simp only [Option.some.injEq, Addr.mk.injEq, and_true] at q1
   rw [q1]; exact q7.symm
 have hR' := hR.apd_fin (w' := w) (y := ⟨true, 1, rows.take kn, gn + 1, true⟩) (v' := .slice (some ⟨b, 0, none⟩) kn cap) (fp' := [b]) (fps2 := []) hT rfl (fun m hm => by
   obtain ⟨q, hq, hmq⟩ := hm
   rw [he, Option.some.injEq] at hq
   subst hq
   simp only at hmq ⊢
   exact ⟨by omega, fun em => by omega⟩) (cons := []) (fun p hp => by simp at hp) (fun b hb => by simp at hb) b (Or.inl htop) (fun k _ _ => rfl) (Nat.le_refl _) hn (by simp) (fun c hc => by
   simp only [List.mem_singleton] at hc
   exact Or.inl hc) (fun c hc => by simpa using hc.symm) fun A' hA' => by
  refine ⟨some ⟨b, 0, none⟩, cap, by simp only [List.length_take]; congr 1; omega, by simp only [List.length_take]; omega, w3, Or.inr ⟨b, cells, cty, [], rfl, rfl, w6, w7, ?_⟩⟩
  simp only [if_true]
  have : ∀ (rs : List (List T)) (o k : Nat), flR rs = true -> zad w cells o 1 rs [] -> zad w cells o 1 (rs.take k) [] := fun rs => by
   induction rs with
   | nil => intro o k _ h; rw [List.take_nil]; exact h
   | cons r rs ih =>
    intro o k hf h
    cases k with
    | zero => rw [List.take_zero]; unfold zad; rfl
    | succ k =>
     unfold flR at hf
     rw [Bool.and_eq_true] at hf
     unfold zad at h
     obtain ⟨h1, f1, f2, h2, h3, h4⟩ := h
     obtain ⟨rfl, rfl⟩ := List.append_eq_nil_iff.1 h2.symm
     rw [List.take_succ_cons]
     unfold zad
     exact ⟨h1, [], [], rfl, h3, ih _ k hf.2 h4⟩
  exact this rows 0 kn hfl w8
 have hval : ∀ (σ' : St) (g' : Gh), σ'.ev e = some ⟨true, 1, rows.take kn, gn + 1, true⟩ -> g'.ψ e (gn + 1) = .slice (some ⟨b, 0, none⟩) kn cap -> VR σ' g' w (.one (.ow e (gn + 1))) (.slice (some ⟨b, 0, none⟩) kn cap) := fun σ' g' h1 h2 => ⟨h2.symm, _, h1, Nat.le_refl _⟩
 have hE : (σ.apd e [] ⟨true, 1, rows.take kn, gn + 1, true⟩).ev e = some ⟨true, 1, rows.take kn, gn + 1, true⟩ := by simp [St.apd, zac]
 have hR1 := hR'.put (some d) (x := .one (.ow e (gn + 1))) (v := .slice (some ⟨b, 0, none⟩) kn cap) (hval _ _ hE (by simp only [zac])) (fun j hj => by cases hj; exact hdN.1)
 have hR2 := hR1.put (some r) (x := .one (.ow e (gn + 1))) (v := .slice (some ⟨b, 0, none⟩) kn cap) (hval _ _ hE (by simp only [zac])) (fun j hj => by cases hj; exact hdN.2)
 exact ⟨_, _, hK, hR2, hn, hb, hA⟩
attribute [go_sem] clrM cutM
end Go.Proofs.Yteeaofpphmhjdaa
namespace Go.Proofs.Yteeaofpphmhjdaa
set_option linter.unusedSimpArgs false
set_option linter.unusedVariables false
set_option linter.unusedSectionVars false
set_option maxRecDepth 4000
open Go.RowKit
variable {P : Program}
theorem PC_ofW {f : FuncId} {fn : Func} {c : Code} {bx bx' : Bxs} {l : List AF} {res : List (Bool × D)} (hc : zbi P f) (hf : P.funcs[f]? = some fn) (hb : fn.body = some c) (hN : l.length <= fn.ntmps) (hN2 : fn.ntmps <= 1000000) (hbl : bx'.length = bx.length) (hj : AF.okJ bx.length l = true) (hs : zay (AF.ds l ++ bxA bx.flatten)) (hfs : gFS (AF.ds l ++ bxA bx.flatten) = true) (hrl : fn.results.toList.length = res.length)
  (h : zb8 P fn.ntmps c (zc0 l bx) (PB P fn.results.toList res bx')) : PC P f bx l bx' res := by
 refine ⟨hc, hbl, fun w bs bvs dvs fp tp A hinj hbf hbx hv hn hl => ?_⟩
 refine calls_of_wp hf hb ?_
 obtain ⟨g, hg, hR⟩ := zhe (N := fn.ntmps) hinj hbf hbx hv hn hl hj hN hN2 hs hfs (ξ := fun i => if 1000000 <= i then zj4 (bs (i - 1000000)) else undef) (fun i hi => if_neg (by omega)) (fun i b => by
  by_cases h : 1000000 <= i
  ·rw [if_pos h]; exact fun e => by cases e
  ·rw [if_neg h]; exact fun e => by cases e) (fun j hj => by
  rw [if_pos (by omega), show 1000000 + j - 1000000 = j by omega])
 refine wp_mono (h _ w _ g _ w hR (fun k hk => hk.1) (Bk.refl _ _) hg) fun e a' w' hq => ?_
 obtain ⟨σ', g', h1, h2, h3, h4, h5⟩ := hq
 have hξ : ∀ q, q < bx'.length -> g'.R0.ξ (1000000 + (0 + q)) = zj4 (bs (0 + q)) := fun q hq => by
  rw [(Prod.mk.inj h5).2, Nat.zero_add]
  show (if 1000000 <= 1000000 + q then zj4 (bs (1000000 + q - 1000000)) else undef) = _
  rw [if_pos (by omega), show 1000000 + q - 1000000 = q by omega]
 have key : (∃ pl, PB0 P fn.results.toList res bx' pl σ') -> ∃ v, (results fn a'.tmps).run P w' = .ok v w' /\ ∃ us bvs' fp' tp', Ending.returned v = .returned (zbv us) /\ zke w' bs 0 bvs' bx' /\ us.length = res.length ∧
   zal w' (fun k => (k < w'.heap.size /\ k ∉ fp' /\ ∀ j, j < bx.length -> k ≠ bs j) /\ (A k \/ w.heap.size <= k \/ k ∈ fp)) (res ++ bxA bx'.flatten) (us ++ bvs'.flatten) fp' tp' /\ fp'.Nodup /\ (∀ b ∈ fp', b ∈ fp \/ w.heap.size <= b) /\ Bk (fun k => k < w.heap.size /\ k ∉ fp /\ ∀ j, j < bx.length -> k ≠ bs j) w w' := by
  rintro ⟨pl, hk⟩
  obtain ⟨vs, hvs, hk⟩ := zam hk
  obtain ⟨us, r1, r2⟩ := zbo h2 fn hvs
  obtain ⟨cs, bvs', k0, b1, b2, b3⟩ := zen (bs := bs) h2 hN2 hξ hk
  obtain ⟨B, hB⟩ := h2.fam
  obtain ⟨s, k1, ⟨tp', k2⟩, k3, k4⟩ := zcj h2 hB k0 (VRl.append r2 b2)
  rw [List.append_nil] at k4
  have hsp : s.Pairwise okP := (List.pairwise_reverse.1 (k4 List.Pairwise.nil)).imp fun h => h.symm
  have hin : ∀ b ∈ bks B s, ∃ e, σ'.On e /\ b ∈ g'.φ e := fun b hb => by
   obtain ⟨x, hx, hm⟩ := List.mem_flatMap.1 hb
   exact ⟨x.1, k3 x hx, hB.sub x.1 x.2 b (k3 x hx) hm⟩
  have hbβ : ∀ j, j < bx.length -> σ'.bx (1000000 + j) ≠ none /\ g'.β (1000000 + j) = bs j := fun j hj => by
   have := b3 j (by omega)
   rwa [Nat.zero_add] at this
  have hA : ∀ b, zcx σ' g' w' b -> (b < w'.heap.size /\ b ∉ bks B s /\ ∀ j, j < bx.length -> b ≠ bs j) /\ (A b \/ w.heap.size <= b \/ b ∈ fp) := fun b hb => by
   have hnb : ∀ j, j < bx.length -> b ≠ bs j := fun j hj e => hb.1.1 _ (hbβ j hj).1 (by rw [(hbβ j hj).2, e])
   refine ⟨⟨hb.1.2.2.1, fun hm => ?_, hnb⟩, ?_⟩
   ·obtain ⟨e, ho, hm⟩ := hin b hm
    exact hb.2 e ho hm
   ·have h0 := hb.1.2.2.2
    rw [(Prod.mk.inj h5).1] at h0
    rcases h0 with h0 | h0 | h0 | ⟨j, hj, h0⟩
    ·exact Or.inl h0
    ·exact Or.inr (Or.inl h0)
    ·exact Or.inr (Or.inr h0)
    ·exact absurd h0 (hnb j hj)
  refine ⟨_, r1, us, bvs', bks B s, tp', rfl, b1, by rw [r2.len, <- hrl]; exact zcw hvs, zal.keepA hA k2, zce h2 hB k3 hsp, fun b hb => ?_, h4⟩
  obtain ⟨e, ho, hm⟩ := hin b hb
  have h0 := (h2.ebase e ho b hm).2
  rw [(Prod.mk.inj h5).2] at h0
  rcases h0 with h0 | h0 | ⟨j, hj, h0⟩
  ·exact Or.inl h0
  ·exact Or.inr h0
  ·have := h2.ebx e _ ho (hbβ j hj).1
   rw [(hbβ j hj).2] at this
   exact absurd (h0 ▸ hm) this
 have key' : ∀ {Y : Prop}, (PB0 P fn.results.toList res bx' [] σ' \/ ∃ pl, PB0 P fn.results.toList res bx' pl σ') -> ((∃ pl, PB0 P fn.results.toList res bx' pl σ') -> Y) -> Y := fun h k => h.elim (fun h => k ⟨[], h⟩) k
 cases e with
 | normal => exact ⟨h2.defers, key' h1 key⟩
 | ret => exact ⟨h2.defers, key' h1 key⟩
 | exit _ => exact h1.elim
 | goto _ => exact h1.elim
 | panic _ => exact h1.elim
 | outgrown => exact h1.elim
end Go.Proofs.Yteeaofpphmhjdaa
namespace Go.Proofs.Yteeaofpphmhjdaa
set_option linter.unusedSimpArgs false
set_option linter.unusedVariables false
set_option linter.unusedSectionVars false
set_option maxRecDepth 4000
open Go.RowKit
theorem zi0 (xs : List Int) (i : Nat) (v : Int) (hi : i < xs.length) : zb9 (xs.map fun s => [T.int .i64 s]) i 0 [.int .i64 v] = (xs.set i v).map fun s => [T.int .i64 s] := by
 unfold zb9 setR
 rw [List.getD_eq_getElem?_getD, List.getElem?_map, List.getElem?_eq_getElem hi]
 simp [List.map_set]
end Go.Proofs.Yteeaofpphmhjdaa
namespace Go.Proofs.Yteeaofpphmhjdaa
set_option linter.unusedSimpArgs false
set_option linter.unusedVariables false
set_option linter.unusedSectionVars false
set_option maxRecDepth 4000
open Go.RowKit
theorem zls : ∀ {c : List Int}, zbj (c.map fun s => [T.int .i64 s]) -> ∀ l ∈ c, -9223372036854775808 <= l /\ l <= 9223372036854775807
 | [], _, l, hl => by simp at hl
 | x :: c, h, l, hl => by
  have h' : zki [T.int .i64 x] /\ zbj (c.map fun s => [T.int .i64 s]) := h
  have m1 : IntKind.min .i64 = -9223372036854775808 := by decide
  have m2 : IntKind.max .i64 = 9223372036854775807 := by decide
  rcases List.mem_cons.1 hl with rfl | hl
  ·have h2 : wfT (T.int .i64 l) := h'.1.1
   unfold wfT at h2
   rw [m1, m2] at h2
   exact h2
  ·exact zls h'.2 l hl
def abW (n : Int) : Int := if n < 0 then IntKind.i64.wrap (0 - n) else n
theorem zqw {n : Int} (h : -9223372036854775808 < n) (h2 : n <= 9223372036854775807) : abW n = ab n := by
 unfold abW
 split
 ·rw [zap (by omega) (by omega)]; unfold ab; omega
 ·unfold ab; omega
theorem abW_in {n : Int} (h : -9223372036854775808 <= n) (h2 : n <= 9223372036854775807) : inB (abW n) 1 12 = (decide (0 < ab n) && decide (ab n <= 12)) := by
 by_cases e : n = -9223372036854775808
 ·subst e; decide
 ·rw [zqw (by omega) h2]
  unfold inB
  congr 1
theorem zfr (n : Int) : FC Try.prog 98 [iD n] [iD (abW n)] := by
 refine za8 Try.call98 Try.func98 rfl (by kernel_rfl) (zcn (by kernel_rfl)) ?_
 simp -implicitDefEqProofs only [go_sem, Try.results98]
 refine ⟨fun h => ?_, fun h => ?_⟩
 ·have : n < 0 := by simpa using h
  unfold abW; rw [if_pos this]
 ·have : ¬ n < 0 := by simpa using h
  unfold abW; rw [if_neg this]
theorem zib (c : List Int) : FC Try.prog 63 [.one (zbu c)] [bD (pcl c)] := by
 refine zd9 (fun hw => ?_) Try.call63
 have hl : c.length <= 9223372036854775807 := by have := hw.1.1; simpa using this
 have hwf := zls hw.1.2
 refine za8 Try.call63 Try.func63 rfl (by kernel_rfl) (zcn (by kernel_rfl)) ?_
 simp -implicitDefEqProofs only [go_sem, Try.results63]
 refine zak (fun k : Nat => hd [(0, vT (zbu c)), (3, vI k)] [] []) (fun k => k <= c.length /\ pcl c = zkw (pv c k) (c.drop k) /\ (0 < k -> -12 <= c.getD (k - 1) 0 /\ c.getD (k - 1) 0 <= 12)) (fun k => c.length - k) 0 (zaf ?_) ?_ ?_
 ·simp -implicitDefEqProofs only [go_sem]
 ·exact ⟨Nat.zero_le _, rfl, fun h => absurd h (by omega)⟩
 ·intro k ⟨hk, hr, hpr⟩
  by_cases hlt : k < c.length
  ·have hsu := zkm c hlt
   have hgd : c.getD k 0 = c[k] := by rw [List.getD_eq_getElem?_getD, List.getElem?_eq_getElem hlt]; rfl
   rw [List.drop_eq_getElem_cons hlt] at hr
   unfold zkw at hr
   have hb := hwf c[k] (List.getElem_mem hlt)
   have HA := zfr c[k]
   have HI := zqk (abW c[k]) 1 12
   rw [abW_in hb.1 hb.2] at HI
   cases h1 : (decide (0 < ab c[k]) && decide (ab c[k] <= 12))
   ·rw [h1] at HI
    have hno : pcl c = false := by
     rw [hr]
     have hpv : 0 <= pv c k := by unfold pv ab; split <;> omega
     rw [Bool.and_eq_false_iff, decide_eq_false_iff_not, decide_eq_false_iff_not] at h1
     rcases h1 with h1 | h1
     ·rw [show decide (pv c k < ab c[k]) = false by simp; omega]; rfl
     ·rw [show decide (ab c[k] <= 12) = false by simpa using h1]; simp
    simp -implicitDefEqProofs only [go_sem, hlt]
    refine drawn (by kernel_rfl) ?_
    simp -implicitDefEqProofs only [go_sem, zai, hlt]
    refine zfk (HA) (by simp -implicitDefEqProofs only [go_sem]) ?_
    simp -implicitDefEqProofs only [go_sem]
    refine zfk (HI) (by simp -implicitDefEqProofs only [go_sem]) ?_
    simp -implicitDefEqProofs only [go_sem]
    refine ⟨by kernel_rfl, ?_⟩
    rw [hno]
   ·rw [h1] at HI
    have hab : 0 < ab c[k] /\ ab c[k] <= 12 := by simpa using h1
    have hin : -12 <= c[k] /\ c[k] <= 12 := (znq hab).2
    by_cases hk0 : k = 0
    ·have hkf : ((0 : Int) < (k : Int)) = False := by simp; omega
     simp -implicitDefEqProofs only [go_sem, hlt]
     refine drawn (by kernel_rfl) ?_
     simp -implicitDefEqProofs only [go_sem, zai, hlt, hkf]
     refine zfk (HA) (by simp -implicitDefEqProofs only [go_sem]) ?_
     simp -implicitDefEqProofs only [go_sem]
     refine zfk (HI) (by simp -implicitDefEqProofs only [go_sem, hkf]) ?_
     simp -implicitDefEqProofs only [go_sem, hkf]
     refine ⟨by kernel_rfl, ?_⟩
     rw [za0 (by omega)]
     refine ⟨k + 1, ⟨hlt, ?_, fun _ => ?_⟩, by omega, zaf (by simp -implicitDefEqProofs only [go_sem])⟩
     ·have hpv : pv c k = 0 := by unfold pv; rw [if_pos hk0]
      rw [hr, hsu, hpv, show decide (0 < ab c[k]) = true by simpa using hab.1, show decide (ab c[k] <= 12) = true by simpa using hab.2]; rfl
     ·rw [Nat.add_sub_cancel, hgd]; exact hin
    ·have hkp : (0 : Int) < k := by omega
     have hk1 : k - 1 < c.length := by omega
     have hw1 : IntKind.i64.wrap ((k : Int) - 1) = ((k - 1 : Nat) : Int) := by rw [zap (by omega) (by omega)]; omega
     have hg1 : c.getD (k - 1) 0 = c[k - 1] := by rw [List.getD_eq_getElem?_getD, List.getElem?_eq_getElem hk1]; rfl
     have hp1 := hpr (by omega)
     rw [hg1] at hp1
     have HB := zfr c[k - 1]
     rw [zqw (by omega) (by omega)] at HB HA
     have hpv : pv c k = ab c[k - 1] := by unfold pv; rw [if_neg hk0, hg1]
     rw [hpv] at hr
     simp -implicitDefEqProofs only [go_sem, hlt]
     refine drawn (by kernel_rfl) ?_
     simp -implicitDefEqProofs only [go_sem, zai, hlt]
     refine zfk (zfr c[k]) (by simp -implicitDefEqProofs only [go_sem]) ?_
     simp -implicitDefEqProofs only [go_sem]
     refine zfk (HI) (by simp -implicitDefEqProofs only [go_sem, hkp, hw1, hk1, hlt, zai]) ?_
     simp -implicitDefEqProofs only [go_sem, hkp, hw1, hk1, hlt, zai]
     refine zqe (HB) (by simp -implicitDefEqProofs only [go_sem, hlt, zai]) ?_
     simp -implicitDefEqProofs only [go_sem, hlt, zai]
     refine zqe (HA) (by simp -implicitDefEqProofs only [go_sem]) ?_
     simp -implicitDefEqProofs only [go_sem]
     refine ⟨by kernel_rfl, ?_⟩
     rw [za0 (by omega)]
     refine ⟨fun h => ?_, fun h => ⟨k + 1, ⟨hlt, ?_, fun _ => ?_⟩, by omega, zaf (by simp -implicitDefEqProofs only [go_sem])⟩⟩
     ·have : ¬ ab c[k - 1] < ab c[k] := by simp at h; omega
      rw [hr, show decide (ab c[k - 1] < ab c[k]) = false by simpa using this]; simp
     ·have : ab c[k - 1] < ab c[k] := by simp at h; omega
      rw [hr, hsu, show decide (ab c[k - 1] < ab c[k]) = true by simpa using this, show decide (ab c[k] <= 12) = true by simpa using hab.2]; rfl
     ·rw [Nat.add_sub_cancel, hgd]; exact hin
  ·simp -implicitDefEqProofs only [go_sem, hlt]
   rw [hr, List.drop_of_length_le (by omega)]; rfl
end Go.Proofs.Yteeaofpphmhjdaa
namespace Go.Proofs.Yteeaofpphmhjdaa
set_option linter.unusedSimpArgs false
set_option linter.unusedVariables false
set_option linter.unusedSectionVars false
set_option maxRecDepth 4000
open Go.RowKit
theorem zfx (xs : List (List Int)) (p : List Int -> Bool) (g : FuncId) (caps : List T) (H : ∀ x ∈ xs, FC Try.prog g (.one (zbu x) :: caps.map .one) [bD (p x)]) : FC Try.prog 57 [.one (zbf xs), .one (.fn g caps)] [iD (zql xs p)] := by
 refine zd9 (fun hw => ?_) Try.call57
 have hl : xs.length <= 9223372036854775807 := by simpa [zm4, wfT] using hw.1.1
 refine za8 Try.call57 Try.func57 rfl (by kernel_rfl) (zcn (by kernel_rfl)) ?_
 simp -implicitDefEqProofs only [go_sem, Try.results57]
 refine zak (fun k : Nat => hd [(0, vT (zbf xs)), (1, vT (.fn g caps)), (7, vI xs.length), (8, vI k)] [] []) (fun k => k <= xs.length /\ ∀ x ∈ xs.take k, p x = false) (fun k => xs.length - k) 0 (zaf ?_) ?_ ?_
 ·simp -implicitDefEqProofs only [go_sem]
 ·simp
 ·intro k ⟨hk, hr⟩
  by_cases hlt : k < xs.length
  ·simp -implicitDefEqProofs only [go_sem, zai, hlt, ne_eq]
   refine callF (H xs[k] (List.getElem_mem hlt)) (by simp -implicitDefEqProofs only [go_sem, ne_eq]) ?_
   simp -implicitDefEqProofs only [go_sem, ne_eq]
   refine ⟨fun h => ?_, fun h => ⟨k + 1, ⟨hlt, zdc hlt hr h⟩, by omega, zaf (by simp -implicitDefEqProofs only [go_sem]; rw [za0 (by omega)])⟩⟩
   rw [zfc hlt hr h]
  ·simp -implicitDefEqProofs only [go_sem, hlt]
   rw [List.take_of_length_le (by omega)] at hr
   rw [zgq hr]
theorem zdw (xs : List (List Int)) (p : List Int -> Bool) (g : FuncId) (caps : List T) (H : ∀ x ∈ xs, FC Try.prog g (.one (zbu x) :: caps.map .one) [bD (p x)]) : FC Try.prog 76 [.one (zbf xs), .one (.fn g caps)] [bD (xs.any p)] := by
 refine za8 Try.call76 Try.func76 rfl (by kernel_rfl) (zcn (by kernel_rfl)) ?_
 simp -implicitDefEqProofs only [go_sem, Try.results76]
 refine callF (zfx xs p g caps H) (by simp -implicitDefEqProofs only [go_sem]) ?_
 simp -implicitDefEqProofs only [go_sem]
 rw [zo5]
theorem zik (c : List Int) : FC Try.prog 100 [.one (zbu c)] [bD (!pcl c)] := by
 refine za8 Try.call100 Try.func100 rfl (by kernel_rfl) (zcn (by kernel_rfl)) ?_
 simp -implicitDefEqProofs only [go_sem, Try.results100]
 refine callF (ze2 c) (by simp -implicitDefEqProofs only [go_sem]) ?_
 simp -implicitDefEqProofs only [go_sem]
theorem zra (S : List (List Int)) : zey S = (decide ((S.length : Int) <= 40) && !(S.any fun c => !pcl c)) := by
 unfold zey
 congr 1
 ·rw [decide_eq_decide]; omega
 ·rw [List.not_any_eq_all_not]; simp
theorem zdx (S : List (List Int)) : FC Try.prog 54 [.one (zbf S)] [bD (zey S)] := by
 have H := zdw S (fun c => !pcl c) 100 [] fun x _ => zik x
 rw [zra]
 refine za8 Try.call54 Try.func54 rfl (by kernel_rfl) (zcn (by kernel_rfl)) ?_
 simp -implicitDefEqProofs only [go_sem, Try.results54]
 cases h : decide ((S.length : Int) <= 40)
 ·simp -implicitDefEqProofs only [go_sem, h]
 ·simp -implicitDefEqProofs only [go_sem, h]
  refine callF (H) (by simp -implicitDefEqProofs only [go_sem]) ?_
  simp -implicitDefEqProofs only [go_sem]
theorem zo3 (S : List (List Int)) : FC Try.prog 48 [.one (zbf S)] [bD (zey S)] := by
 refine zd9 (fun hw => ?_) Try.call48
 have hl : S.length <= 9223372036854775807 := by simpa [zm4, wfT] using hw.1.1
 have hle : ((S.length : Int) <= 40) = (S.length <= 40) := by simp; omega
 refine za8 Try.call48 Try.func48 rfl (by kernel_rfl) (zcn (by kernel_rfl)) ?_
 simp -implicitDefEqProofs only [go_sem, Try.results48]
 refine zak (fun k : Nat => hd [(0, vT (zbf S)), (3, vI k)] [] []) (fun k => k <= S.length /\ k <= 41 /\ ∀ x ∈ S.take k, pcl x = true) (fun k => S.length - k) 0 (zaf ?_) ?_ ?_
 ·simp -implicitDefEqProofs only [go_sem]
 ·simp
 ·intro k ⟨hk, hk2, hr⟩
  by_cases hlt : k < S.length
  ·by_cases h40 : (k : Int) <= 40
   ·have HC := zib S[k]
    simp -implicitDefEqProofs only [go_sem, hlt, h40, zai]
    refine callF (HC) (by simp -implicitDefEqProofs only [go_sem]) ?_
    simp -implicitDefEqProofs only [go_sem]
    rw [za0 (by omega)]
    refine ⟨fun h => ?_, fun h => ⟨k + 1, ⟨hlt, by omega, fun x hx => ?_⟩, by omega, zaf (by simp -implicitDefEqProofs only [go_sem])⟩⟩
    ·have hf : pcl S[k] = false := by simpa using h
     have : zey S = false := by
      rw [<- Bool.not_eq_true]
      intro hp
      rw [zbs hp (List.getElem_mem hlt)] at hf; cases hf
     rw [this]
    ·rw [List.take_succ_eq_append_getElem hlt] at hx
     rcases List.mem_append.1 hx with hx | hx
     ·exact hr x hx
     ·rw [List.mem_singleton.1 hx]; simpa using h
   ·have : zey S = false := by
     unfold zey
     rw [show decide (S.length <= 40) = false by simp; omega]; rfl
    have h40' : ((S.length : Int) <= 40) = False := by simp; omega
    have h40k : ((k : Int) <= 40) = False := by simp; omega
    simp -implicitDefEqProofs only [go_sem, hlt, h40k, h40']
    rw [this]
  ·rw [List.take_of_length_le (by omega)] at hr
   have hall : S.all pcl = true := List.all_eq_true.2 hr
   simp -implicitDefEqProofs only [go_sem, hlt]
   unfold zey
   rw [hall, Bool.and_true]
   have : decide ((S.length : Int) <= 40) = decide (S.length <= 40) := by rw [decide_eq_decide]; omega
   rw [this]
theorem zfy (xs : List Int) (s : Int) : FC Try.prog 99 [.one (zbu xs), iD s] [bD (xs.contains s)] := by
 refine zd9 (fun hw => ?_) Try.call99
 have hl : xs.length <= 9223372036854775807 := by simpa [zm4, wfT] using hw.1.1
 refine za8 Try.call99 Try.func99 rfl (by kernel_rfl) (zcn (by kernel_rfl)) ?_
 simp -implicitDefEqProofs only [go_sem, Try.results99]
 refine zak (fun k : Nat => hd [(0, vT (zbu xs)), (1, vT (.int .i64 s)), (5, vI k)] [] []) (fun k => k <= xs.length /\ s ∉ xs.take k) (fun k => xs.length - k) 0 (zaf ?_) ?_ ?_
 ·simp -implicitDefEqProofs only [go_sem]
 ·simp
 ·intro k ⟨hk, hr⟩
  by_cases hlt : k < xs.length
  ·simp -implicitDefEqProofs only [go_sem, zai, hlt]
   refine ⟨fun h => ?_, fun h => ?_⟩
   ·have e : xs[k] = s := beq_iff_eq.1 h
    have hm : s ∈ xs := e ▸ List.getElem_mem hlt
    rw [show xs.contains s = true by simpa using hm]
   ·have e : xs[k] ≠ s := fun e => by simp [e] at h
    rw [za0 (by omega)]
    exact ⟨k + 1, ⟨hlt, zgf hlt hr e⟩, by omega, zaf (by simp -implicitDefEqProofs only [go_sem])⟩
  ·simp -implicitDefEqProofs only [go_sem, hlt]
   rw [List.take_of_length_le (by omega)] at hr
   rw [show xs.contains s = false by simpa using hr]
theorem zle : ∀ xs : List Int, flR (xs.map fun s => [T.int .i64 s]) = true
 | [] => rfl
 | a :: xs => by rw [List.map_cons]; unfold flR; rw [zle xs]; rfl
attribute [go_sem] zle
end Go.Proofs.Yteeaofpphmhjdaa
namespace Go.Proofs.Yteeaofpphmhjdaa
set_option linter.unusedSimpArgs false
set_option linter.unusedVariables false
set_option linter.unusedSectionVars false
set_option maxRecDepth 4000
open Go.RowKit
theorem zm7 : ∀ {S : List (List Int)}, zbj (S.map fun s => [zbu s]) -> ∀ {c : List Int}, c ∈ S -> wfT (zbu c)
 | [], _, c, hc => by simp at hc
 | x :: S, h, c, hc => by
  have h' : zki [zbu x] /\ zbj (S.map fun s => [zbu s]) := h
  rcases List.mem_cons.1 hc with rfl | hc
  ·exact h'.1.1
  ·exact zm7 h'.2 hc
theorem zqd {S : List (List Int)} (h : zbj (S.map fun s => [zbu s])) {c : List Int} (hc : c ∈ S) : c.length <= 9223372036854775807 := by
 have := (zm7 h hc).1
 simpa using this
abbrev Sm (c : List Int) : Prop := ∀ l ∈ c, -1073741824 <= l /\ l <= 1073741824
theorem zqj {c : List Int} (h : pcl c = true) : Sm c := fun l hl => by have := znq (zej h hl); omega
theorem zn6 (a c : List Int) {k : Nat} (h : k < c.length) : opn a (c.take (k + 1)) = opn a (c.take k) ++ if a.contains (-c[k]) = true then [] else [c[k]] := by
 unfold opn
 rw [List.take_succ_eq_append_getElem h, List.filter_append]
 congr 1
 rw [List.filter_cons]
 cases a.contains (-c[k]) <;> simp
theorem zr8 (a c : List Int) : (opn a c).length <= c.length := List.length_filter_le _ _
set_option maxHeartbeats 1000000 in
theorem zh4 (c a : List Int) (hc : Sm c) : FC Try.prog 65 [.one (zbu c), .one (zbu a)] [iD (zow a c).1, iD (zow a c).2] := by
 refine zd9 (fun hw => ?_) Try.call65
 have hl : c.length <= 9223372036854775807 := by have := hw.1.1; simpa using this
 refine za8 Try.call65 Try.func65 rfl (by kernel_rfl) (zcn (by kernel_rfl)) ?_
 simp -implicitDefEqProofs only [go_sem, Try.results65]
 refine zak (fun k : Nat => hd [(0, vT (zbu c)), (1, vT (zbu a)), (6, vI (opn a (c.take k)).length), (7, vT (.int .i64 ((opn a (c.take k)).getLast?.getD 0))), (8, vI k)] [] []) (fun k => k <= c.length /\ ∀ l ∈ c.take k, l ∉ a) (fun k => c.length - k) 0 (zaf ?_) ?_ ?_
 ·simp -implicitDefEqProofs only [go_sem]
  exact ⟨rfl, rfl⟩
 ·simp
 ·intro k ⟨hk, hr⟩
  by_cases hlt : k < c.length
  ·have hb := hc c[k] (List.getElem_mem hlt)
   have H1 := zfy a c[k]
   have H2 := zfy a (-c[k])
   have hwn : IntKind.i64.wrap (0 - c[k]) = -c[k] := by rw [zap (by omega) (by omega)]; omega
   have hs := zn6 a c hlt
   have hlo := zr8 a (c.take k)
   rw [List.length_take] at hlo
   simp -implicitDefEqProofs only [go_sem, zai, hlt]
   refine callF (H1) (by simp -implicitDefEqProofs only [go_sem, zai, hlt]) ?_
   simp -implicitDefEqProofs only [go_sem, zai, hlt]
   refine ⟨fun h => ?_, fun h => ?_⟩
   ·have : zow a c = (-1, 0) := by
     unfold zow
     rw [if_pos (zmi.2 ⟨c[k], List.getElem_mem hlt, by simpa using h⟩)]
    rw [this]
    exact ⟨rfl, rfl⟩
   ·have hna : c[k] ∉ a := by simpa using h
    have hr2 : ∀ l ∈ c.take (k + 1), l ∉ a := fun l hl => by
     rw [List.take_succ_eq_append_getElem hlt] at hl
     rcases List.mem_append.1 hl with hl | hl
     ·exact hr l hl
     ·rw [List.mem_singleton.1 hl]; exact hna
    rw [hwn]
    refine callF (H2) (by simp -implicitDefEqProofs only [go_sem, zai, hlt]) ?_
    simp -implicitDefEqProofs only [go_sem, zai, hlt]
    refine ⟨fun h => ?_, fun h => ?_⟩
    ·have h' : a.contains (-c[k]) = false := by simpa using h
     rw [h', if_neg (by simp)] at hs
     rw [za0 (by omega)]
     refine ⟨k + 1, ⟨hlt, hr2⟩, by omega, zaf ?_⟩
     simp -implicitDefEqProofs only [go_sem]
     rw [hs, za0 (by omega)]
     simp
    ·have h' : a.contains (-c[k]) = true := by simpa using h
     rw [h', if_pos rfl, List.append_nil] at hs
     rw [za0 (by omega)]
     refine ⟨k + 1, ⟨hlt, hr2⟩, by omega, zaf ?_⟩
     simp -implicitDefEqProofs only [go_sem]
     rw [hs]
     exact ⟨rfl, rfl⟩
  ·have hns : sat a c = false := by
    rw [<- Bool.not_eq_true, zmi]
    rintro ⟨l, h1, h2⟩
    rw [List.take_of_length_le (by omega)] at hr
    exact hr l h1 h2
   simp -implicitDefEqProofs only [go_sem, hlt]
   rw [List.take_of_length_le (by omega)]
   unfold zow
   rw [hns, if_neg (by simp)]
   exact ⟨rfl, rfl⟩
def falI (S : List (List Int)) (a : List Int) : Int := zql S fun c => (zow a c).1 == 0
theorem l15False_c (S : List (List Int)) (a : List Int) (hS : ∀ c ∈ S, Sm c) : FC Try.prog 79 [.one (zbf S), .one (zbu a)] [iD (falI S a)] := by
 refine zd9 (fun hw => ?_) Try.call79
 have hl : S.length <= 9223372036854775807 := by simpa [zm4, wfT] using hw.1.1
 unfold falI
 refine za8 Try.call79 Try.func79 rfl (by kernel_rfl) (zcn (by kernel_rfl)) ?_
 simp -implicitDefEqProofs only [go_sem, Try.results79]
 refine zak (fun k : Nat => hd [(0, vT (zbf S)), (1, vT (zbu a)), (5, vI k)] [] []) (fun k => k <= S.length /\ ∀ x ∈ S.take k, ((zow a x).1 == 0) = false) (fun k => S.length - k) 0 (zaf ?_) ?_ ?_
 ·simp -implicitDefEqProofs only [go_sem]
 ·simp
 ·intro k ⟨hk, hr⟩
  by_cases hlt : k < S.length
  ·have H := zh4 S[k] a (hS _ (List.getElem_mem hlt))
   simp -implicitDefEqProofs only [go_sem, zai, hlt]
   refine callF (H) (by simp -implicitDefEqProofs only [go_sem]) ?_
   simp -implicitDefEqProofs only [go_sem]
   refine ⟨fun h => ?_, fun h => ?_⟩
   ·rw [zfc (p := fun c => (zow a c).1 == 0) hlt hr h]
   ·rw [za0 (by omega)]
    exact ⟨k + 1, ⟨hlt, zdc (p := fun c => (zow a c).1 == 0) hlt hr h⟩, by omega, zaf (by simp -implicitDefEqProofs only [go_sem])⟩
  ·simp -implicitDefEqProofs only [go_sem, hlt]
   rw [List.take_of_length_le (by omega)] at hr
   rw [zgq hr]
def zhl (n : Int) (c : List Int) (j : Nat) : Int := (c.take j).foldl (fun m l => max m (ab l)) n
def ze5 (S : List (List Int)) (k : Nat) : Int := (S.take k).foldl (fun n c => c.foldl (fun m l => max m (ab l)) n) 0
theorem zfm (n : Int) (c : List Int) {j : Nat} (h : j < c.length) : zhl n c (j + 1) = max (zhl n c j) (ab c[j]) := by
 unfold zhl
 rw [List.take_succ_eq_append_getElem h, List.foldl_append]; rfl
theorem zfe (S : List (List Int)) {k : Nat} (h : k < S.length) : ze5 S (k + 1) = zhl (ze5 S k) S[k] S[k].length := by
 unfold ze5 zhl
 rw [List.take_succ_eq_append_getElem h, List.foldl_append, List.take_length]; rfl
theorem zkb (S : List (List Int)) (hS : ∀ c ∈ S, Sm c) : FC Try.prog 67 [.one (zbf S)] [iD (zgo S)] := by
 refine zd9 (fun hw => ?_) Try.call67
 have hl : S.length <= 9223372036854775807 := by simpa [zm4, wfT] using hw.1.1
 have hwl : ∀ c ∈ S, c.length <= 9223372036854775807 := fun c hc => zqd (show zbj (S.map fun s => [zbu s]) from hw.1.2) hc
 refine za8 Try.call67 Try.func67 rfl (by kernel_rfl) (zcn (by kernel_rfl)) ?_
 simp -implicitDefEqProofs only [go_sem, Try.results67]
 refine zak (fun k : Nat => hd [(3, vI (ze5 S k)), (8, vT (zbf S)), (9, vI S.length), (10, vI k)] [] []) (fun k => k <= S.length) (fun k => S.length - k) 0 (zaf ?_) (Nat.zero_le _) ?_
 ·simp -implicitDefEqProofs only [go_sem]
  rfl
 ·intro k hk
  by_cases hlt : k < S.length
  ·have hlk := hwl _ (List.getElem_mem hlt)
   have hsk := hS _ (List.getElem_mem hlt)
   have hsu := zfe S hlt
   simp -implicitDefEqProofs only [go_sem, zai, hlt]
   refine zak (fun j : Nat => hd [(3, vI (zhl (ze5 S k) S[k] j)), (8, vT (zbf S)), (9, vI S.length), (10, vI k), (14, vT (zbu S[k])), (15, vI S[k].length), (16, vI j)] [] []) (fun j => j <= S[k].length) (fun j => S[k].length - j) 0 (zaf ?_) (Nat.zero_le _) ?_
   ·simp -implicitDefEqProofs only [go_sem]
    rfl
   ·intro j hj
    by_cases hjl : j < S[k].length
    ·have HA := zb0 S[k][j] (by have := hsk _ (List.getElem_mem hjl); omega)
     simp -implicitDefEqProofs only [go_sem, zai, hjl]
     refine callF (HA) (by simp -implicitDefEqProofs only [go_sem]) ?_
     simp -implicitDefEqProofs only [go_sem]
     rw [za0 (by omega)]
     refine ⟨j + 1, hjl, by omega, zaf ?_⟩
     simp -implicitDefEqProofs only [go_sem]
     rw [zfm _ _ hjl]
    ·have hjn : j = S[k].length := by omega
     subst hjn
     rw [<- hsu]
     simp -implicitDefEqProofs only [go_sem, hjl]
     rw [za0 (by omega)]
     exact ⟨k + 1, hlt, by omega, zaf (by simp -implicitDefEqProofs only [go_sem])⟩
  ·simp -implicitDefEqProofs only [go_sem, hlt]
   unfold ze5
   rw [List.take_of_length_le (by omega)]
   rfl
theorem znb (S : List (List Int)) (hS : ∀ c ∈ S, Sm c) : FC Try.prog 50 [.one (zbf S)] [iD (zgo S)] := by
 refine zd9 (fun hw => ?_) Try.call50
 have hl : S.length <= 9223372036854775807 := by simpa [zm4, wfT] using hw.1.1
 have hwl : ∀ c ∈ S, c.length <= 9223372036854775807 := fun c hc => zqd (show zbj (S.map fun s => [zbu s]) from hw.1.2) hc
 refine za8 Try.call50 Try.func50 rfl (by kernel_rfl) (zcn (by kernel_rfl)) ?_
 simp -implicitDefEqProofs only [go_sem, Try.results50]
 refine zak (fun k : Nat => hd [(0, vT (zbf S)), (3, vI (ze5 S k)), (4, vI k)] [] []) (fun k => k <= S.length) (fun k => S.length - k) 0 (zaf ?_) (Nat.zero_le _) ?_
 ·simp -implicitDefEqProofs only [go_sem]
  rfl
 ·intro k hk
  by_cases hlt : k < S.length
  ·have hlk := hwl _ (List.getElem_mem hlt)
   have hsk := hS _ (List.getElem_mem hlt)
   have hsu := zfe S hlt
   simp -implicitDefEqProofs only [go_sem, hlt]
   refine zak (fun j : Nat => hd [(0, vT (zbf S)), (3, vI (zhl (ze5 S k) S[k] j)), (4, vI k), (5, vI j)] [] []) (fun j => j <= S[k].length) (fun j => S[k].length - j) 0 (zaf ?_) (Nat.zero_le _) ?_
   ·simp -implicitDefEqProofs only [go_sem]
    rfl
   ·intro j hj
    by_cases hjl : j < S[k].length
    ·have HA := zpp S[k][j] (by have := hsk _ (List.getElem_mem hjl); omega)
     have HM := zpx (zhl (ze5 S k) S[k] j) (ab S[k][j])
     simp -implicitDefEqProofs only [go_sem, zai, hlt, hjl]
     refine callF (HA) (by simp -implicitDefEqProofs only [go_sem]) ?_
     simp -implicitDefEqProofs only [go_sem]
     refine callF (HM) (by simp -implicitDefEqProofs only [go_sem]) ?_
     simp -implicitDefEqProofs only [go_sem]
     rw [za0 (by omega)]
     refine ⟨j + 1, hjl, by omega, zaf ?_⟩
     simp -implicitDefEqProofs only [go_sem]
     rw [zfm _ _ hjl]
    ·have hjn : j = S[k].length := by omega
     have hjf : ((S[k].length : Int) < (S[k].length : Int)) = False := by simp
     subst hjn
     rw [<- hsu]
     simp -implicitDefEqProofs only [go_sem, zai, hlt, hjf]
     rw [za0 (by omega)]
     exact ⟨k + 1, hlt, by omega, zaf (by simp -implicitDefEqProofs only [go_sem])⟩
  ·simp -implicitDefEqProofs only [go_sem, hlt]
   unfold ze5
   rw [List.take_of_length_le (by omega)]
   rfl
end Go.Proofs.Yteeaofpphmhjdaa
namespace Go.Proofs.Yteeaofpphmhjdaa
set_option linter.unusedSimpArgs false
set_option linter.unusedVariables false
set_option linter.unusedSectionVars false
set_option maxRecDepth 4000
open Go.RowKit
variable {P : Program} {N : Nat}
theorem zb8.cond {c : Operand} {x y : Code} {σ : St} {Q : Exit -> St -> Prop} {b : Bool} (hv : σ.get P 0 c = .one (.t (.bool b))) (ht : b = true -> zb8 P N x σ Q) (hf : b = false -> zb8 P N y σ Q) : zb8 P N (.cond c x y) σ Q := fun n0 w0 A0 g a w h1 h2 h3 h4 => by
 have hs := h1.get P 0 c
 rw [hv] at hs
 simp only [VR, CR, zah] at hs
 exact wp_cond_split hs (fun e => ht e n0 w0 A0 g a w h1 h2 h3 h4) (fun e => hf e n0 w0 A0 g a w h1 h2 h3 h4)
theorem zb8.condT {c : Operand} {x y : Code} {σ : St} {Q : Exit -> St -> Prop} (hv : σ.get P 0 c = .one (.t (.bool true))) (ht : zb8 P N x σ Q) : zb8 P N (.cond c x y) σ Q := zb8.cond hv (fun _ => ht) (fun h => by cases h)
end Go.Proofs.Yteeaofpphmhjdaa
namespace Go.Proofs.Yteeaofpphmhjdaa
set_option linter.unusedSimpArgs false
set_option linter.unusedVariables false
set_option linter.unusedSectionVars false
set_option maxRecDepth 4000
open Go.RowKit
abbrev znx (q : Cu) : Bxs := [[(false, zjy q.code), (false, .int .i64 q.pos), (false, .int .u64 q.seed)]]
theorem zrf (b : UInt8) : IntKind.i64.wrap (b.toNat : Int) = b.toNat := by
 have := b.toNat_lt
 exact zap (by omega) (by omega)
theorem zp4 (x : Int) : 0 <= (IntKind.u64.wrap x).fdiv (2 ^ 40) /\ (IntKind.u64.wrap x).fdiv (2 ^ 40) <= 18446744073709551615 := by
 have h : 0 <= IntKind.u64.wrap x /\ IntKind.u64.wrap x <= 18446744073709551615 := by
  have := I64.wrap .u64 x
  have m1 : IntKind.min .u64 = 0 := by decide
  have m2 : IntKind.max .u64 = 18446744073709551615 := by decide
  rw [m1, m2] at this; exact this
 generalize IntKind.u64.wrap x = y at h
 rw [Int.fdiv_eq_ediv_of_nonneg _ (by decide)]
 omega
theorem next_c (q : Cu) (hp : q.pos <= 1099511627776) : PC Try.prog 95 (znx q) [.p 0] (znx q.nx) [(true, iD q.v)] := by
 obtain ⟨code, pos, seed⟩ := q
 have hpw : IntKind.i64.wrap ((pos : Int) + 1) = ((pos + 1 : Nat) : Int) := za0 (by dsimp only at hp; omega)
 unfold Cu.v Cu.nx Cu.sd Cu.b
 dsimp only at hp ⊢
 by_cases hlt : pos < code.length
 ·have hli : ((pos : Int) < code.length) = True := by simp; omega
  have hle : (((pos + 1 : Nat) : Int) <= code.length) = True := by simp; omega
  have hg : code.getD pos 0 = code[pos] := by rw [List.getD_eq_getElem?_getD, List.getElem?_eq_getElem hlt]; rfl
  rw [if_pos hlt, if_pos (by omega), hg]
  refine zdb Try.call95 Try.func95 rfl (by kernel_rfl) (by simp only [List.length_cons, List.length_nil, Try.ntmps95]; omega) (by simp only [Try.ntmps95]; omega) rfl rfl (by simp [zay, T.isPin, AF.ds, bxA]) (by simp [gFS, T.fs, T.flat, AF.ds, bxA]) rfl ?_
  simp -implicitDefEqProofs only [go_sem, Try.results95]
  refine drawn (by kernel_rfl) ?_
  simp -implicitDefEqProofs only [go_sem, hli]
  refine ⟨by kernel_rfl, ?_⟩
  refine drawn (by kernel_rfl) ?_
  simp -implicitDefEqProofs only [go_sem, hlt, zai, zrf]
  refine ⟨by kernel_rfl, ?_⟩
  rw [hpw]
  refine drawn (by kernel_rfl) ?_
  simp -implicitDefEqProofs only [go_sem, hle]
  kernel_rfl
 ·have hli : ((pos : Int) < code.length) = False := by simp; omega
  have hle : (((pos + 1 : Nat) : Int) <= code.length) = False := by simp; omega
  rw [if_neg hlt, if_neg (by omega)]
  refine zdb Try.call95 Try.func95 rfl (by kernel_rfl) (by simp only [List.length_cons, List.length_nil, Try.ntmps95]; omega) (by simp only [Try.ntmps95]; omega) rfl rfl (by simp [zay, T.isPin, AF.ds, bxA]) (by simp [gFS, T.fs, T.flat, AF.ds, bxA]) rfl ?_
  simp -implicitDefEqProofs only [go_sem, Try.results95]
  refine drawn (by kernel_rfl) ?_
  simp -implicitDefEqProofs only [go_sem, hli]
  refine ⟨by kernel_rfl, ?_⟩
  rw [hpw]
  refine drawn (by kernel_rfl) ?_
  simp -implicitDefEqProofs only [go_sem, hle]
  refine ⟨by kernel_rfl, ?_⟩
  rw [show min 40 64 = 40 from rfl]
  exact ⟨zp4 _, Or.inl rfl⟩
theorem zq4 (q : Cu) (hp : q.pos <= 1099511627776) (n : Int) (hn : n <= 200) : PC Try.prog 45 (znx q) [.p 0, .d false (iD n)] (znx (q.pick n).1) [(true, iD (q.pick n).2)] := by
 have HN := next_c q hp
 have hv := q.v_bd
 unfold Cu.pick
 by_cases h1 : n <= 1
 ·rw [if_pos h1]
  refine zdb Try.call45 Try.func45 rfl (by kernel_rfl) (by simp only [List.length_cons, List.length_nil, Try.ntmps45]; omega) (by simp only [Try.ntmps45]; omega) rfl rfl (by simp [zay, T.isPin, AF.ds, bxA]) (by simp [gFS, T.fs, T.flat, AF.ds, bxA]) rfl ?_
  simp -implicitDefEqProofs only [go_sem, Try.results45, h1]
 ·have h2 : (200 < n) = False := by simp; omega
  rw [if_neg h1]
  refine zdb Try.call45 Try.func45 rfl (by kernel_rfl) (by simp only [List.length_cons, List.length_nil, Try.ntmps45]; omega) (by simp only [Try.ntmps45]; omega) rfl rfl (by simp [zay, T.isPin, AF.ds, bxA]) (by simp [gFS, T.fs, T.flat, AF.ds, bxA]) rfl ?_
  simp -implicitDefEqProofs only [go_sem, Try.results45, h1]
  refine zar [1, 1000000] [8] [1000000] [] (HN) (by decide) rfl (by simp -implicitDefEqProofs only [go_sem, h2]) (by simp -implicitDefEqProofs only [go_sem, h2]) (by simp -implicitDefEqProofs only [go_sem, h2]) (by simp -implicitDefEqProofs only [go_sem, h2]) ?_
  simp -implicitDefEqProofs only [go_sem, h2]
  have ht : 0 <= q.v.tmod n /\ q.v.tmod n < n := by
   rw [Int.tmod_eq_emod_of_nonneg hv.1]
   exact ⟨Int.emod_nonneg _ (by omega), Int.emod_lt_of_pos _ (by omega)⟩
  exact ⟨by omega, by omega, by omega⟩
theorem one_c (q : Cu) (hp : q.pos <= 1099511627776) (n : Int) (hn : n <= 200) : PC Try.prog 52 (znx q) [.p 0, .d false (iD n)] (znx (q.pick n).1) [(true, bD ((q.pick n).2 == 0))] := by
 have HN := zq4 q hp n hn
 refine zdb Try.call52 Try.func52 rfl (by kernel_rfl) (by simp only [List.length_cons, List.length_nil, Try.ntmps52]; omega) (by simp only [Try.ntmps52]; omega) rfl rfl (by simp [zay, T.isPin, AF.ds, bxA]) (by simp [gFS, T.fs, T.flat, AF.ds, bxA]) rfl ?_
 simp -implicitDefEqProofs only [go_sem, Try.results52]
 refine zar [1000000] [5, 6] [1000000] [] (HN) (by decide) rfl (by simp -implicitDefEqProofs only [go_sem]) (by simp -implicitDefEqProofs only [go_sem]) (by simp -implicitDefEqProofs only [go_sem]) (by simp -implicitDefEqProofs only [go_sem]) ?_
 simp -implicitDefEqProofs only [go_sem]
abbrev zez (code : List UInt8) (q : Cu) : Bxs := [[(false, zjy code), (false, .int .i64 q.pos), (false, .int .u64 q.seed)]]
theorem zcf {code : List UInt8} {q : Cu} (hc : q.code = code) (hp : q.pos <= 1099511627776) (n : Int) (hn : n <= 200) : PC Try.prog 45 (zez code q) [.p 0, .d false (iD n)] (zez code (q.pick n).1) [(true, iD (q.pick n).2)] := by
 subst hc
 have h := zq4 q hp n hn
 rw [show znx (q.pick n).1 = zez q.code (q.pick n).1 by unfold znx; rw [q.pick_code]] at h
 exact h
theorem zpe {code : List UInt8} {q : Cu} (hc : q.code = code) (hp : q.pos <= 1099511627776) (n : Int) (hn : n <= 200) : PC Try.prog 52 (zez code q) [.p 0, .d false (iD n)] (zez code (q.pick n).1) [(true, bD ((q.pick n).2 == 0))] := by
 subst hc
 have h := one_c q hp n hn
 rw [show znx (q.pick n).1 = zez q.code (q.pick n).1 by unfold znx; rw [q.pick_code]] at h
 exact h
theorem zjg (q : Cu) (k : Nat) : clR q (k + 1) = if ((clR q k).1.pick 3).2 = 0 then ((((clR q k).1.pick 3).1.pick 2).1, (clR q k).2 ++ [zpb ((k : Int) + 1) ((((clR q k).1.pick 3).1.pick 2).2)]) else (((clR q k).1.pick 3).1, (clR q k).2) := rfl
theorem zft {v x : Int} (hv : 0 <= v /\ v <= 1000) (hx : 0 <= x /\ x < 2) : IntKind.i64.wrap (v - IntKind.i64.wrap (IntKind.i64.wrap (2 * v) * x)) = zpb v x := by
 unfold zpb
 have : x = 0 \/ x = 1 := by omega
 rcases this with rfl | rfl
 ·rw [zap (n := 2 * v) (by omega) (by omega), Int.mul_zero, zap (n := 0) (by omega) (by omega), zap (by omega) (by omega)]
 ·rw [zap (n := 2 * v) (by omega) (by omega), Int.mul_one, zap (n := 2 * v) (by omega) (by omega), zap (by omega) (by omega)]
def clE (x : Cu × List Int) (n : Nat) : Cu × List Int := if x.2.take 3 = [] then
  if (x.1.pick 20).2 = 0 then ((x.1.pick 20).1, [])
  else (((((x.1.pick 20).1.pick n).1.pick 2).1), [zpb (1 + ((x.1.pick 20).1.pick n).2) (((x.1.pick 20).1.pick n).1.pick 2).2])
 else (x.1, x.2.take 3)
set_option maxHeartbeats 1000000 in
theorem zgv (code : List UInt8) (q : Cu) (hcd : q.code = code) (n : Nat) (hp : q.pos <= 549755813888) (h1 : 1 <= n) (hn : n <= 100) (h3 : (clR q n).2.length <= 3) : PC Try.prog 53 (zez code q) [.p 0, .d false (iD n)] (zez code (clD q n).1) [(true, .one (zbu (clD q n).2))] := by
 obtain ⟨R, hR⟩ : ∃ R, clD q n = R := ⟨_, rfl⟩
 have hE : clE (clR q n) n = R := hR
 rw [hR]
 refine zdb Try.call53 Try.func53 rfl (by kernel_rfl) (by simp only [List.length_cons, List.length_nil, Try.ntmps53]; omega) (by simp only [Try.ntmps53]; omega) rfl rfl (by simp [zay, T.isPin, AF.ds, bxA]) (by simp [gFS, T.fs, T.flat, AF.ds, bxA]) rfl ?_
 simp -implicitDefEqProofs only [go_sem, Try.results53]
 refine zav (by simp -implicitDefEqProofs only [go_sem]) ?_
 simp -implicitDefEqProofs only [go_sem]
 refine zak (fun k : Nat => hd [(0, .one (.bx 1000000 0)), (1, vI n), (5, .one (.ow 256 (clR q k).2.length)), (6, vI ((k : Int) + 1)), (1000000, .one (.bx 1000000 0))] [(1000000, [.rn (zjy code), .t (.int .i64 (clR q k).1.pos), .t (.int .u64 (clR q k).1.seed)])] [(256, ⟨true, 1, (clR q k).2.map fun s => [.int .i64 s], (clR q k).2.length, true⟩)]) (fun k => k <= n) (fun k => n - k) 0 (zaf ?_) (Nat.zero_le _) ?_
 ·simp -implicitDefEqProofs only [go_sem]
  exact ⟨⟨rfl, rfl⟩, rfl⟩
 ·intro k hk
  obtain ⟨g1, g2, g3, g4⟩ := zgd q k
  rw [hcd] at g3
  have hs := zjg q k
  by_cases hlt : k < n
  ·have hle : ((k : Int) + 1 <= n) = True := by simp; omega
   generalize clR q k = x at g1 g2 g3 g4 hs
   obtain ⟨Q, o⟩ := x
   simp only at g1 g2 g3 g4 hs
   have H1 := zpe g3 (by omega) 3 (by omega)
   have hpk := Q.pick_pos 3
   have hck := (Q.pick_code 3).trans g3
   have hwk : IntKind.i64.wrap ((k : Int) + 1 + 1) = ((k + 1 : Nat) : Int) + 1 := by rw [zap (by omega) (by omega)]; omega
   by_cases h0 : (Q.pick 3).2 = 0
   ·rw [if_pos h0] at hs
    rw [show ((Q.pick 3).2 == 0) = true by simpa using h0] at H1
    have H2 := zcf hck (by omega) 2 (by omega)
    have hb2 := (Q.pick 3).1.pick_bd (n := 2) (by omega)
    have hlw := zft (v := (k : Int) + 1) (by omega) hb2
    have hol : o.length <= 4294967295 := by omega
    simp -implicitDefEqProofs only [go_sem, hle]
    refine zar [0, 1, 5, 6, 1000000] [14] [1000000] [] (H1) (by decide) rfl (by simp -implicitDefEqProofs only [go_sem]) (by simp -implicitDefEqProofs only [go_sem]) (by simp -implicitDefEqProofs only [go_sem]) (by simp -implicitDefEqProofs only [go_sem]) ?_
    simp -implicitDefEqProofs only [go_sem]
    refine zar [0, 1, 5, 6, 16, 17, 19, 1000000] [20] [1000000] [] (H2) (by decide) rfl (by simp -implicitDefEqProofs only [go_sem]) (by simp -implicitDefEqProofs only [go_sem]) (by simp -implicitDefEqProofs only [go_sem]) (by simp -implicitDefEqProofs only [go_sem]) ?_
    simp -implicitDefEqProofs only [go_sem]
    rw [hlw]
    refine zav (by simp -implicitDefEqProofs only [go_sem]) ?_
    simp -implicitDefEqProofs only [go_sem]
    refine apD true (by simp -implicitDefEqProofs only [go_sem, ne_eq, List.length_map, hol]) ?_
    simp -implicitDefEqProofs only [go_sem, ne_eq, List.length_map, hol]
    refine ⟨k + 1, hlt, by omega, zaf ?_⟩
    simp -implicitDefEqProofs only [go_sem]
    rw [hwk, hs]
    exact ⟨rfl, ⟨rfl, rfl⟩, by rw [List.map_append]; rfl⟩
   ·rw [if_neg h0] at hs
    rw [show ((Q.pick 3).2 == 0) = false by simpa using h0] at H1
    simp -implicitDefEqProofs only [go_sem, hle]
    refine zar [0, 1, 5, 6, 1000000] [14] [1000000] [] (H1) (by decide) rfl (by simp -implicitDefEqProofs only [go_sem]) (by simp -implicitDefEqProofs only [go_sem]) (by simp -implicitDefEqProofs only [go_sem]) (by simp -implicitDefEqProofs only [go_sem]) ?_
    simp -implicitDefEqProofs only [go_sem]
    refine ⟨k + 1, hlt, by omega, zaf ?_⟩
    simp -implicitDefEqProofs only [go_sem]
    rw [hwk, hs]
    exact ⟨rfl, ⟨rfl, rfl⟩, rfl⟩
  ·have hle : ((k : Int) + 1 <= n) = False := by simp; omega
   have hkn : k = n := by omega
   subst hkn
   generalize clR q k = x at g1 g2 g3 g4 h3 hE
   obtain ⟨Q, o⟩ := x
   simp only at g1 g2 g3 g4 h3 hE
   have ht3 : o.take 3 = o := List.take_of_length_le h3
   unfold clE at hE
   simp only [ht3] at hE
   have hl3 : ((3 : Int) < o.length) = False := by simp; omega
   by_cases hnil : o = []
   ·subst hnil
    rw [if_pos rfl] at hE
    have H1 := zpe g3 (by omega) 20 (by omega)
    have hpk := Q.pick_pos 20
    have hck := (Q.pick_code 20).trans g3
    by_cases h0 : (Q.pick 20).2 = 0
    ·rw [if_pos h0] at hE
     subst hE
     rw [show ((Q.pick 20).2 == 0) = true by simpa using h0] at H1
     simp -implicitDefEqProofs only [go_sem, hle, hl3]
     refine zar [0, 1, 5, 34, 1000000] [35] [1000000] [] (H1) (by decide) rfl (by simp -implicitDefEqProofs only [go_sem]) (by simp -implicitDefEqProofs only [go_sem]) (by simp -implicitDefEqProofs only [go_sem]) (by simp -implicitDefEqProofs only [go_sem]) ?_
     simp -implicitDefEqProofs only [go_sem]
    ·rw [if_neg h0] at hE
     subst hE
     rw [show ((Q.pick 20).2 == 0) = false by simpa using h0] at H1
     have H2 := zcf hck (by omega) k (by omega)
     have hb2 := (Q.pick 20).1.pick_bd (n := k) (by omega)
     have hpk2 := (Q.pick 20).1.pick_pos k
     have hck2 := ((Q.pick 20).1.pick_code k).trans hck
     have H3 := zcf hck2 (by omega) 2 (by omega)
     have hb3 := ((Q.pick 20).1.pick k).1.pick_bd (n := 2) (by omega)
     have hlw := zft (v := 1 + ((Q.pick 20).1.pick k).2) (by omega) hb3
     have hw1 : IntKind.i64.wrap (1 + ((Q.pick 20).1.pick k).2) = 1 + ((Q.pick 20).1.pick k).2 := zap (by omega) (by omega)
     simp -implicitDefEqProofs only [go_sem, hle, hl3]
     refine zar [0, 1, 5, 34, 1000000] [35] [1000000] [] (H1) (by decide) rfl (by simp -implicitDefEqProofs only [go_sem]) (by simp -implicitDefEqProofs only [go_sem]) (by simp -implicitDefEqProofs only [go_sem]) (by simp -implicitDefEqProofs only [go_sem]) ?_
     simp -implicitDefEqProofs only [go_sem]
     refine zar [0, 1, 5, 1000000] [39, 40] [1000000] [] (H2) (by decide) rfl (by simp -implicitDefEqProofs only [go_sem]) (by simp -implicitDefEqProofs only [go_sem]) (by simp -implicitDefEqProofs only [go_sem]) (by simp -implicitDefEqProofs only [go_sem]) ?_
     simp -implicitDefEqProofs only [go_sem]
     rw [hw1]
     refine zar [0, 1, 5, 43, 44, 46, 1000000] [47] [1000000] [] (H3) (by decide) rfl (by simp -implicitDefEqProofs only [go_sem]) (by simp -implicitDefEqProofs only [go_sem]) (by simp -implicitDefEqProofs only [go_sem]) (by simp -implicitDefEqProofs only [go_sem]) ?_
     simp -implicitDefEqProofs only [go_sem]
     rw [hlw]
     refine zav (by simp -implicitDefEqProofs only [go_sem]) ?_
     simp -implicitDefEqProofs only [go_sem]
     refine apD true (by simp -implicitDefEqProofs only [go_sem, ne_eq]) ?_
     simp -implicitDefEqProofs only [go_sem, ne_eq]
   ·rw [if_neg hnil] at hE
    subst hE
    have hl0 : ((o.length : Int) == 0) = false := by
     rw [beq_eq_false_iff_ne]
     have : o.length ≠ 0 := fun e => hnil (List.length_eq_zero_iff.1 e)
     omega
    simp -implicitDefEqProofs only [go_sem, hle, hl3, hl0]
set_option maxHeartbeats 1000000 in
theorem zhd (code : List UInt8) (q : Cu) (hcd : q.code = code) (n : Nat) (hp : q.pos <= 549755813888) (h1 : 1 <= n) (hn : n <= 100) (h3 : 3 < (clR q n).2.length) : PC Try.prog 53 (zez code q) [.p 0, .d false (iD n)] (zez code (clD q n).1) [(true, .one (zbu (clD q n).2))] := by
 obtain ⟨R, hR⟩ : ∃ R, clD q n = R := ⟨_, rfl⟩
 have hE : clE (clR q n) n = R := hR
 rw [hR]
 refine PC_ofW Try.call53 Try.func53 rfl (by simp only [List.length_cons, List.length_nil, Try.ntmps53]; omega) (by simp only [Try.ntmps53]; omega) rfl rfl (by simp [zay, T.isPin, AF.ds, bxA]) (by simp [gFS, T.fs, T.flat, AF.ds, bxA]) rfl ?_
 refine zb8.cut 2 rfl (by kernel_rfl) ?_
 simp -implicitDefEqProofs only [go_sem, Try.results53]
 refine zav (by simp -implicitDefEqProofs only [go_sem]) ?_
 simp -implicitDefEqProofs only [go_sem]
 refine zak (fun k : Nat => hd [(0, .one (.bx 1000000 0)), (1, vI n), (5, .one (.ow 256 (clR q k).2.length)), (6, vI ((k : Int) + 1)), (1000000, .one (.bx 1000000 0))] [(1000000, [.rn (zjy code), .t (.int .i64 (clR q k).1.pos), .t (.int .u64 (clR q k).1.seed)])] [(256, ⟨true, 1, (clR q k).2.map fun s => [.int .i64 s], (clR q k).2.length, true⟩)]) (fun k => k <= n) (fun k => n - k) 0 (zaf ?_) (Nat.zero_le _) ?_
 ·simp -implicitDefEqProofs only [go_sem]
  exact ⟨⟨rfl, rfl⟩, rfl⟩
 ·intro k hk
  obtain ⟨g1, g2, g3, g4⟩ := zgd q k
  rw [hcd] at g3
  have hs := zjg q k
  by_cases hlt : k < n
  ·have hle : ((k : Int) + 1 <= n) = True := by simp; omega
   generalize clR q k = x at g1 g2 g3 g4 hs
   obtain ⟨Q, o⟩ := x
   simp only at g1 g2 g3 g4 hs
   have H1 := zpe g3 (by omega) 3 (by omega)
   have hpk := Q.pick_pos 3
   have hck := (Q.pick_code 3).trans g3
   have hwk : IntKind.i64.wrap ((k : Int) + 1 + 1) = ((k + 1 : Nat) : Int) + 1 := by rw [zap (by omega) (by omega)]; omega
   by_cases h0 : (Q.pick 3).2 = 0
   ·rw [if_pos h0] at hs
    rw [show ((Q.pick 3).2 == 0) = true by simpa using h0] at H1
    have H2 := zcf hck (by omega) 2 (by omega)
    have hb2 := (Q.pick 3).1.pick_bd (n := 2) (by omega)
    have hlw := zft (v := (k : Int) + 1) (by omega) hb2
    have hol : o.length <= 4294967295 := by omega
    simp -implicitDefEqProofs only [go_sem, hle]
    refine zar [0, 1, 5, 6, 1000000] [14] [1000000] [] (H1) (by decide) rfl (by simp -implicitDefEqProofs only [go_sem]) (by simp -implicitDefEqProofs only [go_sem]) (by simp -implicitDefEqProofs only [go_sem]) (by simp -implicitDefEqProofs only [go_sem]) ?_
    simp -implicitDefEqProofs only [go_sem]
    refine zar [0, 1, 5, 6, 16, 17, 19, 1000000] [20] [1000000] [] (H2) (by decide) rfl (by simp -implicitDefEqProofs only [go_sem]) (by simp -implicitDefEqProofs only [go_sem]) (by simp -implicitDefEqProofs only [go_sem]) (by simp -implicitDefEqProofs only [go_sem]) ?_
    simp -implicitDefEqProofs only [go_sem]
    rw [hlw]
    refine zav (by simp -implicitDefEqProofs only [go_sem]) ?_
    simp -implicitDefEqProofs only [go_sem]
    refine apD true (by simp -implicitDefEqProofs only [go_sem, ne_eq, List.length_map, hol]) ?_
    simp -implicitDefEqProofs only [go_sem, ne_eq, List.length_map, hol]
    refine ⟨k + 1, hlt, by omega, zaf ?_⟩
    simp -implicitDefEqProofs only [go_sem]
    rw [hwk, hs]
    exact ⟨rfl, ⟨rfl, rfl⟩, by rw [List.map_append]; rfl⟩
   ·rw [if_neg h0] at hs
    rw [show ((Q.pick 3).2 == 0) = false by simpa using h0] at H1
    simp -implicitDefEqProofs only [go_sem, hle]
    refine zar [0, 1, 5, 6, 1000000] [14] [1000000] [] (H1) (by decide) rfl (by simp -implicitDefEqProofs only [go_sem]) (by simp -implicitDefEqProofs only [go_sem]) (by simp -implicitDefEqProofs only [go_sem]) (by simp -implicitDefEqProofs only [go_sem]) ?_
    simp -implicitDefEqProofs only [go_sem]
    refine ⟨k + 1, hlt, by omega, zaf ?_⟩
    simp -implicitDefEqProofs only [go_sem]
    rw [hwk, hs]
    exact ⟨rfl, ⟨rfl, rfl⟩, rfl⟩
  ·have hle : ((k : Int) + 1 <= n) = False := by simp; omega
   have hkn : k = n := by omega
   subst hkn
   generalize clR q k = x at g1 g2 g3 g4 h3 hE
   obtain ⟨Q, o⟩ := x
   simp only at g1 g2 g3 g4 h3 hE
   unfold clE at hE
   have hl3 : ((3 : Int) < o.length) = True := by simp; omega
   have hne : (o.take 3).length = 3 := by rw [List.length_take]; omega
   rw [if_neg (fun e => by simp only at e; rw [e] at hne; cases hne)] at hE
   subst hE
   have hdt : decide ((3 : Int) < (o.length : Int)) = true := by rw [decide_eq_true_eq]; omega
   simp -implicitDefEqProofs only [go_sem, hle]
   refine zb8.seq ?_
   refine zb8.cut 0 rfl (by kernel_rfl) ?_
   simp -implicitDefEqProofs only [go_sem, hl3]
   refine zb8.condT (by simp -implicitDefEqProofs only [go_sem, hdt]) ?_
   refine zb8.cutO 1 rfl rfl rfl rfl (by kernel_rfl) (by simp only [Try.ntmps53]; omega) (el := 3) (by kernel_rfl) (by kernel_rfl) ?_
   simp -implicitDefEqProofs only [go_sem, List.take_succ_cons, List.take_zero]
   refine ⟨by omega, ?_⟩
   have hl0 : ((List.length (List.take 3 o) : Int) == 0) = false := by rw [hne]; rfl
   rw [<- List.map_take]
   refine zb8.ofEx (by kernel_rfl) ?_
   simp -implicitDefEqProofs only [go_sem, List.length_map, hl0]
   skip
end Go.Proofs.Yteeaofpphmhjdaa
