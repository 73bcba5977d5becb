/-
  The walk over plain data, and contracts of functions of the program and of its laws.
  Conditions: those that each theorem names.
-/
import Derived.Test.YteeaofpphmhjdaaQRC4
import Derived.Sort.OwnSorted
import Derived.Sort.KeysCollected
import Derived.Sort.Walk0
import Derived.Laws.AppendOwn
import Derived.RangeFuncNested
import Derived.RangeFuncBound
import Derived.RangeFuncCalls
import Derived.TacticsInMore
import Derived.LoopNIn
import Derived.LoopIn
import Derived.MapKept
namespace Go.Proofs.Yteeaofpphmhjdaa
set_option linter.unusedSimpArgs false
set_option linter.unusedVariables false
set_option linter.unusedSectionVars false
set_option maxRecDepth 4000
def yl (S : List (List Int)) : Nat -> List Int -> List Ps -> (Nat × List Int) × List Ps
 | 0, a, st => match S.findIdx? (fal a) with
  | some i => ((i, S.getD i []), st)
  | none => ((0, []), st)
 | m + 1, a, st => match S.findIdx? (fal a) with
  | some i => ((i, S.getD i []), st)
  | none =>
   let x := yl S m (a ++ [(a.length : Int) + 1]) st
   if x.1.2.contains (-((a.length : Int) + 1)) = false then x
   else
    let y := yl S m (a ++ [-((a.length : Int) + 1)]) x.2
    if y.1.2.contains ((a.length : Int) + 1) = false then y
    else ((S.length + y.2.length, (zdb y.1.2 x.1.2 ((a.length : Int) + 1)).1), y.2 ++ [⟨y.1.1, x.1.1, (a.length : Int) + 1, (zdb y.1.2 x.1.2 ((a.length : Int) + 1)).1⟩])
theorem zki {S : List (List Int)} {m : Nat} {a : List Int} {st : List Ps} {i : Nat} (h : S.findIdx? (fal a) = some i) : yl S m a st = ((i, S.getD i []), st) := by
 cases m <;> unfold yl <;> rw [h]
theorem zof {S : List (List Int)} {m : Nat} {a : List Int} {st : List Ps} (h : S.findIdx? (fal a) = none) : yl S (m + 1) a st =
  (let x := yl S m (a ++ [(a.length : Int) + 1]) st
   if x.1.2.contains (-((a.length : Int) + 1)) = false then x
   else
    let y := yl S m (a ++ [-((a.length : Int) + 1)]) x.2
    if y.1.2.contains ((a.length : Int) + 1) = false then y
    else ((S.length + y.2.length, (zdb y.1.2 x.1.2 ((a.length : Int) + 1)).1), y.2 ++ [⟨y.1.1, x.1.1, (a.length : Int) + 1, (zdb y.1.2 x.1.2 ((a.length : Int) + 1)).1⟩])) := by
 rw [yl, h]
structure YlOk (S : List (List Int)) (m : Nat) (a : List Int) (st : List Ps) (y : (Nat × List Int) × List Ps) : Prop where
 ext : ∃ e, y.2 = st ++ e
 len : y.2.length + 1 <= st.length + 2 ^ m
 val : ∀ j < y.2.length, zbe S y.2 j = true
 num : y.1.1 < S.length \/ y.1.1 + 1 = S.length + y.2.length
 lt : y.1.1 < S.length + y.2.length
 cl : clA S y.2 y.1.1 = y.1.2
 fl : fal a y.1.2 = true
 pc : pcl y.1.2 = true
theorem zsx (S : List (List Int)) (hS : ∀ c ∈ S, pcl c = true) : ∀ (m : Nat) (a : List Int) (st : List Ps), Pre a (a.length + 1) -> (∀ c ∈ S, ∀ l ∈ c, 0 < ab l /\ ab l < (a.length : Int) + 1 + m) -> (∀ t ∈ sfx (a.length + 1) m, isM S (a ++ t) = false) -> (∀ j < st.length, zbe S st j = true) -> YlOk S m a st (yl S m a st) := by
 intro m
 induction m with
 | zero =>
  intro a st hp hv hu hst
  cases hf : S.findIdx? (fal a) with
  | some i =>
   rw [zki hf]
   obtain ⟨hi, hfa, _⟩ := List.findIdx?_eq_some_iff_getElem.1 hf
   have hg : S.getD i [] = S[i] := by rw [List.getD_eq_getElem?_getD, List.getElem?_eq_getElem hi]; rfl
   refine ⟨⟨[], by simp⟩, by simp, hst, Or.inl hi, Nat.lt_of_lt_of_le hi (Nat.le_add_right _ _), ?_, ?_, ?_⟩
   ·show clA S st (i : Int) = _
    unfold clA; rw [if_pos (by omega), Int.toNat_natCast]
   ·show fal a (S.getD i []) = true
    rw [hg]; exact hfa
   ·show pcl (S.getD i []) = true
    rw [hg]; exact hS _ (List.getElem_mem hi)
  | none =>
   exfalso
   have h1 : (S.any fun c => fal a c) = false := by
    rw [List.any_eq_false]
    intro c hc hh
    have := List.findIdx?_eq_none_iff.1 hf c hc
    rw [this] at hh; cases hh
   have := zdm hp (fun c hc l hl => by have := hv c hc l hl; simpa using this) h1
   have h2 := hu [] (by simp [sfx])
   rw [List.append_nil, this] at h2; cases h2
 | succ m ih =>
  intro a st hp hv hu hst
  cases hf : S.findIdx? (fal a) with
  | some i =>
   rw [zki hf]
   obtain ⟨hi, hfa, _⟩ := List.findIdx?_eq_some_iff_getElem.1 hf
   have hg : S.getD i [] = S[i] := by rw [List.getD_eq_getElem?_getD, List.getElem?_eq_getElem hi]; rfl
   have := Nat.two_pow_pos (m + 1)
   refine ⟨⟨[], by simp⟩, by show st.length + 1 <= _; omega, hst, Or.inl hi, Nat.lt_of_lt_of_le hi (Nat.le_add_right _ _), ?_, ?_, ?_⟩
   ·show clA S st (i : Int) = _
    unfold clA; rw [if_pos (by omega), Int.toNat_natCast]
   ·show fal a (S.getD i []) = true
    rw [hg]; exact hfa
   ·show pcl (S.getD i []) = true
    rw [hg]; exact hS _ (List.getElem_mem hi)
  | none =>
   rw [zof hf]
   have hpos := hp.pos
   have hl1 : ∀ x : Int, ((a ++ [x]).length : Int) = a.length + 1 := fun x => by simp
   have key : ∀ x : Int, ab x = (a.length : Int) + 1 -> ∀ st, (∀ j < st.length, zbe S st j = true) -> YlOk S m (a ++ [x]) st (yl S m (a ++ [x]) st) := fun x hx st hst => by
    refine ih (a ++ [x]) st (by rw [hl1]; exact hp.put hx) (fun c hc l hl => by rw [hl1]; have := hv c hc l hl; omega) (fun t ht => ?_) hst
    rw [hl1] at ht
    rw [List.append_assoc]
    refine hu ([x] ++ t) ?_
    unfold sfx
    rw [List.mem_append]
    have : x = (a.length : Int) + 1 \/ x = -((a.length : Int) + 1) := by unfold ab at hx; omega
    rcases this with e | e
    ·exact Or.inl (List.mem_map.2 ⟨t, ht, by rw [e]; rfl⟩)
    ·exact Or.inr (List.mem_map.2 ⟨t, ht, by rw [e]; rfl⟩)
   have hx := key ((a.length : Int) + 1) (zcj (by omega)) st hst
   generalize yl S m (a ++ [(a.length : Int) + 1]) st = x at hx
   have hpow : 2 ^ (m + 1) = 2 ^ m + 2 ^ m := by rw [Nat.pow_succ]; omega
   have hpp := Nat.two_pow_pos m
   obtain ⟨e1, he1⟩ := hx.ext
   have hlx := hx.len
   dsimp only
   cases hc1 : x.1.2.contains (-((a.length : Int) + 1))
   ·rw [if_pos rfl]
    refine ⟨hx.ext, by omega, hx.val, hx.num, hx.lt, hx.cl, zcy.2 fun l hl => ?_, hx.pc⟩
    rcases List.mem_append.1 (zcy.1 hx.fl l hl) with h | h
    ·exact h
    ·have := List.mem_singleton.1 h
     exact absurd hl (by rw [show l = -((a.length : Int) + 1) by omega]; exact zil hc1)
   ·rw [if_neg (by simp)]
    have hy := key (-((a.length : Int) + 1)) (by rw [zc3, zcj (by omega)]) x.2 hx.val
    generalize yl S m (a ++ [-((a.length : Int) + 1)]) x.2 = y at hy
    obtain ⟨e2, he2⟩ := hy.ext
    have hly := hy.len
    have hxy : x.2.length <= y.2.length := by rw [he2, List.length_append]; omega
    cases hc2 : y.1.2.contains ((a.length : Int) + 1)
    ·rw [if_pos rfl]
     refine ⟨⟨e1 ++ e2, by rw [he2, he1, List.append_assoc]⟩, by omega, hy.val, hy.num, hy.lt, hy.cl, zcy.2 fun l hl => ?_, hy.pc⟩
     rcases List.mem_append.1 (zcy.1 hy.fl l hl) with h | h
     ·exact h
     ·have := List.mem_singleton.1 h
      exact absurd hl (by rw [show l = (a.length : Int) + 1 by omega]; exact zil hc2)
    ·rw [if_neg (by simp)]
     obtain ⟨hok, hfl⟩ := zzt hp.cons hy.fl hx.fl (List.contains_iff_mem.1 hc2) (List.contains_iff_mem.1 hc1)
     have hpc := zhb hy.pc hx.pc ((a.length : Int) + 1)
     have hcx : clA S y.2 x.1.1 = x.1.2 := by rw [he2, zbr (by have := hx.lt; omega), hx.cl]
     have hcy := hy.cl
     have hltx := hx.lt
     have hlty := hy.lt
     have hvy := hy.val
     have hal : (a.length : Int) + 1 <= 12 := by
      obtain ⟨l, hl⟩ : ∃ l, l ∈ x.1.2 /\ l = -((a.length : Int) + 1) := ⟨_, List.contains_iff_mem.1 hc1, rfl⟩
      have := zcx hx.pc hl.1
      rw [hl.2, zc3, zcj (by omega)] at this
      exact this.2
     generalize hq : zdb y.1.2 x.1.2 ((a.length : Int) + 1) = q at hok hfl hpc ⊢
     generalize (a.length : Int) + 1 = v at hq hal hpos ⊢
     have hlen : (y.2 ++ [(⟨y.1.1, x.1.1, v, q.1⟩ : Ps)]).length = y.2.length + 1 := by simp
     refine ⟨⟨e1 ++ e2 ++ [⟨y.1.1, x.1.1, v, q.1⟩], by rw [he2, he1]; simp⟩, by rw [hlen]; omega, fun j hj => ?_, Or.inr (by rw [hlen]; rfl), by rw [hlen]; show S.length + y.2.length < _; omega, ?_, hfl, hpc⟩
     ·rw [hlen] at hj
      by_cases hjl : j < y.2.length
      ·rw [zj3 hjl]; exact hvy j hjl
      ·have hje : j = y.2.length := by omega
       subst hje
       have eg : (y.2 ++ [(⟨y.1.1, x.1.1, v, q.1⟩ : Ps)]).getD y.2.length ps0 = ⟨y.1.1, x.1.1, v, q.1⟩ := by
        rw [List.getD_eq_getElem?_getD, List.getElem?_append_right (Nat.le_refl _), Nat.sub_self]; rfl
       rw [zbn, eg]
       dsimp only
       rw [zbr (by omega), zbr (by omega), hcx, hcy, hq]
       exact ⟨⟨by omega, by omega⟩, ⟨by omega, by omega⟩, ⟨by omega, hal⟩, hok, rfl⟩
     ·show clA S _ ((S.length + y.2.length : Nat) : Int) = q.1
      unfold clA
      rw [if_neg (by omega), show ((S.length + y.2.length : Nat) : Int).toNat - S.length = y.2.length by omega, List.getD_eq_getElem?_getD, List.getElem?_append_right (Nat.le_refl _), Nat.sub_self]
      rfl
theorem yl_chk {S : List (List Int)} {m : Nat} (hS : ∀ c ∈ S, pcl c = true) (hv : ∀ c ∈ S, ∀ l ∈ c, ab l <= m) (hu : ∀ t ∈ sfx 1 m, isM S t = false) (he : ∀ c ∈ S, c ≠ []) : (yl S m [] []).2 ≠ [] /\ chk S (yl S m [] []).2 = -1 := by
 have h := zsx S hS m [] [] Pre.nil (fun c hc l hl => ⟨(zcx (hS c hc) hl).1, by have := hv c hc l hl; simp; omega⟩) (fun t ht => by rw [List.nil_append]; exact hu t (by simpa using ht)) (by simp)
 generalize yl S m [] [] = y at h
 have hn : y.1.2 = [] := by
  cases hy : y.1.2 with
  | nil => rfl
  | cons l ls =>
   have := zcy.1 h.fl l (by rw [hy]; simp)
   simp at this
 have hcl := h.cl
 rw [hn] at hcl
 have hnum : y.1.1 + 1 = S.length + y.2.length /\ S.length <= y.1.1 := by
  by_cases hlt : y.1.1 < S.length
  ·exfalso
   unfold clA at hcl
   rw [if_pos (by omega), Int.toNat_natCast, List.getD_eq_getElem?_getD, List.getElem?_eq_getElem hlt] at hcl
   exact he _ (List.getElem_mem hlt) hcl
  ·exact ⟨h.num.resolve_left hlt, by omega⟩
 have hpos : 0 < y.2.length := by omega
 refine ⟨fun e => by rw [e] at hpos; simp at hpos, zv8 h.val ?_⟩
 unfold clA at hcl
 rw [if_neg (by omega), show ((y.1.1 : Nat) : Int).toNat - S.length = y.2.length - 1 by omega] at hcl
 exact hcl
def zo6 (n : Nat) (s : Ps) (k : Nat) (out : List Bool) : List Bool := if out.getD (n + k) false = true then (out.set s.l.toNat true).set s.r.toNat true else out
def ndB (n : Nat) (st : List Ps) : Nat -> List Bool -> List Bool
 | 0, out => out
 | k + 1, out => ndB n st k (zo6 n (st.getD k ps0) k out)
def nd0 (n m : Nat) : List Bool := (List.replicate (n + m) false).set (n + m - 1) true
def nd (n : Nat) (st : List Ps) : List Bool := ndB n st st.length (nd0 n st.length)
theorem zju (n : Nat) (s : Ps) (k : Nat) (out : List Bool) : (zo6 n s k out).length = out.length := by unfold zo6; split <;> simp
theorem zyi (n : Nat) (st : List Ps) : ∀ (k : Nat) (out : List Bool), (ndB n st k out).length = out.length
 | 0, _ => rfl
 | k + 1, out => by rw [ndB, zyi n st k, zju]
theorem qd9 (n : Nat) (st : List Ps) : (nd n st).length = n + st.length := by unfold nd nd0; rw [zyi]; simp
theorem zdq (out : List Bool) (i j : Nat) (h : out.getD j false = true) : (out.set i true).getD j false = true := by
 rw [List.getD_eq_getElem?_getD] at h ⊢
 rw [List.getElem?_set]
 split
 ·split
  ·rfl
  next h1 h2 =>
   rw [List.getElem?_eq_none (by omega)] at h; cases h
 ·exact h
theorem zdu (out : List Bool) (i : Nat) (h : i < out.length) : (out.set i true).getD i false = true := by
 rw [List.getD_eq_getElem?_getD, List.getElem?_set, if_pos rfl, if_pos h]; rfl
theorem zu5 (n : Nat) (s : Ps) (k : Nat) (out : List Bool) (j : Nat) (h : out.getD j false = true) : (zo6 n s k out).getD j false = true := by
 unfold zo6
 split
 ·exact zdq _ _ _ (zdq _ _ _ h)
 ·exact h
theorem zg6 (n : Nat) (st : List Ps) : ∀ (k : Nat) (out : List Bool) (j : Nat), out.getD j false = true -> (ndB n st k out).getD j false = true
 | 0, _, _, h => h
 | k + 1, out, j, h => by rw [ndB]; exact zg6 n st k _ j (zu5 n _ k out j h)
theorem zhz (out : List Bool) (i j : Nat) (h : i ≠ j) : (out.set i true).getD j false = out.getD j false := by
 rw [List.getD_eq_getElem?_getD, List.getElem?_set_ne h, List.getD_eq_getElem?_getD]
theorem zq6 (n : Nat) (st : List Ps) : ∀ (k : Nat) (out : List Bool) (j : Nat), (∀ i < k, 0 <= (st.getD i ps0).l /\ (st.getD i ps0).l < n + i /\ 0 <= (st.getD i ps0).r /\ (st.getD i ps0).r < n + i) -> n + k <= j + 1 -> (ndB n st k out).getD j false = out.getD j false
 | 0, _, _, _, _ => rfl
 | k + 1, out, j, h, hj => by
  have hk := h k (by omega)
  rw [ndB, zq6 n st k _ j (fun i hi => h i (by omega)) (by omega)]
  unfold zo6
  split
  ·rw [zhz _ _ _ (by omega), zhz _ _ _ (by omega)]
  ·rfl
theorem zyp (n : Nat) (st : List Ps) : ∀ (k : Nat) (out : List Bool), out.length = n + st.length -> k <= st.length -> (∀ i < k, 0 <= (st.getD i ps0).l /\ (st.getD i ps0).l < n + i /\ 0 <= (st.getD i ps0).r /\ (st.getD i ps0).r < n + i) -> ∀ i < k, (ndB n st k out).getD (n + i) false = true -> (ndB n st k out).getD (st.getD i ps0).l.toNat false = true /\ (ndB n st k out).getD (st.getD i ps0).r.toNat false = true
 | 0, _, _, _, _, i, hi, _ => by omega
 | k + 1, out, hl, hkl, h, i, hi, hm => by
  rw [ndB] at hm ⊢
  by_cases hik : i < k
  ·exact zyp n st k _ (by rw [zju, hl]) (by omega) (fun i hi => h i (by omega)) i hik hm
  ·have e : i = k := by omega
   subst e
   have hk := h i (by omega)
   rw [zq6 n st i _ (n + i) (fun j hj => h j (by omega)) (by omega)] at hm
   have ho : out.getD (n + i) false = true := by
    unfold zo6 at hm
    split at hm
    next h1 => exact h1
    next h1 => exact hm
   have e : zo6 n (st.getD i ps0) i out = (out.set (st.getD i ps0).l.toNat true).set (st.getD i ps0).r.toNat true := by unfold zo6; rw [if_pos ho]
   rw [e]
   exact ⟨zg6 n st i _ _ (zdq _ _ _ (zdu _ _ (by omega))), zg6 n st i _ _ (zdu _ _ (by rw [List.length_set]; omega))⟩
theorem zp4 {S : List (List Int)} {st : List Ps} (h : ∀ j < st.length, zbe S st j = true) : ∀ i < st.length, 0 <= (st.getD i ps0).l /\ (st.getD i ps0).l < S.length + i /\ 0 <= (st.getD i ps0).r /\ (st.getD i ps0).r < S.length + i := fun i hi => by
 have := zbn.1 (h i hi)
 exact ⟨this.1.1, this.1.2, this.2.1.1, this.2.1.2⟩
theorem zwn {S : List (List Int)} {st : List Ps} (h : ∀ j < st.length, zbe S st j = true) : ∀ i < st.length, (nd S.length st).getD (S.length + i) false = true -> (nd S.length st).getD (st.getD i ps0).l.toNat false = true /\ (nd S.length st).getD (st.getD i ps0).r.toNat false = true :=
 zyp S.length st st.length _ (by unfold nd0; simp) (Nat.le_refl _) (zp4 h)
theorem zyy {S : List (List Int)} {st : List Ps} (h0 : st ≠ []) : (nd S.length st).getD (S.length + (st.length - 1)) false = true := by
 have : 0 < st.length := List.length_pos_iff.2 h0
 refine zg6 _ _ _ _ _ ?_
 unfold nd0
 rw [show S.length + (st.length - 1) = S.length + st.length - 1 by omega]
 exact zdu _ _ (by simp; omega)
theorem zrm {S : List (List Int)} {st : List Ps} (h0 : st ≠ []) (h : chk S st = -1) {w : List Int} (hw : zzh w) (hm : ∀ i < S.length, (nd S.length st).getD i false = true -> sat w (S.getD i []) = true) : False := by
 obtain ⟨hs, hl⟩ := zg9 h
 have hpos : 0 < st.length := List.length_pos_iff.2 h0
 have key : ∀ (k : Nat) (i : Int), 0 <= i -> i < S.length + k -> k <= st.length -> (nd S.length st).getD i.toNat false = true -> sat w (clA S st i) = true := by
  intro k
  induction k with
  | zero =>
   intro i h1 h2 _ h3
   unfold clA
   rw [if_pos (by simpa using h2)]
   exact hm _ (by omega) h3
  | succ k ih =>
   intro i h1 h2 hk h3
   by_cases hlt : i < S.length + k
   ·exact ih i h1 hlt (by omega) h3
   ·have e : i = ((S.length + k : Nat) : Int) := by omega
    subst e
    rw [Int.toNat_natCast] at h3
    have hd := zwn hs k (by omega) h3
    have ho := zbn.1 (hs k (by omega))
    have f1 := ih _ ho.1.1 ho.1.2 (by omega) hd.1
    have f2 := ih _ ho.2.1.1 ho.2.1.2 (by omega) hd.2
    have f3 := zrz hw f1 f2 ho.2.2.2.1
    rw [ho.2.2.2.2] at f3
    unfold clA
    rw [if_neg (by omega), show ((S.length + k : Nat) : Int).toNat - S.length = k by omega]
    exact f3
 have := key st.length ((S.length + (st.length - 1) : Nat) : Int) (by omega) (by omega) (Nat.le_refl _) (by rw [Int.toNat_natCast]; exact zyy h0)
 unfold clA at this
 rw [if_neg (by omega), show ((S.length + (st.length - 1) : Nat) : Int).toNat - S.length = st.length - 1 by omega, hl] at this
 cases this
def rk (n : Nat) (nd : List Bool) (k : Nat) : Nat := (List.range k).countP fun j => nd.getD (n + j) false
def zsy (n : Nat) (nd : List Bool) (i : Int) : Int := if i < n then i else n + rk n nd (i.toNat - n)
def trS (n : Nat) (nd : List Bool) (s : Ps) : Ps := ⟨zsy n nd s.l, zsy n nd s.r, s.p, s.c⟩
def trF (n : Nat) (nd : List Bool) (st : List Ps) : Nat -> List Ps
 | 0 => []
 | k + 1 => trF n nd st k ++ if nd.getD (n + k) false = true then [trS n nd (st.getD k ps0)] else []
def trm (S : List (List Int)) (st : List Ps) : List Ps := trF S.length (nd S.length st) st st.length
theorem zje (n : Nat) (nd : List Bool) (k : Nat) : rk n nd (k + 1) = rk n nd k + if nd.getD (n + k) false = true then 1 else 0 := by
 unfold rk
 rw [List.range_succ, List.countP_append, List.countP_singleton]
theorem ze5 (n : Nat) (nd : List Bool) (st : List Ps) : ∀ k, (trF n nd st k).length = rk n nd k
 | 0 => rfl
 | k + 1 => by
  rw [trF, List.length_append, ze5 n nd st k, zje]
  split <;> rfl
theorem rk_le (n : Nat) (nd : List Bool) (k : Nat) : rk n nd k <= k := by
 unfold rk
 have := List.countP_le_length (p := fun j => nd.getD (n + j) false) (l := List.range k)
 rwa [List.length_range] at this
theorem qfa (n : Nat) (nd : List Bool) {j k : Nat} (h : j <= k) : rk n nd j <= rk n nd k := by
 induction h with
 | refl => exact Nat.le_refl _
 | step _ ih => rw [zje]; split <;> omega
theorem qe2 (S : List (List Int)) (st : List Ps) : (trm S st).length <= st.length := by unfold trm; rw [ze5]; exact rk_le _ _ _
theorem qgx (n : Nat) (nd : List Bool) (st : List Ps) {j k : Nat} (h : j <= k) : ∃ e, trF n nd st k = trF n nd st j ++ e := by
 induction h with
 | refl => exact ⟨[], by simp⟩
 | step _ ih =>
  obtain ⟨e, he⟩ := ih
  exact ⟨_, by rw [trF, he, List.append_assoc]⟩
theorem qef (n : Nat) (nd : List Bool) (st : List Ps) {j k : Nat} (h : j < k) (hn : nd.getD (n + j) false = true) : (trF n nd st k).getD (rk n nd j) ps0 = trS n nd (st.getD j ps0) := by
 obtain ⟨e, he⟩ := qgx n nd st (show j + 1 <= k from h)
 rw [he, trF, if_pos hn, List.getD_eq_getElem?_getD, List.append_assoc, List.getElem?_append_right (by rw [ze5]; exact Nat.le_refl _), ze5, Nat.sub_self]
 rfl
theorem qel {S : List (List Int)} {st : List Ps} {i : Int} (h0 : 0 <= i) (h1 : i < S.length + st.length) (hn : (nd S.length st).getD i.toNat false = true) : clA S (trm S st) (zsy S.length (nd S.length st) i) = clA S st i := by
 unfold zsy
 by_cases hi : i < S.length
 ·rw [if_pos hi]
  unfold clA; rw [if_pos hi, if_pos hi]
 ·rw [if_neg hi]
  unfold clA
  rw [if_neg (by omega), if_neg hi]
  have e : ((S.length : Int) + (rk S.length (nd S.length st) (i.toNat - S.length) : Nat)).toNat - S.length = rk S.length (nd S.length st) (i.toNat - S.length) := by omega
  rw [e]
  unfold trm
  rw [qef _ _ _ (by omega) (by rwa [show S.length + (i.toNat - S.length) = i.toNat by omega])]
  rfl
theorem zvo {n : Nat} {nd : List Bool} {i : Int} {k : Nat} (h0 : 0 <= i) (h1 : i < n + k) (hn : nd.getD i.toNat false = true) : 0 <= zsy n nd i /\ zsy n nd i < n + rk n nd k := by
 unfold zsy
 split
 ·omega
 next hi =>
  have := qfa n nd (show i.toNat - n + 1 <= k by omega)
  rw [zje, if_pos (by rwa [show n + (i.toNat - n) = i.toNat by omega])] at this
  omega
theorem zuh {P : Nat -> Ps -> Prop} (n : Nat) (nd : List Bool) (st : List Ps) : ∀ k, (∀ j < k, nd.getD (n + j) false = true -> P (rk n nd j) (trS n nd (st.getD j ps0))) -> ∀ q < (trF n nd st k).length, P q ((trF n nd st k).getD q ps0)
 | 0, _, q, hq => by simp [trF] at hq
 | k + 1, h, q, hq => by
  have hl := ze5 n nd st k
  rw [trF] at hq ⊢
  by_cases hqk : q < (trF n nd st k).length
  ·rw [List.getD_eq_getElem?_getD, List.getElem?_append_left hqk, <- List.getD_eq_getElem?_getD]
   exact zuh n nd st k (fun j hj => h j (by omega)) q hqk
  ·rw [List.length_append] at hq
   split at hq
   next hn =>
    rw [if_pos hn, List.getD_eq_getElem?_getD, List.getElem?_append_right (by omega)]
    simp only [List.length_singleton] at hq
    have : q = (trF n nd st k).length := by omega
    subst this
    rw [Nat.sub_self, hl]
    exact h k (by omega) hn
   next hn => simp at hq; omega
theorem qgd {S : List (List Int)} {st : List Ps} (h0 : st ≠ []) (h : chk S st = -1) : trm S st ≠ [] /\ chk S (trm S st) = -1 := by
 obtain ⟨hs, hl⟩ := zg9 h
 have hpos : 0 < st.length := List.length_pos_iff.2 h0
 have hlast := zyy (S := S) h0
 have hlen := ze5 S.length (nd S.length st) st st.length
 have hrk : rk S.length (nd S.length st) st.length = rk S.length (nd S.length st) (st.length - 1) + 1 := by
  conv => lhs; rw [show st.length = st.length - 1 + 1 by omega]
  rw [zje, if_pos hlast]
 have hlt : (trm S st).length = rk S.length (nd S.length st) (st.length - 1) + 1 := by unfold trm; rw [hlen, hrk]
 refine ⟨fun e => by rw [e] at hlt; simp at hlt, zv8 (fun q hq => ?_) ?_⟩
 ·refine zuh (P := fun q s => (0 <= s.l /\ s.l < S.length + q) /\ (0 <= s.r /\ s.r < S.length + q) /\ (1 <= s.p /\ s.p <= 12) /\ (zdb (clA S (trm S st) s.l) (clA S (trm S st) s.r) s.p).2 = true /\ (zdb (clA S (trm S st) s.l) (clA S (trm S st) s.r) s.p).1 = s.c) S.length (nd S.length st) st st.length (fun j hj hn => ?_) q hq |> zbn.2
  have hd := zwn hs j hj hn
  have ho := zbn.1 (hs j hj)
  have e1 := qel ho.1.1 (by omega) hd.1
  have e2 := qel ho.2.1.1 (by omega) hd.2
  have b1 := zvo ho.1.1 ho.1.2 hd.1
  have b2 := zvo ho.2.1.1 ho.2.1.2 hd.2
  unfold trS
  dsimp only
  rw [e1, e2]
  exact ⟨b1, b2, ho.2.2.1, ho.2.2.2⟩
 ·rw [hlt, Nat.add_sub_cancel]
  unfold trm
  rw [qef _ _ _ (by omega) hlast]
  exact hl
end Go.Proofs.Yteeaofpphmhjdaa
namespace Go.Proofs.Yteeaofpphmhjdaa
set_option linter.unusedSimpArgs false
set_option linter.unusedVariables false
set_option linter.unusedSectionVars false
set_option maxRecDepth 4000
theorem qei : ∀ (c : List Int) (n : Int), n <= c.foldl (fun m l => max m (ab l)) n /\ ∀ l ∈ c, ab l <= c.foldl (fun m l => max m (ab l)) n
 | [], n => ⟨Int.le_refl _, by simp⟩
 | l :: c, n => by
  have h := qei c (max n (ab l))
  rw [List.foldl_cons]
  refine ⟨by omega, fun x hx => ?_⟩
  rcases List.mem_cons.1 hx with rfl | hx
  ·omega
  ·exact h.2 x hx
theorem zxo : ∀ (S : List (List Int)) (n : Int), n <= S.foldl (fun n c => c.foldl (fun m l => max m (ab l)) n) n /\ ∀ c ∈ S, ∀ l ∈ c, ab l <= S.foldl (fun n c => c.foldl (fun m l => max m (ab l)) n) n
 | [], n => ⟨Int.le_refl _, by simp⟩
 | c :: S, n => by
  have h1 := qei c n
  have h := zxo S (c.foldl (fun m l => max m (ab l)) n)
  rw [List.foldl_cons]
  refine ⟨by omega, fun d hd l hl => ?_⟩
  rcases List.mem_cons.1 hd with rfl | hd
  ·have := h1.2 l hl; omega
  ·exact h.2 d hd l hl
theorem zh4 {S : List (List Int)} {c : List Int} (hc : c ∈ S) {l : Int} (hl : l ∈ c) : ab l <= zea S := (zxo S 0).2 c hc l hl
theorem zj1 (S : List (List Int)) : 0 <= zea S := (zxo S 0).1
theorem zlf : ∀ (c : List Int) (n : Int), n <= 12 -> (∀ l ∈ c, ab l <= 12) -> c.foldl (fun m l => max m (ab l)) n <= 12
 | [], n, h, _ => h
 | l :: c, n, h, hc => by
  rw [List.foldl_cons]
  exact zlf c _ (by have := hc l (by simp); omega) fun x hx => hc x (by simp [hx])
theorem zmj : ∀ (S : List (List Int)) (n : Int), n <= 12 -> (∀ c ∈ S, ∀ l ∈ c, ab l <= 12) -> S.foldl (fun n c => c.foldl (fun m l => max m (ab l)) n) n <= 12
 | [], n, h, _ => h
 | c :: S, n, h, hc => by
  rw [List.foldl_cons]
  exact zmj S _ (zlf c n h (hc c (by simp))) fun d hd => hc d (by simp [hd])
theorem zk6 {S : List (List Int)} (h : ∀ c ∈ S, pcl c = true) : zea S <= 12 := zmj S 0 (by omega) fun c hc _ hl => (zcx (h c hc) hl).2
theorem zwe {S : List (List Int)} {a : List Int} {x : Int} (h : ∀ c ∈ S, ∀ l ∈ c, ab l < ab x) : isM S (a ++ [x]) = isM S a := by
 unfold isM
 rw [Bool.eq_iff_iff, List.all_eq_true, List.all_eq_true]
 constructor
 ·intro hh c hc
  obtain ⟨l, h1, h2⟩ := zcd.1 (hh c hc)
  rcases List.mem_append.1 h2 with h2 | h2
  ·exact zcd.2 ⟨l, h1, h2⟩
  ·have := h c hc l h1
   rw [List.mem_singleton.1 h2] at this; omega
 ·intro hh c hc
  obtain ⟨l, h1, h2⟩ := zcd.1 (hh c hc)
  exact zcd.2 ⟨l, h1, List.mem_append_left _ h2⟩
theorem ze4 {S : List (List Int)} : ∀ (n : Nat) (v : Int) (a : List Int), 1 <= v -> (∀ c ∈ S, ∀ l ∈ c, ab l < v + n) -> ((sfx v (n + 1)).map (a ++ ·)).countP (isM S) = 2 * ((sfx v n).map (a ++ ·)).countP (isM S)
 | 0, v, a, hv, h => by
  have e1 : isM S (a ++ [v]) = isM S a := zwe fun c hc l hl => by rw [show ab v = v from zcj (by omega)]; have := h c hc l hl; simpa using this
  have e2 : isM S (a ++ [-v]) = isM S a := zwe fun c hc l hl => by rw [zc3 v, show ab v = v from zcj (by omega)]; have := h c hc l hl; simpa using this
  simp only [sfx, List.map_cons, List.map_nil, List.append_nil, List.singleton_append, List.countP_cons, List.countP_nil, e1, e2]
  omega
 | n + 1, v, a, hv, h => by
  have e1 := ze4 n (v + 1) (a ++ [v]) (by omega) fun c hc l hl => by have := h c hc l hl; omega
  have e2 := ze4 n (v + 1) (a ++ [-v]) (by omega) fun c hc l hl => by have := h c hc l hl; omega
  rw [sfx]
  conv => rhs; rw [sfx]
  simp only [List.map_append, List.map_map, List.countP_append]
  have f1 : ((fun x => a ++ x) ∘ fun x => v :: x) = fun x => (a ++ [v]) ++ x := by funext x; simp
  have f2 : ((fun x => a ++ x) ∘ fun x => -v :: x) = fun x => (a ++ [-v]) ++ x := by funext x; simp
  rw [f1, f2, e1, e2]
  omega
def cntM (S : List (List Int)) (n : Nat) : Nat := (sfx 1 n).countP (isM S)
def zk9 (S : List (List Int)) : Option (List Int) := (sfx 1 (zea S).toNat).find? (isM S)
theorem cntM_succ {S : List (List Int)} {n : Nat} (h : ∀ c ∈ S, ∀ l ∈ c, ab l <= n) : cntM S (n + 1) = 2 * cntM S n := by
 have := ze4 (S := S) n 1 [] (by omega) fun c hc l hl => by have := h c hc l hl; omega
 unfold cntM
 simpa using this
theorem zzd {S : List (List Int)} {m : List Int} (h : zk9 S = some m) : isM S m = true /\ m ∈ sfx 1 (zea S).toNat := ⟨by simpa using List.find?_some h, List.mem_of_find?_eq_some h⟩
theorem zfu {S : List (List Int)} (h : zk9 S = none) : ∀ t ∈ sfx 1 (zea S).toNat, isM S t = false := fun t ht => by
 have := List.find?_eq_none.1 h t ht
 simpa using this
theorem qbt {n : Nat} {t : List Int} (h : t ∈ sfx 1 n) : zzh t := fun l hl hn => by
 obtain ⟨_, h2, h3, _⟩ := zn4 (by omega) h
 have := zkt h3 hl hn (zc3 l).symm
 have := h2 l hl
 unfold ab at this; omega
theorem zw4 {S : List (List Int)} (h : ∀ c ∈ S, pcl c = true) : qap S (zea S).toNat [] 1 = zk9 S := by
 have := zj1 S
 rw [zo2 S _ [] 1 Pre.nil fun c hc l hl => ⟨(zcx (h c hc) hl).1, by have := zh4 hc hl; omega⟩]
 unfold zk9
 congr 1
 simp
theorem zyv (S : List (List Int)) : zk9 S = ((List.range (2 ^ (zea S).toNat)).find? fun k => isM S (asg 1 (zea S).toNat k)).map (asg 1 (zea S).toNat) := by
 unfold zk9
 rw [sfx_eq, List.find?_map]
 rfl
end Go.Proofs.Yteeaofpphmhjdaa
namespace Go.Proofs.Yteeaofpphmhjdaa
set_option linter.unusedSimpArgs false
set_option linter.unusedVariables false
set_option linter.unusedSectionVars false
set_option maxRecDepth 4000
open Go
structure Cu where
 code : List UInt8
 pos : Nat
 seed : Int
def Cu.b (q : Cu) : Int := if q.pos < q.code.length then ((q.code.getD q.pos 0).toNat : Int) else 0
def Cu.sd (q : Cu) : Int := IntKind.u64.wrap (IntKind.u64.wrap (IntKind.u64.wrap (q.seed * 6364136223846793005) + IntKind.u64.wrap q.b) + 892892)
def Cu.nx (q : Cu) : Cu := ⟨q.code, q.pos + 1, q.sd⟩
def Cu.v (q : Cu) : Int := if q.pos + 1 <= q.code.length then q.b else IntKind.i64.wrap (IntKind.u64.wrap ((BitVec.ofInt 64 (q.sd.fdiv (2 ^ 40)) &&& BitVec.ofInt 64 255).toNat : Int))
theorem Cu.v_bd (q : Cu) : 0 <= q.v /\ q.v <= 255 := by
 unfold Cu.v
 split
 ·unfold Cu.b
  split
  ·have := (q.code.getD q.pos 0).toNat_lt; omega
  ·omega
 ·have h : (BitVec.ofInt 64 (q.sd.fdiv (2 ^ 40)) &&& BitVec.ofInt 64 255).toNat <= 255 := by
   rw [BitVec.toNat_and]
   exact Nat.and_le_right
  generalize (BitVec.ofInt 64 (q.sd.fdiv (2 ^ 40)) &&& BitVec.ofInt 64 255).toNat = n at h
  have e1 : IntKind.u64.wrap (n : Int) = n := by
   simp [IntKind.wrap, IntKind.bits, IntKind.signed]; omega
  rw [e1]
  have e2 : IntKind.i64.wrap (n : Int) = n := by
   simp [IntKind.wrap, IntKind.bits, IntKind.signed]; omega
  rw [e2]; omega
def Cu.pick (q : Cu) (n : Int) : Cu × Int := if n <= 1 then (q, 0) else (q.nx, q.v.tmod n)
theorem Cu.pick_bd (q : Cu) {n : Int} (h : 1 <= n) : 0 <= (q.pick n).2 /\ (q.pick n).2 < n := by
 unfold Cu.pick
 split
 ·dsimp only; omega
 ·have h2 := q.v_bd
  dsimp only
  rw [Int.tmod_eq_emod_of_nonneg h2.1]
  exact ⟨Int.emod_nonneg _ (by omega), Int.emod_lt_of_pos _ (by omega)⟩
theorem Cu.pick_pos (q : Cu) (n : Int) : q.pos <= (q.pick n).1.pos /\ (q.pick n).1.pos <= q.pos + 1 := by
 unfold Cu.pick Cu.nx
 split <;> simp
theorem Cu.pick_code (q : Cu) (n : Int) : (q.pick n).1.code = q.code := by
 unfold Cu.pick Cu.nx
 split <;> rfl
def qdf (v x : Int) : Int := v - 2 * v * x
def clR (q : Cu) : Nat -> Cu × List Int
 | 0 => (q, [])
 | k + 1 => if ((clR q k).1.pick 3).2 = 0 then ((((clR q k).1.pick 3).1.pick 2).1, (clR q k).2 ++ [qdf ((k : Int) + 1) ((((clR q k).1.pick 3).1.pick 2).2)]) else (((clR q k).1.pick 3).1, (clR q k).2)
def clD (q : Cu) (n : Nat) : Cu × List Int :=
 if (clR q n).2.take 3 = [] then
  if ((clR q n).1.pick 20).2 = 0 then (((clR q n).1.pick 20).1, [])
  else ((((((clR q n).1.pick 20).1.pick n).1.pick 2).1), [qdf (1 + (((clR q n).1.pick 20).1.pick n).2) ((((clR q n).1.pick 20).1.pick n).1.pick 2).2])
 else ((clR q n).1, (clR q n).2.take 3)
theorem zj2 (q : Cu) : ∀ k, q.pos <= (clR q k).1.pos /\ (clR q k).1.pos <= q.pos + 2 * k /\ (clR q k).1.code = q.code /\ (clR q k).2.length <= k
 | 0 => ⟨Nat.le_refl _, Nat.le_refl _, rfl, Nat.le_refl _⟩
 | k + 1 => by
  obtain ⟨h1, h2, h3, h4⟩ := zj2 q k
  have p1 := (clR q k).1.pick_pos 3
  have p2 := ((clR q k).1.pick 3).1.pick_pos 2
  have c1 := (clR q k).1.pick_code 3
  have c2 := ((clR q k).1.pick 3).1.pick_code 2
  rw [clR]
  split
  ·refine ⟨by dsimp only; omega, by dsimp only; omega, ?_, ?_⟩
   ·exact (c2.trans c1).trans h3
   ·simp; exact h4
  ·exact ⟨by dsimp only; omega, by dsimp only; omega, c1.trans h3, by dsimp only; omega⟩
theorem zhy (q : Cu) (n : Nat) : q.pos <= (clD q n).1.pos /\ (clD q n).1.pos <= q.pos + 2 * n + 3 /\ (clD q n).1.code = q.code /\ (clD q n).2.length <= 3 := by
 obtain ⟨h1, h2, h3, h4⟩ := zj2 q n
 have p1 := (clR q n).1.pick_pos 20
 have p2 := ((clR q n).1.pick 20).1.pick_pos n
 have p3 := (((clR q n).1.pick 20).1.pick n).1.pick_pos 2
 have c1 := (clR q n).1.pick_code 20
 have c2 := ((clR q n).1.pick 20).1.pick_code n
 have c3 := (((clR q n).1.pick 20).1.pick n).1.pick_code 2
 unfold clD
 split
 ·split
  ·exact ⟨by dsimp only; omega, by dsimp only; omega, c1.trans h3, by simp⟩
  ·exact ⟨by dsimp only; omega, by dsimp only; omega, ((c3.trans c2).trans c1).trans h3, by simp⟩
 ·refine ⟨by dsimp only; omega, by dsimp only; omega, h3, ?_⟩
  dsimp only
  rw [List.length_take]; omega
abbrev qha (n : Int) (c : List Int) : Prop := ∀ l ∈ c, -n <= l /\ l <= n
theorem zwm {n v x : Int} (hv : 0 <= v /\ v <= n) (hx : 0 <= x /\ x < 2) : -n <= qdf v x /\ qdf v x <= n := by
 unfold qdf
 have : x = 0 \/ x = 1 := by omega
 rcases this with rfl | rfl <;> omega
theorem zp1 (q : Cu) : ∀ k : Nat, qha k (clR q k).2
 | 0 => fun l hl => by simp [clR] at hl
 | k + 1 => by
  have h := zp1 q k
  rw [clR]
  split
  ·intro l hl
   rcases List.mem_append.1 hl with hl | hl
   ·have := h l hl; omega
   ·rw [List.mem_singleton.1 hl]
    exact zwm (by omega) (Cu.pick_bd _ (by omega))
  ·intro l hl
   have := h l hl; omega
theorem qcz (q : Cu) (n : Nat) (hn : 1 <= n) : qha n (clD q n).2 := by
 unfold clD
 split
 ·split
  ·intro l hl; simp at hl
  ·intro l hl
   rw [List.mem_singleton.1 hl]
   have := Cu.pick_bd ((clR q n).1.pick 20).1 (n := n) (by omega)
   exact zwm (by omega) (Cu.pick_bd _ (by omega))
 ·intro l hl
  exact zp1 q n l (List.mem_of_mem_take hl)
def ze1 (n : Nat) : Nat -> Cu × List (List Int) -> Cu × List (List Int)
 | 0, x => x
 | k + 1, x => ze1 n k ((clD x.1 n).1, x.2 ++ [(clD x.1 n).2])
def zn1 (n : Nat) : Nat -> Cu × List (List Int) -> Cu × List (List Int)
 | 0, x => x
 | k + 1, x => if (x.1.pick 2).2 = 0 then zn1 n k ((clD (clD (x.1.pick 2).1 n).1 2).1, x.2 ++ [(clD (x.1.pick 2).1 n).2] ++ [(clD (clD (x.1.pick 2).1 n).1 2).2]) else ((x.1.pick 2).1, x.2)
structure GdS (B : Nat) (n : Int) (N : Nat) (q : Cu) (x : Cu × List (List Int)) : Prop where
 pos : q.pos <= x.1.pos /\ x.1.pos <= q.pos + B
 code : x.1.code = q.code
 lits : ∀ c ∈ x.2, qha n c /\ c.length <= 3
 len : x.2.length <= N
theorem GdS.put {B N : Nat} {n : Int} {q : Cu} {x : Cu × List (List Int)} (h : GdS B n N q x) {m : Nat} (hm : 1 <= m) (hn : (m : Int) <= n) : GdS (B + (2 * m + 3)) n (N + 1) q ((clD x.1 m).1, x.2 ++ [(clD x.1 m).2]) := by
 obtain ⟨p1, p2, p3, p4⟩ := zhy x.1 m
 have hl := qcz x.1 m hm
 have h0 := h.pos
 refine ⟨⟨by dsimp only; omega, by dsimp only; omega⟩, p3.trans h.code, fun c hc => ?_, by have := h.len; simp; omega⟩
 rcases List.mem_append.1 hc with hc | hc
 ·exact h.lits c hc
 ·rw [List.mem_singleton.1 hc]
  exact ⟨fun l hl' => by have := hl l hl'; omega, p4⟩
theorem GdS.pick {B N : Nat} {n : Int} {q : Cu} {x : Cu × List (List Int)} (h : GdS B n N q x) (m : Int) : GdS (B + 1) n N q ((x.1.pick m).1, x.2) := by
 have p := x.1.pick_pos m
 have h0 := h.pos
 exact ⟨⟨by dsimp only; omega, by dsimp only; omega⟩, (x.1.pick_code m).trans h.code, h.lits, h.len⟩
theorem GdS.mono {B B' N N' : Nat} {n : Int} {q : Cu} {x : Cu × List (List Int)} (h : GdS B n N q x) (h1 : B <= B') (h2 : N <= N') : GdS B' n N' q x :=
 ⟨⟨h.pos.1, by have := h.pos.2; omega⟩, h.code, h.lits, by have := h.len; omega⟩
theorem zqi {n : Nat} (hn : 1 <= n) : ∀ (k : Nat) {B N : Nat} {q : Cu} {x : Cu × List (List Int)}, GdS B n N q x -> GdS (B + k * (2 * n + 3)) n (N + k) q (ze1 n k x)
 | 0, _, _, _, _, h => h.mono (by omega) (by omega)
 | k + 1, B, N, q, x, h => by
  rw [ze1]
  exact (zqi hn k (h.put hn (Int.le_refl _))).mono (by rw [Nat.add_mul]; omega) (by omega)
theorem zq0 {n : Nat} (hn : 2 <= n) : ∀ (k : Nat) {B N : Nat} {q : Cu} {x : Cu × List (List Int)}, GdS B n N q x -> GdS (B + k * (2 * n + 12)) n (N + 2 * k) q (zn1 n k x)
 | 0, _, _, _, _, h => h.mono (by omega) (by omega)
 | k + 1, B, N, q, x, h => by
  rw [zn1]
  split
  ·exact (zq0 hn k (((h.pick 2).put (by omega) (Int.le_refl _)).put (m := 2) (by omega) (by omega))).mono (by rw [Nat.add_mul]; omega) (by omega)
  ·exact (h.pick 2).mono (by rw [Nat.add_mul]; omega) (by omega)
def zc1 (q : Cu) : Cu × List (List Int) :=
 zn1 (2 + (q.pick 4).2.toNat) ((ze1 (2 + (q.pick 4).2.toNat) (1 + ((q.pick 4).1.pick 7).2.toNat) (((q.pick 4).1.pick 7).1, [])).1.pick 14).2.toNat
  (((ze1 (2 + (q.pick 4).2.toNat) (1 + ((q.pick 4).1.pick 7).2.toNat) (((q.pick 4).1.pick 7).1, [])).1.pick 14).1, (ze1 (2 + (q.pick 4).2.toNat) (1 + ((q.pick 4).1.pick 7).2.toNat) (((q.pick 4).1.pick 7).1, [])).2)
def zo9 : Nat -> Cu × List (List Int) -> Cu × List (List Int)
 | 0, x => x
 | k + 1, x => if (x.2.length : Int) < 40 + (x.1.pick 2).2 then zo9 k ((clD (x.1.pick 2).1 6).1, x.2 ++ [(clD (x.1.pick 2).1 6).2]) else ((x.1.pick 2).1, x.2)
def zs4 (q : Cu) (l : List Int) : Cu × Int := ((q.pick l.length).1, l.getD (q.pick l.length).2.toNat 0)
def zzj (q : Cu) : Cu × List (List Int) :=
 if ((zc1 q).1.pick 30).2 = 0 then ((zs4 ((zc1 q).1.pick 30).1 [0, 13, -13]).1, (zc1 q).2 ++ [[(zs4 ((zc1 q).1.pick 30).1 [0, 13, -13]).2]])
 else if ((zc1 q).1.pick 30).2 = 1 then (((zc1 q).1.pick 30).1, (zc1 q).2 ++ [[2, 1]])
 else if ((zc1 q).1.pick 30).2 = 2 then (((zc1 q).1.pick 30).1, (zc1 q).2 ++ [[1, -1]])
 else if ((zc1 q).1.pick 30).2 = 3 then zo9 (42 - (zc1 q).2.length) (((zc1 q).1.pick 30).1, (zc1 q).2)
 else if ((zc1 q).1.pick 30).2 = 4 then (((zc1 q).1.pick 30).1, (zc1 q).2 ++ [[12], [-12, 7]])
 else (((zc1 q).1.pick 30).1, (zc1 q).2)
theorem zwb (q : Cu) : GdS 600 5 33 q (zc1 q) := by
 have h1 := Cu.pick_bd q (n := 4) (by omega)
 have h2 := Cu.pick_bd (q.pick 4).1 (n := 7) (by omega)
 have g0 : GdS 0 (2 + (q.pick 4).2.toNat : Nat) 0 q (q, []) := ⟨by simp, rfl, by simp, Nat.le_refl _⟩
 have g1 := zqi (n := 2 + (q.pick 4).2.toNat) (by omega) (1 + ((q.pick 4).1.pick 7).2.toNat) ((g0.pick 4).pick 7)
 have h3 := Cu.pick_bd (ze1 (2 + (q.pick 4).2.toNat) (1 + ((q.pick 4).1.pick 7).2.toNat) (((q.pick 4).1.pick 7).1, [])).1 (n := 14) (by omega)
 have g2 := zq0 (n := 2 + (q.pick 4).2.toNat) (by omega) ((ze1 (2 + (q.pick 4).2.toNat) (1 + ((q.pick 4).1.pick 7).2.toNat) (((q.pick 4).1.pick 7).1, [])).1.pick 14).2.toNat (g1.pick 14)
 change GdS _ _ _ q (zc1 q) at g2
 generalize ((ze1 (2 + (q.pick 4).2.toNat) (1 + ((q.pick 4).1.pick 7).2.toNat) (((q.pick 4).1.pick 7).1, [])).1.pick 14).2 = z at h3 g2
 generalize ((q.pick 4).1.pick 7).2 = y at h2 g2
 generalize (q.pick 4).2 = x at h1 g2
 have hx : x.toNat <= 3 := by omega
 have hy : y.toNat <= 6 := by omega
 have hz : z.toNat <= 13 := by omega
 have e1 : (1 + y.toNat) * (2 * (2 + x.toNat) + 3) <= 7 * 13 := Nat.mul_le_mul (by omega) (by omega)
 have e2 : z.toNat * (2 * (2 + x.toNat) + 12) <= 13 * 22 := Nat.mul_le_mul hz (by omega)
 have g3 := g2.mono (B' := 600) (N' := 33) (by omega) (by omega)
 exact ⟨g3.pos, g3.code, fun c hc => ⟨fun l hl => by have := (g3.lits c hc).1 l hl; omega, (g3.lits c hc).2⟩, g3.len⟩
theorem zqm : ∀ (k : Nat) {B N : Nat} {q : Cu} {x : Cu × List (List Int)}, GdS B 13 N q x -> GdS (B + k * 16) 13 (N + k) q (zo9 k x)
 | 0, _, _, _, _, h => h.mono (by omega) (by omega)
 | k + 1, B, N, q, x, h => by
  rw [zo9]
  split
  ·exact (zqm k ((h.pick 2).put (m := 6) (by omega) (by omega))).mono (by rw [Nat.add_mul]; omega) (by omega)
  ·exact (h.pick 2).mono (by omega) (by omega)
theorem qez (q : Cu) : GdS 2000 13 80 q (zzj q) := by
 have h := zwb q
 have h0 : GdS 600 13 33 q (zc1 q) := ⟨h.pos, h.code, fun c hc => ⟨fun l hl => by have := (h.lits c hc).1 l hl; omega, (h.lits c hc).2⟩, h.len⟩
 have h1 := h0.pick 30
 have hl := h1.len
 have key : ∀ (q' : Cu) (cs : List (List Int)), (q'.pos <= ((zc1 q).1.pick 30).1.pos + 1 /\ ((zc1 q).1.pick 30).1.pos <= q'.pos) -> q'.code = ((zc1 q).1.pick 30).1.code -> (∀ c ∈ cs, qha 13 c /\ c.length <= 3) -> cs.length <= 2 -> GdS 2000 13 80 q (q', (zc1 q).2 ++ cs) := fun q' cs k1 k2 k3 k4 => by
  have := h1.pos
  refine ⟨⟨by dsimp only at *; omega, by dsimp only at *; omega⟩, k2.trans h1.code, fun c hc => ?_, by dsimp only at *; rw [List.length_append]; omega⟩
  rcases List.mem_append.1 hc with hc | hc
  ·exact h1.lits c hc
  ·exact k3 c hc
 have hr : ((zc1 q).1.pick 30).1.pos <= ((zc1 q).1.pick 30).1.pos + 1 /\ ((zc1 q).1.pick 30).1.pos <= ((zc1 q).1.pick 30).1.pos := by omega
 unfold zzj
 split
 ·have p := ((zc1 q).1.pick 30).1.pick_pos 3
  have b := Cu.pick_bd ((zc1 q).1.pick 30).1 (n := 3) (by omega)
  refine key _ _ ?_ (Cu.pick_code _ _) (fun c hc => ?_) (by simp)
  ·unfold zs4; exact ⟨p.2, p.1⟩
  ·rw [List.mem_singleton.1 hc]
   refine ⟨fun l hl => ?_, by simp⟩
   rw [List.mem_singleton.1 hl]
   unfold zs4
   show -13 <= ([0, 13, -13] : List Int).getD (((zc1 q).1.pick 30).1.pick 3).2.toNat 0 /\ ([0, 13, -13] : List Int).getD (((zc1 q).1.pick 30).1.pick 3).2.toNat 0 <= 13
   have : (((zc1 q).1.pick 30).1.pick 3).2 = 0 \/ (((zc1 q).1.pick 30).1.pick 3).2 = 1 \/ (((zc1 q).1.pick 30).1.pick 3).2 = 2 := by omega
   rcases this with e | e | e <;> rw [e] <;> decide
 ·split
  ·exact key _ _ hr rfl (by simp [qha]) (by simp)
  ·split
   ·exact key _ _ hr rfl (by simp [qha]) (by simp)
   ·split
    ·exact (zqm (42 - (zc1 q).2.length) h1).mono (by omega) (by omega)
    ·split
     ·exact key _ _ hr rfl (by simp [qha]) (by simp)
     ·exact h1.mono (by omega) (by omega)
end Go.Proofs.Yteeaofpphmhjdaa
namespace Go.Proofs.Yteeaofpphmhjdaa
set_option linter.unusedSimpArgs false
set_option linter.unusedVariables false
set_option linter.unusedSectionVars false
set_option maxRecDepth 4000
open Go.RowKit
def inB (n lo hi : Int) : Bool := decide (lo <= n) && decide (n <= hi)
theorem zfa (n lo hi : Int) : FC Try.prog 71 [iD n, iD lo, iD hi] [bD (inB n lo hi)] := by
 unfold inB
 refine zay Try.call71 Try.func71 rfl (by kernel_rfl) (zbb (by kernel_rfl)) ?_
 simp -implicitDefEqProofs only [go_sem, Try.results71]
 refine ⟨fun h => ?_, fun h => ?_⟩ <;> simp at h ⊢ <;> omega
theorem l1In_c (n lo hi : Int) : FC Try.prog 49 [iD n, iD lo, iD hi] [bD (inB n lo hi)] := by
 unfold inB
 refine zay Try.call49 Try.func49 rfl (by kernel_rfl) (zbb (by kernel_rfl)) ?_
 simp -implicitDefEqProofs only [go_sem, Try.results49]
 refine ⟨fun h => ?_, fun h => ?_⟩ <;> simp at h ⊢ <;> omega
theorem qcr (a b : Int) : FC Try.prog 97 [iD a, iD b] [iD (max a b)] := by
 refine zay Try.call97 Try.func97 rfl (by kernel_rfl) (zbb (by kernel_rfl)) ?_
 simp -implicitDefEqProofs only [go_sem, Try.results97]
 refine ⟨fun h => ?_, fun h => ?_⟩ <;> simp at h <;> exact zqs (by omega)
end Go.Proofs.Yteeaofpphmhjdaa
namespace Go.Proofs.Yteeaofpphmhjdaa
set_option linter.unusedSimpArgs false
set_option linter.unusedVariables false
set_option linter.unusedSectionVars false
set_option maxRecDepth 4000
open Go.RowKit
theorem zx4 {α : Type} [BEq α] [LawfulBEq α] {xs : List α} {s : α} {k : Nat} (hk : k < xs.length) (hn : s ∉ xs.take k) (e : xs[k] = s) : xs.idxOf s = k := by
 have h : xs = xs.take k ++ xs.drop k := (List.take_append_drop k xs).symm
 rw [List.drop_eq_getElem_cons hk] at h
 rw [h, List.idxOf_append, if_neg hn, e]
 rw [show (s :: xs.drop (k + 1)).idxOf s = 0 from List.idxOf_cons_self ..]
 simp; omega
theorem zfp {α : Type} {xs : List α} {s : α} {k : Nat} (hk : k < xs.length) (hn : s ∉ xs.take k) (e : xs[k] ≠ s) : s ∉ xs.take (k + 1) := by
 rw [List.take_succ_eq_append_getElem hk]
 simp only [List.mem_append, List.mem_singleton, not_or]
 exact ⟨hn, fun h => e h.symm⟩
def idxS {α : Type} [BEq α] (xs : List α) (s : α) : Int := if xs.contains s then xs.idxOf s else -1
end Go.Proofs.Yteeaofpphmhjdaa
namespace Go.Proofs.Yteeaofpphmhjdaa
set_option linter.unusedSimpArgs false
set_option linter.unusedVariables false
set_option linter.unusedSectionVars false
set_option maxRecDepth 4000
open Go.RowKit Go.Sort Go.Proofs
variable {P : Program}
structure CloneOf (P : Program) (f : FuncId) (sz bytes : Nat) : Prop where
 call : zaz P f
 old : ∀ (ad : Addr) (n c : Nat) (news : List Value) (w : World), news.length = n * sz -> n <= maxLen -> n * bytes <= 140737488355328 -> (∀ j u, news[j]? = some u -> w.cell? (ad.add j) = some u) -> (∀ u ∈ news, u.oneCell' = true) →
  Calls P f #[.slice (some ad) n c] w fun e w' => ∃ t v', e = .returned v' /\ w'.ownsRow w.heap.size t sz v' n news /\ v' ≠ .slice none 0 0 /\ Below w.heap.size w w'
 none : ∀ (n c : Nat) (w : World), Calls P f #[.slice none n c] w fun e w' => e = .returned (.slice none 0 0) /\ w' = w
theorem zah.valsA {w : World} {A : Nat -> Prop} {b sz : Nat} {rows : List (List T)} {o : Nat} (h : zah w A b o sz rows) : ∃ vs, vs.length = rows.length * sz /\ (∀ j u, vs[j]? = some u -> w.cell? ⟨b, o + j, none⟩ = some u) /\ zab w A rows.flatten vs /\ lens sz rows := by
 obtain ⟨h1, vs, h2, h3, h4⟩ := h.vals
 exact ⟨vs, h2, h3, h4, h1⟩
theorem zxz {f : FuncId} {sz bytes : Nat} (h : CloneOf P f sz bytes) (rows : List (List T)) (hb : rows.length * bytes <= 140737488355328) {w : World} {A : Nat -> Prop} {v : Value} (h1 : zaf w A (.sl sz rows) v) :
  Calls P f #[v] w fun e w' => ∃ v', e = .returned v' /\ Below w.heap.size w w' /\ ((v' = .slice none 0 0 /\ rows = []) \/ ∃ g cap cur ty vs, v' = .slice (some ⟨g, 0, none⟩) rows.length cap /\ w.heap.size <= g /\ w'.heap[g]? = some (.cells cur ty (0, 0)) /\ rows.length <= cap /\ cap <= zd0 /\ cur.size = cap * sz /\ cur.toList.take (rows.length * sz) = vs /\ zab w A rows.flatten vs /\ lens sz rows) := by
 unfold zaf at h1
 obtain ⟨ao, cap, rfl, q1, q2, q3⟩ := h1
 cases ao with
 | none =>
  have hr : rows = [] := q3.resolve_right fun ⟨b, o, e, _⟩ => by cases e
  refine (h.none rows.length cap w).mono ?_
  rintro e w' ⟨rfl, rfl⟩
  exact ⟨_, rfl, Below.refl _ _, Or.inl ⟨rfl, hr⟩⟩
 | some ad =>
  have hx : ∃ news : List Value, news.length = rows.length * sz /\ (∀ j u, news[j]? = some u -> w.cell? (ad.add j) = some u) /\ zab w A rows.flatten news /\ lens sz rows := by
   rcases q3 with rfl | ⟨b', o', e, _, q4⟩
   ·exact ⟨[], by simp, fun j u hj => by simp at hj, by unfold zab; rfl, fun r hr => by simp at hr⟩
   ·cases e
    obtain ⟨news, k1, k2, k3, k4⟩ := q4.valsA
    exact ⟨news, k1, fun j u hj => by rw [zdk]; exact k2 j u hj, k3, k4⟩
  obtain ⟨news, k1, k2, k3, k4⟩ := hx
  refine (h.old ad rows.length cap news w k1 (by unfold maxLen; have := q2; unfold zd0 at this; omega) hb k2 k3.one).mono ?_
  rintro e w' ⟨t, v', rfl, ⟨o1, o2⟩, hn, hbel⟩
  refine ⟨v', rfl, hbel, Or.inr ?_⟩
  rcases o2 with ⟨e, _⟩ | ⟨g, cap', cur, e, p1, p2, p3, p4, p5, p6⟩
  ·exact absurd e hn
  ·exact ⟨g, cap', cur, t, news, e, p1, p2, p3, by unfold maxLen at p4; omega, p5, p6, k3, k4⟩
theorem qe0 {cur : Array Value} {vs : List Value} {n : Nat} (h : cur.toList.take n = vs) : ∀ j u, vs[j]? = some u -> cur[0 + j]? = some u := fun j u hu => by
 rw [<- h, List.getElem?_take] at hu
 split at hu
 ·simpa using hu
 ·cases hu
theorem qa9 {f : FuncId} {sz bytes : Nat} (h : CloneOf P f sz bytes) (rows : List (List T)) (hb : rows.length * bytes <= 140737488355328) (hf : ∀ c ∈ rows.flatten, c.flat = true) : FC P f [.one (.sl sz rows)] [.one (.sl sz rows)] := by
 refine ⟨h.call, fun w vs fp tp hv hn => ?_⟩
 obtain ⟨hr, rfl, rfl⟩ := zbq hv
 obtain ⟨v, _, rfl, h1, rfl⟩ := hr
 refine (zxz h rows hb h1).mono ?_
 rintro e w' ⟨v', rfl, hbel, hh⟩
 have hB : Bk (fun k => k < w.heap.size /\ k ∉ ([] : List Nat)) w w' := ⟨hbel.os, hbel.tape, hbel.output, hbel.size, fun k hk => hbel.block k hk.1⟩
 rcases hh with ⟨rfl, hr⟩ | ⟨g, cap, cur, ty, vs, rfl, p1, p2, p3, p4, p5, p6, p7, p8⟩
 ·subst hr
  refine ⟨[_], [], [], rfl, ⟨_, [], [], [], [], [], rfl, rfl, rfl, ⟨?_, rfl⟩, rfl, rfl, rfl⟩, List.nodup_nil, by simp, hB⟩
  unfold zar
  exact ⟨Option.none, 0, rfl, Nat.le_refl _, by simp, Or.inl ⟨rfl, rfl, rfl, rfl⟩⟩
 ·refine ⟨[_], [g], [g], rfl, ⟨_, [], [g], [], [g], [], rfl, rfl, rfl, ⟨?_, rfl⟩, rfl, rfl, rfl⟩, by simp, fun b hb => by rw [List.mem_singleton.1 hb]; exact Or.inr p1, hB⟩
  unfold zar
  refine ⟨_, cap, rfl, p3, p4, Or.inr ⟨g, cur, ty, [], rfl, rfl, p2, p5, ?_⟩⟩
  have hown := zab.own p7 hf
  exact zae.of_vals p8 (zaq.keep hown fun b hb => by simp at hb) fun j u hu => qe0 p6 j u hu
end Go.Proofs.Yteeaofpphmhjdaa
namespace Go.Proofs.Yteeaofpphmhjdaa
set_option linter.unusedSimpArgs false
set_option linter.unusedVariables false
set_option linter.unusedSectionVars false
set_option maxRecDepth 4000
open Go.RowKit
theorem qga {P : Program} {t : TypeId} {n b : Nat} {z : List C} (h1 : zbg P t = some n) (h2 : zc8 P t = some b) (h3 : zcp P t = some z) (h4 : z.length = n) : ∃ i0 zv, P.info? t = some i0 /\ i0.zero = some zv /\ zv.cells.size = n /\ i0.size = n /\ i0.bytes = b := by
 unfold zbg at h1
 unfold zc8 at h2
 unfold zcp at h3
 cases hi : P.info? t with
 | none => rw [hi] at h1; cases h1
 | some i =>
  rw [hi] at h1 h2 h3
  simp only [Option.map_some, Option.some.injEq] at h1 h2
  simp only [Option.bind_some] at h3
  cases hz : i.zero with
  | none => rw [hz] at h3; cases h3
  | some zv =>
   rw [hz] at h3
   simp only [Option.map_some, Option.some.injEq] at h3
   refine ⟨i, zv, rfl, hz, ?_, h1, h2⟩
   rw [<- h4, <- h3]; simp
abbrev zas (xs : List Int) : T := .sl 1 (xs.map fun s => [.int .i64 s])
theorem zrk (xs : List Int) (s : Int) : FC Try.prog 118 [.one (zas xs), iD s] [iD (idxS xs s)] := by
 refine zd2 (fun hw => ?_) Try.call118
 have hl : xs.length <= 9223372036854775807 := by simpa [zm1, wfT] using hw.1.1
 refine zay Try.call118 Try.func118 rfl (by kernel_rfl) (zbb (by kernel_rfl)) ?_
 simp -implicitDefEqProofs only [go_sem, Try.results118]
 refine zak (fun k : Nat => hd [(0, vT (zas xs)), (1, vT (.int .i64 s)), (7, vI xs.length), (8, vI k)] [] []) (fun k => k <= xs.length /\ s ∉ xs.take k) (fun k => xs.length - k) 0 (zaa ?_) ?_ ?_
 ·simp -implicitDefEqProofs only [go_sem]
 ·simp
 ·intro k ⟨hk, hr⟩
  by_cases hlt : k < xs.length
  ·simp -implicitDefEqProofs only [go_sem, zag, hlt]
   refine ⟨fun h => ?_, fun h => ?_⟩
   ·have e : xs[k] = s := (beq_iff_eq.1 h).symm
    have hm : s ∈ xs := e ▸ List.getElem_mem hlt
    rw [idxS, if_pos (by simpa using hm), zx4 hlt hr e]
   ·have e : xs[k] ≠ s := fun e => by simp [e] at h
    exact ⟨k + 1, ⟨hlt, zfp hlt hr e⟩, by omega, zaa (by simp -implicitDefEqProofs only [go_sem]; rw [zaw (by omega)])⟩
  ·simp -implicitDefEqProofs only [go_sem, hlt]
   rw [List.take_of_length_le (by omega)] at hr
   rw [idxS, if_neg (by simpa using hr)]
theorem zbh (xs : List Int) (s : Int) : FC Try.prog 103 [.one (zas xs), iD s] [bD (xs.contains s)] := by
 refine zay Try.call103 Try.func103 rfl (by kernel_rfl) (zbb (by kernel_rfl)) ?_
 simp -implicitDefEqProofs only [go_sem, Try.results103]
 refine callF (zrk xs s) (by simp -implicitDefEqProofs only [go_sem]) ?_
 simp -implicitDefEqProofs only [go_sem]
 unfold idxS
 cases h : xs.contains s <;> simp
end Go.Proofs.Yteeaofpphmhjdaa
namespace Go.Proofs.Yteeaofpphmhjdaa
set_option linter.unusedSimpArgs false
set_option linter.unusedVariables false
set_option linter.unusedSectionVars false
set_option maxRecDepth 4000
open Go.RowKit
theorem qbv (σ : St) (caps : List T) : VDs σ (caps.map fun t => .one (.t t)) (caps.map .one) = True := by
 induction caps with
 | nil => simp [VDs]
 | cons t ts ih => rw [List.map_cons, List.map_cons, zpk, ih]; simp [qds, CT_t]
attribute [go_sem] qbv
def zsw {α : Type} (xs : List α) (p : α -> Bool) : Int := if xs.any p then xs.findIdx p else -1
theorem zeo {α : Type} {xs : List α} {p : α -> Bool} {k : Nat} (hk : k < xs.length) (hn : ∀ x ∈ xs.take k, p x = false) (h : p xs[k] = true) : zsw xs p = k := by
 have ha : xs.any p = true := List.any_eq_true.2 ⟨xs[k], List.getElem_mem hk, h⟩
 have hf : xs.findIdx p = k := (List.findIdx_eq hk).2 ⟨h, fun j hj => hn _ (by
  rw [List.mem_take_iff_getElem]; exact ⟨j, by omega, rfl⟩)⟩
 rw [zsw, if_pos ha, hf]
theorem zfo {α : Type} {xs : List α} {p : α -> Bool} (hn : ∀ x ∈ xs, p x = false) : zsw xs p = -1 := by
 have ha : xs.any p = false := by rw [List.any_eq_false]; exact fun x hx => by simp [hn x hx]
 rw [zsw, ha]; rfl
theorem zqo {α : Type} (xs : List α) (p : α -> Bool) : decide (0 <= zsw xs p) = xs.any p := by
 unfold zsw
 cases xs.any p <;> simp
theorem zds {α : Type} {xs : List α} {p : α -> Bool} {k : Nat} (hk : k < xs.length) (hn : ∀ x ∈ xs.take k, p x = false) (h : p xs[k] = false) : ∀ x ∈ xs.take (k + 1), p x = false := by
 rw [List.take_succ_eq_append_getElem hk]
 intro x hx
 rcases List.mem_append.1 hx with hx | hx
 ·exact hn x hx
 ·rw [List.mem_singleton.1 hx]; exact h
end Go.Proofs.Yteeaofpphmhjdaa
namespace Go.Proofs.Yteeaofpphmhjdaa
set_option linter.unusedSimpArgs false
set_option linter.unusedVariables false
set_option linter.unusedSectionVars false
set_option maxRecDepth 4000
open Go.RowKit
abbrev zav (S : List (List Int)) : T := .sl 1 (S.map fun s => [zas s])
abbrev zrb (l : List UInt8) : T := .sl 1 (l.map fun b => [T.int .u8 b.toNat])
def psC (s : Ps) : List T := [.int .i64 s.l, .int .i64 s.r, .int .i64 s.p, .sl 1 (s.c.map fun s => [.int .i64 s])]
theorem zcz (s : Ps) : psC s = [.int .i64 s.l, .int .i64 s.r, .int .i64 s.p, .sl 1 (s.c.map fun s => [.int .i64 s])] := rfl
abbrev psD (s : Ps) : D := .agg (psC s)
abbrev psS (xs : List Ps) : T := .sl 4 (xs.map psC)
theorem zf3 (n : Int) (h : -4611686018427387904 <= n /\ n <= 4611686018427387904) : FC Try.prog 96 [iD n] [iD (ab n)] := by
 refine zay Try.call96 Try.func96 rfl (by kernel_rfl) (zbb (by kernel_rfl)) ?_
 simp -implicitDefEqProofs only [go_sem, Try.results96]
 rw [zam (by omega) (by omega)]
 exact zqs (by unfold ab; omega)
theorem zkz (n : Int) (h : -4611686018427387904 <= n /\ n <= 4611686018427387904) : FC Try.prog 98 [iD n] [iD (ab n)] := by
 refine zay Try.call98 Try.func98 rfl (by kernel_rfl) (zbb (by kernel_rfl)) ?_
 simp -implicitDefEqProofs only [go_sem, Try.results98]
 rw [zam (by omega) (by omega)]
 refine ⟨fun h => ?_, fun h => ?_⟩ <;> simp at h <;> exact zqs (by unfold ab; omega)
theorem zg3 (n : Int) : FC Try.prog 113 [iD n] [bD (inB n 1 12)] := by
 refine zay Try.call113 Try.func113 rfl (by kernel_rfl) (zbb (by kernel_rfl)) ?_
 simp -implicitDefEqProofs only [go_sem, Try.results113]
 refine callF (zfa n 1 12) (by simp -implicitDefEqProofs only [go_sem]) ?_
 simp -implicitDefEqProofs only [go_sem]
def pv (c : List Int) (k : Nat) : Int := if k = 0 then 0 else ab (c.getD (k - 1) 0)
theorem zxf (c : List Int) {k : Nat} (h : k < c.length) : pv c (k + 1) = ab c[k] := by
 unfold pv
 rw [if_neg (by omega), Nat.add_sub_cancel, List.getD_eq_getElem?_getD, List.getElem?_eq_getElem h]; rfl
theorem ab_in {l : Int} (h : -12 <= l /\ l <= 12) (h0 : l ≠ 0) : 0 < ab l /\ ab l <= 12 := by unfold ab; omega
theorem zc9 (c : List Int) : FC Try.prog 55 [.one (zas c)] [bD (pcl c)] := by
 refine zd2 (fun hw => ?_) Try.call55
 have hl : c.length <= 9223372036854775807 := by have := hw.1.1; simpa using this
 refine zay Try.call55 Try.func55 rfl (by kernel_rfl) (zbb (by kernel_rfl)) ?_
 simp -implicitDefEqProofs only [go_sem, Try.results55]
 refine zak (fun k : Nat => hd [(0, vT (zas c)), (5, vT (zas c)), (6, vI c.length), (7, vI k)] [] []) (fun k => k <= c.length /\ pcl c = zxn (pv c k) (c.drop k) /\ (0 < k -> -12 <= c.getD (k - 1) 0 /\ c.getD (k - 1) 0 <= 12)) (fun k => c.length - k) 0 (zaa ?_) ?_ ?_
 ·simp -implicitDefEqProofs only [go_sem]
 ·exact ⟨Nat.zero_le _, rfl, fun h => absurd h (by omega)⟩
 ·intro k ⟨hk, hr, hpr⟩
  by_cases hlt : k < c.length
  ·have hsu := zxf c hlt
   have hgd : c.getD k 0 = c[k] := by rw [List.getD_eq_getElem?_getD, List.getElem?_eq_getElem hlt]; rfl
   rw [List.drop_eq_getElem_cons hlt] at hr
   unfold zxn at hr
   have HW := zfa c[k] (-12) 12
   cases h0 : (c[k] == (0 : Int))
   ·have h0' : c[k] ≠ 0 := by simpa using h0
    cases hwi : inB c[k] (-12) 12
    ·rw [hwi] at HW
     have hno : ¬ ab c[k] <= 12 := by
      unfold inB at hwi
      simp only [Bool.and_eq_false_iff, decide_eq_false_iff_not] at hwi
      unfold ab; omega
     simp -implicitDefEqProofs only [go_sem, zag, hlt, h0]
     refine callF (HW) (by simp -implicitDefEqProofs only [go_sem]) ?_
     simp -implicitDefEqProofs only [go_sem]
     rw [hr, show decide (ab c[k] <= 12) = false by simpa using hno]; simp
    ·rw [hwi] at HW
     have hin : -12 <= c[k] /\ c[k] <= 12 := by
      unfold inB at hwi
      simpa using hwi
     have hab := ab_in hin h0'
     have HA := zf3 c[k] (by omega)
     by_cases hk0 : k = 0
     ·have hkf : ((0 : Int) < (k : Int)) = False := by simp; omega
      simp -implicitDefEqProofs only [go_sem, zag, hlt, h0]
      refine callF (HW) (by simp -implicitDefEqProofs only [go_sem, hkf]) ?_
      simp -implicitDefEqProofs only [go_sem, hkf]
      rw [zaw (by omega)]
      refine ⟨k + 1, ⟨hlt, ?_, fun _ => ?_⟩, by omega, zaa (by simp -implicitDefEqProofs only [go_sem])⟩
      ·have hpv : pv c k = 0 := by unfold pv; rw [if_pos hk0]
       rw [hr, hsu, hpv, show decide (0 < ab c[k]) = true by simpa using hab.1, show decide (ab c[k] <= 12) = true by simpa using hab.2]; rfl
      ·rw [Nat.add_sub_cancel, hgd]; exact hin
     ·have hkp : (0 : Int) < k := by omega
      have hk1 : k - 1 < c.length := by omega
      have hw1 : IntKind.i64.wrap ((k : Int) - 1) = ((k - 1 : Nat) : Int) := by rw [zam (by omega) (by omega)]; omega
      have hg1 : c.getD (k - 1) 0 = c[k - 1] := by rw [List.getD_eq_getElem?_getD, List.getElem?_eq_getElem hk1]; rfl
      have hp1 := hpr (by omega)
      rw [hg1] at hp1
      have HB := zf3 c[k - 1] (by omega)
      have hpv : pv c k = ab c[k - 1] := by unfold pv; rw [if_neg hk0, hg1]
      rw [hpv] at hr
      simp -implicitDefEqProofs only [go_sem, zag, hlt, h0]
      refine callF (HW) (by simp -implicitDefEqProofs only [go_sem, hkp, hw1, hk1, zag]) ?_
      simp -implicitDefEqProofs only [go_sem, hkp, hw1, hk1, zag]
      refine callF (HB) (by simp -implicitDefEqProofs only [go_sem]) ?_
      simp -implicitDefEqProofs only [go_sem]
      refine callF (HA) (by simp -implicitDefEqProofs only [go_sem]) ?_
      simp -implicitDefEqProofs only [go_sem]
      rw [zaw (by omega)]
      refine ⟨fun h => ?_, fun h => ⟨k + 1, ⟨hlt, ?_, fun _ => ?_⟩, by omega, zaa (by simp -implicitDefEqProofs only [go_sem])⟩⟩
      ·have : ¬ ab c[k - 1] < ab c[k] := by simp at h; omega
       rw [hr, show decide (ab c[k - 1] < ab c[k]) = false by simpa using this]; simp
      ·have : ab c[k - 1] < ab c[k] := by simp at h; omega
       rw [hr, hsu, show decide (ab c[k - 1] < ab c[k]) = true by simpa using this, show decide (ab c[k] <= 12) = true by simpa using hab.2]; rfl
      ·rw [Nat.add_sub_cancel, hgd]; exact hin
   ·have h0' : c[k] = 0 := by simpa using h0
    have hpv : 0 <= pv c k := by unfold pv ab; split <;> omega
    simp -implicitDefEqProofs only [go_sem, zag, hlt, h0]
    rw [hr, show decide (pv c k < ab c[k]) = false by rw [h0']; unfold ab; simpa using hpv]; simp
  ·simp -implicitDefEqProofs only [go_sem, hlt]
   rw [hr, List.drop_of_length_le (by omega)]; rfl
end Go.Proofs.Yteeaofpphmhjdaa
namespace Go.Proofs.Yteeaofpphmhjdaa
set_option linter.unusedSimpArgs false
set_option linter.unusedVariables false
set_option linter.unusedSectionVars false
set_option maxRecDepth 4000
open Go.RowKit
abbrev issD (l : List (List Int)) : D := .one (zav l)
abbrev bsD (l : List UInt8) : D := .one (zrb l)
theorem qfi {d : PD} (h : zbl Try.prog 27 d) : ∃ l : List Int, d.cells = [zas l] := by
 obtain ⟨xs, rfl, hx⟩ := h.sl Try.underlying27
 obtain ⟨l, hl⟩ := zen (fun s : Int => [T.int .i64 s]) xs fun x hx' => by
  obtain ⟨n, rfl⟩ := (hx x hx').int Try.underlying3
  exact ⟨n, by rw [PD.cells]⟩
 exact ⟨l, by rw [PD.cells, hl, show Try.prog.cellsOf 3 = 1 from by kernel_rfl]⟩
theorem qcv {d : PD} (h : zbl Try.prog 24 d) : ∃ l : List (List Int), d.cells = [zav l] := by
 obtain ⟨xs, rfl, hx⟩ := h.sl Try.underlying24
 obtain ⟨l, hl⟩ := zen (fun s => [zas s]) xs fun x hx' => qfi (hx x hx')
 exact ⟨l, by rw [PD.cells, hl, show Try.prog.cellsOf 27 = 1 from by kernel_rfl]⟩
theorem qcu {d : PD} (h : zbl Try.prog 22 d) : ∃ l : List UInt8, d.cells = [zrb l] := by
 obtain ⟨xs, rfl, hx⟩ := h.sl Try.underlying22
 obtain ⟨l, hl⟩ := zen (fun b : UInt8 => [T.int .u8 b.toNat]) xs fun x hx' => by
  obtain ⟨n, rfl⟩ := (hx x hx').oct Try.underlying5
  exact ⟨n, by rw [PD.cells]⟩
 exact ⟨l, by rw [PD.cells, hl, show Try.prog.cellsOf 5 = 1 from by kernel_rfl]⟩
end Go.Proofs.Yteeaofpphmhjdaa
namespace Go.Proofs.Yteeaofpphmhjdaa
set_option linter.unusedSimpArgs false
set_option linter.unusedVariables false
set_option linter.unusedSectionVars false
set_option maxRecDepth 4000
open Go.RowKit
attribute [local go_sem] Oper.semAt_some
set_option maxHeartbeats 1000000 in
theorem zud : zv5 Try.prog 115 131 := by
 refine ⟨Try.call115, fun a len cap w => ?_⟩
 refine callsIn_wide.1 (callsIn_of_wp (n := 0) Try.func115 rfl trivial ?_ rfl)
 simp only [Try.ntmps115, List.size_toArray, List.length_cons, List.length_nil, Nat.reduceAdd, Nat.reduceSub, Array.replicate_succ, Array.replicate_zero, List.push_toArray, List.append_toArray, List.nil_append, List.cons_append]
 gi_wp2
 go_ret
 exact ⟨_, rfl, rfl⟩
set_option maxRecDepth 100000 in
set_option maxHeartbeats 2000000 in
theorem qbm : zpe Try.prog 131 true 4 := by
 intro l Bs n W J hmax hlen0 hrd h0
 obtain ⟨ao, cap, hBs⟩ := hlen0 W h0
 have hmax : n <= 9223372036854775807 := hmax
 have hw1 : IntKind.i64.wrap ((n : Int) - 1) = (n : Int) - 1 := by rw [IntKind.wrap_i64]; omega
 have hro : (FR none).round = none := rfl
 refine callsIn_of_wp Try.func131 rfl trivial ?_ rfl
 simp only [Try.ntmps131, List.size_toArray, List.length_cons, List.length_nil, Nat.reduceAdd, Nat.reduceSub, Array.replicate_succ, Array.replicate_zero, List.push_toArray, List.append_toArray, List.nil_append, List.cons_append]
 gi_wp2
 gi_loopw [3] (fun i wr => ∃ k : Nat, k <= n /\ i = .int .i64 ((n : Int) - 1 - k) /\ J k wr) (fun i _ => (intOf i + 1).toNat)
 case atStart => exact ⟨0, Nat.zero_le _, by simp, h0⟩
 case round =>
  obtain ⟨k, hk, rfl, hJs⟩ := hrel
  by_cases hlt : k < n
  ·obtain ⟨m, hm⟩ : ∃ m, n - 1 - k = m := ⟨_, rfl⟩
   have hml : m < n := by omega
   obtain ⟨b, o, cap', r, hb, hr, hcell, fn, tmps, assign, body, hy, hR⟩ := hrd k wr hJs hlt
   match r, hr, hcell, hy with
   | [v0, v1, v2, v3], _, hcell, hy =>
    rw [hm] at hcell hy
    rw [show (n : Int) - 1 - k = (m : Int) by omega]
    have e1 : wr.cell? ⟨b, o + m * 4, none⟩ = _ := hcell 0 v0 rfl
    have e2 : wr.cell? ⟨b, o + m * 4 + 1, none⟩ = _ := hcell 1 v1 rfl
    have e3 : wr.cell? ⟨b, o + m * 4 + 2, none⟩ = _ := hcell 2 v2 rfl
    have e4 : wr.cell? ⟨b, o + m * 4 + 3, none⟩ = _ := hcell 3 v3 rfl
    simp only [agv, if_true] at hy
    have hw2 : IntKind.i64.wrap ((m : Int) - 1) = (m : Int) - 1 := by rw [IntKind.wrap_i64]; omega
    gi_wp2
    refine hR.mono ?_
    rintro e W3 ⟨rfl, hJ3⟩
    gi_wp2
    go_roundw
    case rel => exact ⟨k + 1, by omega, by go_num, hJ3⟩
    case measure => simp [intOf]
  ·obtain rfl : k = n := by omega
   gi_wp2
   go_end0
   exact ⟨⟨_, rfl⟩, hJs⟩
end Go.Proofs.Yteeaofpphmhjdaa
namespace Go.Proofs.Yteeaofpphmhjdaa
set_option linter.unusedSimpArgs false
set_option linter.unusedVariables false
set_option linter.unusedSectionVars false
set_option maxRecDepth 4000
open Go.RowKit
variable {P : Program}
inductive AF
 | d (b : Bool) (x : D)
 | p (j : Nat)
 | fn (g : FuncId) (js : List Nat)
def AF.ds : List AF -> List (Bool × D)
 | [] => []
 | .d b x :: l => (b, x) :: AF.ds l
 | .p _ :: l => AF.ds l
 | .fn _ _ :: l => AF.ds l
def zne (b : Nat) : Value := .pointer (some ⟨b, 0, none⟩)
def AF.vals (bs : Nat -> Nat) : List AF -> List Value -> List Value
 | [], _ => []
 | .d _ _ :: l, v :: vs => v :: AF.vals bs l vs
 | .d _ _ :: _, [] => []
 | .p j :: l, vs => zne (bs j) :: AF.vals bs l vs
 | .fn g js :: l, vs => .func (.func g) #[] ⟨js.map fun j => zne (bs j)⟩ :: AF.vals bs l vs
def AF.okJ (n : Nat) : List AF -> Bool
 | [] => true
 | .d _ _ :: l => AF.okJ n l
 | .p j :: l => decide (j < n) && AF.okJ n l
 | .fn _ js :: l => js.all (fun j => decide (j < n)) && AF.okJ n l
abbrev Bxs := List (List (Bool × T))
def zmd (w : World) (bs : Nat -> Nat) : Nat -> List (List Value) -> Bxs -> Prop
 | _, [], [] => True
 | j, vs :: bvs, b :: bx => vs.length = b.length /\ (∃ ty, w.heap[bs j]? = some (.cells ⟨vs⟩ ty (0, 0))) /\ zmd w bs (j + 1) bvs bx
 | _, _, _ => False
theorem zmd.lt {w : World} {bs : Nat -> Nat} : ∀ {j : Nat} {bvs : List (List Value)} {bx : Bxs}, zmd w bs j bvs bx -> ∀ i, i < bx.length -> bs (j + i) < w.heap.size
 | _, [], [], _, i, hi => by simp at hi
 | j, _ :: _, _ :: _, h, 0, hi => by obtain ⟨ty, h⟩ := h.2.1; exact (Array.getElem?_eq_some_iff.1 h).1
 | j, _ :: _, _ :: _, h, i + 1, hi => by rw [show j + (i + 1) = j + 1 + i by omega]; exact zmd.lt h.2.2 i (by simpa using hi)
 | _, [], _ :: _, h, _, _ => h.elim
 | _, _ :: _, [], h, _, _ => h.elim
def PC (P : Program) (f : FuncId) (bx : Bxs) (l : List AF) (bx' : Bxs) (res : List (Bool × D)) : Prop := zaz P f /\ bx'.length = bx.length /\ ∀ (w : World) (bs : Nat -> Nat) (bvs : List (List Value)) (dvs : List Value) (fp tp : List Nat) (A : Nat -> Prop),
 (∀ i j, i < bx.length -> j < bx.length -> bs i = bs j -> i = j) -> (∀ j, j < bx.length -> bs j ∉ fp) -> zmd w bs 0 bvs bx →
 zao w (fun k => (k < w.heap.size /\ k ∉ fp /\ ∀ j, j < bx.length -> k ≠ bs j) /\ A k) (AF.ds l ++ bxA bx.flatten) (dvs ++ bvs.flatten) fp tp -> fp.Nodup -> dvs.length = (AF.ds l).length →
 Calls P f ⟨AF.vals bs l dvs⟩ w fun e w' => ∃ us bvs' fp' tp', e = .returned (zbd us) /\ zmd w' bs 0 bvs' bx' /\ us.length = res.length ∧
  zao w' (fun k => (k < w'.heap.size /\ k ∉ fp' /\ ∀ j, j < bx.length -> k ≠ bs j) /\ (A k \/ w.heap.size <= k \/ k ∈ fp)) (res ++ bxA bx'.flatten) (us ++ bvs'.flatten) fp' tp' /\ fp'.Nodup /\ (∀ b ∈ fp', b ∈ fp \/ w.heap.size <= b) ∧
  Bk (fun k => k < w.heap.size /\ k ∉ fp /\ ∀ j, j < bx.length -> k ≠ bs j) w w'
def c1P (k : Nat) : Bool × T -> C
 | (true, t) => owC k 0 t
 | (false, t) => t.toN
def zrg : Nat -> List (Bool × T) -> List C
 | _, [] => []
 | k, p :: ps => c1P k p :: zrg (k + 1) ps
def zhh : Nat -> Nat -> Bxs -> Nat -> Option (List C)
 | _, _, [] => fun _ => none
 | j, k, b :: bs => upd (zhh (j + 1) (k + b.length) bs) (1000000 + j) (some (zrg k b))
def zca : Nat -> Nat -> List AF -> Nat -> V
 | _, _, [] => fun _ => .one .any
 | i, k, .d b x :: l => upd (zca (i + 1) (k + 1) l) i (gVN k (b, x))
 | i, k, .p j :: l => upd (zca (i + 1) k l) i (.one (.bx (1000000 + j) 0))
 | i, k, .fn g js :: l => upd (zca (i + 1) k l) i (.one (.fn g (js.map (1000000 + ·))))
def zgm : Nat -> Bxs -> (Nat -> V) -> Nat -> V
 | _, [], f => f
 | j, _ :: bs, f => upd (zgm (j + 1) bs f) (1000000 + j) (.one (.bx (1000000 + j) 0))
def ze3 (l : List AF) (bx : Bxs) : St := ⟨zgm 0 bx (zca 0 0 l), zhh 0 (AF.ds l).length bx, zfk 0 (AF.ds l ++ bxA bx.flatten)⟩
theorem qfh (k : Nat) (p : Bool × T) : gVN k (p.1, .one p.2) = .one (c1P k p) := by obtain ⟨b, t⟩ := p; cases b <;> rfl
theorem zl4 : ∀ (bx : Bxs) (j : Nat) (f : Nat -> V) (i : Nat), ((∃ q, q < bx.length /\ i = 1000000 + (j + q)) /\ zgm j bx f i = .one (.bx i 0)) \/ ((∀ q, q < bx.length -> i ≠ 1000000 + (j + q)) /\ zgm j bx f i = f i)
 | [], j, f, i => Or.inr ⟨fun q hq => by simp at hq, rfl⟩
 | b :: bx, j, f, i => by
  by_cases hi : i = 1000000 + j
  ·subst hi
   exact Or.inl ⟨⟨0, by simp, rfl⟩, by unfold zgm; rw [zac]⟩
  ·unfold zgm
   rw [zaj _ _ hi]
   rcases zl4 bx (j + 1) f i with ⟨⟨q, h1, h2⟩, h3⟩ | ⟨h1, h2⟩
   ·exact Or.inl ⟨⟨q + 1, by simp; omega, by omega⟩, h3⟩
   ·refine Or.inr ⟨fun q hq => ?_, h2⟩
    cases q with
    | zero => exact hi
    | succ q => have := h1 q (by simpa using hq); omega
theorem zl2 : ∀ (bx : Bxs) (j k b : Nat), zhh j k bx b ≠ none ↔ ∃ q, q < bx.length /\ b = 1000000 + (j + q)
 | [], j, k, b => ⟨fun h => absurd rfl h, fun ⟨q, hq, _⟩ => by simp at hq⟩
 | c :: bx, j, k, b => by
  unfold zhh
  by_cases hi : b = 1000000 + j
  ·subst hi; rw [zac]; exact ⟨fun _ => ⟨0, by simp, rfl⟩, fun _ => by simp⟩
  ·rw [zaj _ _ hi, zl2 bx (j + 1) _ b]
   refine ⟨fun ⟨q, h1, h2⟩ => ⟨q + 1, by simp; omega, by omega⟩, fun ⟨q, h1, h2⟩ => ?_⟩
   cases q with
   | zero => exact absurd h2 hi
   | succ q => exact ⟨q, by simpa using h1, by omega⟩
theorem zio {σ : St} {g : Gh} {w : World} : ∀ {b : List (Bool × T)} {vs : List Value} {k : Nat}, vs.length = b.length -> (∀ i p v, b[i]? = some p -> vs[i]? = some v -> CR σ g w (c1P (k + i) p) v) -> CRs σ g w (zrg k b) vs
 | [], vs, _, hl, _ => List.length_eq_zero_iff.1 hl
 | p :: b, [], _, hl, _ => by simp at hl
 | p :: b, v :: vs, k, hl, h => ⟨v, vs, rfl, by simpa using h 0 p v rfl rfl, zio (by simpa using hl) fun i q u h1 h2 => by
   have := h (i + 1) q u (by simpa using h1) (by simpa using h2)
   rw [show k + (i + 1) = k + 1 + i by omega] at this
   exact this⟩
theorem zll {σ : St} {g : Gh} {w : World} {bs : Nat -> Nat} : ∀ (bx : Bxs) (bvs : List (List Value)) (j k : Nat), zmd w bs j bvs bx -> (∀ i p v, bx.flatten[i]? = some p -> bvs.flatten[i]? = some v -> CR σ g w (c1P (k + i) p) v) →
  ∀ b cs, zhh j k bx b = some cs -> ∃ q vs ty, q < bx.length /\ b = 1000000 + (j + q) /\ w.heap[bs (j + q)]? = some (.cells ⟨vs⟩ ty (0, 0)) /\ CRs σ g w cs vs
 | [], _, _, _, _, _, b, cs, h => by cases h
 | c :: bx, [], _, _, h0, _, _, _, _ => h0.elim
 | c :: bx, vs :: bvs, j, k, h0, hc, b, cs, h => by
  obtain ⟨h1, ⟨ty, h2⟩, h3⟩ := h0
  unfold zhh at h
  by_cases hi : b = 1000000 + j
  ·subst hi
   rw [zac] at h
   cases h
   refine ⟨0, vs, ty, by simp, rfl, h2, zio h1 fun i p v e1 e2 => hc i p v ?_ ?_⟩
   ·rw [List.flatten_cons, List.getElem?_append_left (List.getElem?_eq_some_iff.1 e1).1]; exact e1
   ·rw [List.flatten_cons, List.getElem?_append_left (List.getElem?_eq_some_iff.1 e2).1]; exact e2
  ·rw [zaj _ _ hi] at h
   obtain ⟨q, vs', ty', k1, k2, k3, k4⟩ := zll bx bvs (j + 1) (k + c.length) h3 (fun i p v e1 e2 => by
    have := hc (c.length + i) p v (by rw [List.flatten_cons, List.getElem?_append_right (by omega), show c.length + i - c.length = i by omega]; exact e1) (by rw [List.flatten_cons, List.getElem?_append_right (by omega), show c.length + i - vs.length = i by omega]; exact e2)
    rw [show k + (c.length + i) = k + c.length + i by omega] at this
    exact this) b cs h
   exact ⟨q + 1, vs', ty', by simp; omega, by omega, by rw [show j + (q + 1) = j + 1 + q by omega]; exact k3, k4⟩
theorem zei : ∀ (l : List AF) (i0 k i : Nat), l.length <= i -> zca i0 k l (i0 + i) = .one .any
 | [], _, _, _, _ => rfl
 | a :: l, i0, k, 0, h => by simp at h
 | .d b x :: l, i0, k, i + 1, h => by unfold zca; rw [zaj _ _ (by omega), show i0 + (i + 1) = i0 + 1 + i by omega]; exact zei l _ _ i (by simpa using h)
 | .p j :: l, i0, k, i + 1, h => by unfold zca; rw [zaj _ _ (by omega), show i0 + (i + 1) = i0 + 1 + i by omega]; exact zei l _ _ i (by simpa using h)
 | .fn g js :: l, i0, k, i + 1, h => by unfold zca; rw [zaj _ _ (by omega), show i0 + (i + 1) = i0 + 1 + i by omega]; exact zei l _ _ i (by simpa using h)
theorem zfl {σ : St} {g : Gh} {w : World} {bs : Nat -> Nat} {n : Nat} (hb : ∀ j, j < n -> σ.bx (1000000 + j) ≠ none /\ g.β (1000000 + j) = bs j) : ∀ (l : List AF) (i0 k : Nat) (dvs : List Value), AF.okJ n l = true -> dvs.length = (AF.ds l).length -> (∀ i d v, (AF.ds l)[i]? = some d -> dvs[i]? = some v -> VR σ g w (gVN (k + i) d) v) →
  ∀ i, i < l.length -> ∃ v, (AF.vals bs l dvs)[i]? = some v /\ VR σ g w (zca i0 k l (i0 + i)) v
 | [], _, _, _, _, _, _, i, hi => by simp at hi
 | .d b x :: l, i0, k, [], _, hl, _, i, hi => by simp [AF.ds] at hl
 | .d b x :: l, i0, k, v :: dvs, ho, hl, h, i, hi => by
  cases i with
  | zero => exact ⟨v, rfl, by unfold zca; show VR σ g w (upd _ i0 _ i0) v; rw [zac]; simpa using h 0 (b, x) v rfl rfl⟩
  | succ i =>
   obtain ⟨u, k1, k2⟩ := zfl hb l (i0 + 1) (k + 1) dvs ho (by simpa [AF.ds] using hl) (fun i d v h1 h2 => by
    have := h (i + 1) d v (by simpa [AF.ds] using h1) (by simpa using h2)
    rw [show k + (i + 1) = k + 1 + i by omega] at this
    exact this) i (by simpa using hi)
   exact ⟨u, by unfold AF.vals; simpa using k1, by unfold zca; rw [zaj _ _ (by omega), show i0 + (i + 1) = i0 + 1 + i by omega]; exact k2⟩
 | .p j :: l, i0, k, dvs, ho, hl, h, i, hi => by
  unfold AF.okJ at ho
  rw [Bool.and_eq_true, decide_eq_true_eq] at ho
  cases i with
  | zero => exact ⟨_, rfl, by unfold zca; show VR σ g w (upd _ i0 _ i0) _; rw [zac]; exact ⟨by rw [(hb j ho.1).2]; rfl, (hb j ho.1).1⟩⟩
  | succ i =>
   obtain ⟨u, k1, k2⟩ := zfl hb l (i0 + 1) k dvs ho.2 hl h i (by simpa using hi)
   exact ⟨u, by unfold AF.vals; simpa using k1, by unfold zca; rw [zaj _ _ (by omega), show i0 + (i + 1) = i0 + 1 + i by omega]; exact k2⟩
 | .fn f js :: l, i0, k, dvs, ho, hl, h, i, hi => by
  unfold AF.okJ at ho
  rw [Bool.and_eq_true, List.all_eq_true] at ho
  cases i with
  | zero =>
   refine ⟨_, rfl, ?_⟩
   unfold zca
   show VR σ g w (upd _ i0 _ i0) _
   rw [zac]
   refine ⟨?_, fun b hb' => ?_⟩
   ·rw [List.map_map]
    congr 2
    refine List.map_congr_left fun j hj => ?_
    show zne (bs j) = .pointer (some ⟨g.β (1000000 + j), 0, none⟩)
    rw [(hb j (by simpa using ho.1 j hj)).2]
    rfl
   ·obtain ⟨j, hj, rfl⟩ := List.mem_map.1 hb'
    exact (hb j (by simpa using ho.1 j hj)).1
  | succ i =>
   obtain ⟨u, k1, k2⟩ := zfl hb l (i0 + 1) k dvs ho.2 hl h i (by simpa using hi)
   exact ⟨u, by unfold AF.vals; simpa using k1, by unfold zca; rw [zaj _ _ (by omega), show i0 + (i + 1) = i0 + 1 + i by omega]; exact k2⟩
theorem AF.vals_len (bs : Nat -> Nat) : ∀ (l : List AF) (dvs : List Value), dvs.length = (AF.ds l).length -> (AF.vals bs l dvs).length = l.length
 | [], _, _ => rfl
 | .d _ _ :: l, [], h => by simp [AF.ds] at h
 | .d _ _ :: l, v :: vs, h => by simp [AF.vals, AF.vals_len bs l vs (by simpa [AF.ds] using h)]
 | .p _ :: l, vs, h => by simp [AF.vals, AF.vals_len bs l vs h]
 | .fn _ _ :: l, vs, h => by simp [AF.vals, AF.vals_len bs l vs h]
def T.fs : T -> Bool
 | .sl _ _ => true
 | t => t.flat
def gFS : List (Bool × D) -> Bool
 | [] => true
 | (false, _) :: ds => gFS ds
 | (true, .one t) :: ds => t.fs && gFS ds
 | (true, .agg ts) :: ds => ts.all T.fs && gFS ds
theorem zqt : ∀ {ds : List (Bool × D)}, gFS ds = true -> ∀ (i : Nat) d, ds[i]? = some (true, d) -> match d with | .one t => t.fs = true | .agg ts => ts.all T.fs = true
 | [], _, i, d, h => by simp at h
 | (false, x) :: ds, hg, 0, d, h => by simp at h
 | (false, x) :: ds, hg, i + 1, d, h => zqt (ds := ds) hg i d (by simpa using h)
 | (true, .one t) :: ds, hg, 0, d, h => by
  simp only [List.getElem?_cons_zero, Option.some.injEq, Prod.mk.injEq, true_and] at h
  subst h
  exact ((Bool.and_eq_true _ _).mp hg).1
 | (true, .agg t) :: ds, hg, 0, d, h => by
  simp only [List.getElem?_cons_zero, Option.some.injEq, Prod.mk.injEq, true_and] at h
  subst h
  exact ((Bool.and_eq_true _ _).mp hg).1
 | (true, .one t) :: ds, hg, i + 1, d, h => zqt (ds := ds) ((Bool.and_eq_true _ _).mp hg).2 i d (by simpa using h)
 | (true, .agg t) :: ds, hg, i + 1, d, h => zqt (ds := ds) ((Bool.and_eq_true _ _).mp hg).2 i d (by simpa using h)
theorem zpd {σ σ' : St} {g g' : Gh} {w : World} (he : σ'.ev = σ.ev) (hψ : g'.ψ = g.ψ) {k j : Nat} {t : T} {v : Value} (ht : t.fs = true) (h : CR σ g w (owC k j t) v) : CR σ' g' w (owC k j t) v := by
 cases t
 case sl => exact ⟨by rw [hψ]; exact h.1, by obtain ⟨x, h1, h2⟩ := h.2; exact ⟨x, by rw [he]; exact h1, h2⟩⟩
 all_goals exact zcg (A := Fix σ g w) (w := w) ht h
theorem zlt {σ σ' : St} {g g' : Gh} {w : World} (he : σ'.ev = σ.ev) (hψ : g'.ψ = g.ψ) {k : Nat} : ∀ {ts : List T} {j : Nat} {vs : List Value}, ts.all T.fs = true -> CRs σ g w (zj8 k j ts) vs -> CRs σ' g' w (zj8 k j ts) vs
 | [], _, _, _, h => h
 | t :: ts, j, vs, ht, h => by
  rw [List.all_cons, Bool.and_eq_true] at ht
  obtain ⟨v, vs', rfl, h1, h2⟩ := h
  exact ⟨v, vs', rfl, zpd he hψ ht.1 h1, zlt he hψ ht.2 h2⟩
theorem zj6 (d : Nat) : ∀ (ts : List T) (j : Nat) (f : Nat -> Option Ev), (∀ e x, f e = some x -> x.deep = true /\ x.on = true) -> ∀ e x, owE d j ts f e = some x -> x.deep = true /\ x.on = true
 | [], _, f, h, e, x, hx => h e x hx
 | t :: ts, j, f, h, e, x, hx => zj6 d ts (j + 1) _ (fun e x hx => by
   cases t <;> first | exact h e x hx | skip
   rename_i sz rows
   by_cases he : e = d * 32 + j
   ·subst he; simp only [zob, zac, Option.some.injEq] at hx; subst hx; exact ⟨rfl, rfl⟩
   ·simp only [zob, zaj _ _ he] at hx; exact h e x hx) e x hx
theorem zej : ∀ (ds : List (Bool × D)) (k e : Nat) (x : Ev), zfk k ds e = some x -> x.deep = true /\ x.on = true
 | [], _, _, _, h => by cases h
 | (false, _) :: ds, k, e, x, h => zej ds (k + 1) e x h
 | (true, .one t) :: ds, k, e, x, h => zj6 k [t] 0 _ (fun e x hx => zej ds (k + 1) e x hx) e x h
 | (true, .agg ts) :: ds, k, e, x, h => zj6 k ts 0 _ (fun e x hx => zej ds (k + 1) e x hx) e x h
theorem zhe {w : World} {l : List AF} {bx : Bxs} {bs : Nat -> Nat} {bvs : List (List Value)} {dvs : List Value} {fp tp : List Nat} {A : Nat -> Prop} {N : Nat} (hinj : ∀ i j, i < bx.length -> j < bx.length -> bs i = bs j -> i = j) (hbf : ∀ j, j < bx.length -> bs j ∉ fp) (hbx : zmd w bs 0 bvs bx)
  (hv : zao w (fun k => (k < w.heap.size /\ k ∉ fp /\ ∀ j, j < bx.length -> k ≠ bs j) /\ A k) (AF.ds l ++ bxA bx.flatten) (dvs ++ bvs.flatten) fp tp) (hn : fp.Nodup) (hl : dvs.length = (AF.ds l).length) (hj : AF.okJ bx.length l = true) (hN : l.length <= N) (hN2 : N <= 1000000) (hs : za8 (AF.ds l ++ bxA bx.flatten)) (hfs : gFS (AF.ds l ++ bxA bx.flatten) = true)
  {ξ : Nat -> Value} (h1 : ∀ i, i < 1000000 -> ξ i = undef) (h2 : ∀ i b, ξ i ≠ .bool b) (h3 : ∀ j, j < bx.length -> ξ (1000000 + j) = zne (bs j)) :
  ∃ g, (g.A0, g.R0) = (fun b => A b \/ w.heap.size <= b \/ b ∈ fp \/ ∃ j, j < bx.length /\ b = bs j, ⟨fun b => b ∈ fp \/ w.heap.size <= b \/ ∃ j, j < bx.length /\ b = bs j, ξ, h1, h2⟩) ∧
   Rel (fun b => b < w.heap.size /\ b ∉ fp /\ ∀ j, j < bx.length -> b ≠ bs j) N (ze3 l bx) g { tmps := (⟨AF.vals bs l dvs⟩ : Array Value) ++ Array.replicate (N - (AF.vals bs l dvs).length) undef, defers := [] } w := by
 have hv' : zao w (fun b => b < w.heap.size /\ (A b /\ ∀ j, j < bx.length -> b ≠ bs j) /\ b ∉ fp) (AF.ds l ++ bxA bx.flatten) (dvs ++ bvs.flatten) fp tp := zao.keepA (fun b hb => ⟨hb.1.1, ⟨hb.2, hb.1.2.2⟩, hb.1.2.1⟩) hv
 obtain ⟨g, hg, hR⟩ := Rel.start (N := (AF.ds l ++ bxA bx.flatten).length) (A0 := fun b => A b \/ w.heap.size <= b \/ b ∈ fp \/ ∃ j, j < bx.length /\ b = bs j) (R0 := ⟨fun b => b ∈ fp \/ w.heap.size <= b \/ ∃ j, j < bx.length /\ b = bs j, ξ, h1, h2⟩) hv' hn hs (Nat.le_refl _) (fun b hb => Or.inl hb.1) (fun b hb => ⟨Or.inr (Or.inr (Or.inl hb)), Or.inl hb⟩) (fun b hb => by
  by_cases hlt : b < w.heap.size
  ·have hm : b ∈ fp := Classical.byContradiction fun h => hb ⟨hlt, h⟩
   exact ⟨Or.inr (Or.inr (Or.inl hm)), Or.inl hm⟩
  ·exact ⟨Or.inr (Or.inl (by omega)), Or.inr (Or.inl (by omega))⟩)
 have hg1 : g.A0 = _ := (Prod.mk.inj hg).1
 have hg2 : g.R0 = _ := (Prod.mk.inj hg).2
 refine ⟨{ g with β := fun k => bs (k - 1000000) }, hg, ?_⟩
 have hlen : (dvs ++ bvs.flatten).length = (AF.ds l ++ bxA bx.flatten).length := zao.len hv
 have hbne : ∀ b, (ze3 l bx).bx b ≠ none ↔ ∃ q, q < bx.length /\ b = 1000000 + q := fun b => by
  have := zl2 bx 0 (AF.ds l).length b
  simp only [Nat.zero_add] at this
  exact this
 have hblt : ∀ q, q < bx.length -> bs q < w.heap.size := fun q hq => by have := hbx.lt q hq; rwa [Nat.zero_add] at this
 have hdeep : ∀ e x, (ze3 l bx).ev e = some x -> x.deep = true /\ x.on = true := fun e x hx => zej _ _ e x hx
 have hφ : ∀ e, (ze3 l bx).On e -> ∀ b ∈ g.φ e, ¬ (b < w.heap.size /\ b ∉ fp) := fun e he b hb => hR.etop e he b hb
 have hfree : ∀ b, ((b < w.heap.size /\ b ∉ fp /\ ∀ j, j < bx.length -> b ≠ bs j) /\ A b) -> zby (ze3 l bx) { g with β := fun k => bs (k - 1000000) } w b := fun b hb => by
  refine ⟨⟨fun k hk => ?_, fun e x hx ho hh => hφ e ⟨x, hx, ho⟩ b (List.mem_of_mem_head? hh) ⟨hb.1.1, hb.1.2.1⟩, hb.1.1, ?_⟩, fun e he hm => hφ e he b hm ⟨hb.1.1, hb.1.2.1⟩⟩
  ·obtain ⟨q, hq, rfl⟩ := (hbne k).1 hk
   show bs (1000000 + q - 1000000) ≠ b
   rw [show 1000000 + q - 1000000 = q by omega]
   exact fun e => hb.1.2.2 q hq e.symm
  ·show g.A0 b
   rw [hg1]
   exact Or.inl hb.2
 have hat : ∀ (i : Nat) d v, (AF.ds l ++ bxA bx.flatten)[i]? = some d -> (dvs ++ bvs.flatten)[i]? = some v -> VR (ze3 l bx) { g with β := fun k => bs (k - 1000000) } w (gVN i d) v := fun i d v hd hv1 => by
  obtain ⟨b, d⟩ := d
  cases b with
  | false =>
   obtain ⟨u, e1, e2⟩ := zao.atR hv i d hd
   rw [e1] at hv1
   cases hv1
   exact qd4 hfree e2
  | true =>
   have h0 := hR.slots i
   have hj0 := zk0 (AF.ds l ++ bxA bx.flatten) 0 i
   rw [Nat.zero_add, hd] at hj0
   have h0' : VR (zd3 (AF.ds l ++ bxA bx.flatten)) g w (zf8 0 (AF.ds l ++ bxA bx.flatten) i) _ := h0
   rw [hj0] at h0'
   have hlt : i < (dvs ++ bvs.flatten).length := (List.getElem?_eq_some_iff.1 hv1).1
   have e : ((⟨dvs ++ bvs.flatten⟩ : Array Value) ++ Array.replicate ((AF.ds l ++ bxA bx.flatten).length - (dvs ++ bvs.flatten).length) undef).getD i (g.R0.ξ i) = v := by
    rw [Array.getD_eq_getD_getElem?, Array.getElem?_append_left (by simpa using hlt)]
    simp only [List.getElem?_toArray, hv1, Option.getD_some]
   rw [e] at h0'
   have hf := zqt hfs i d hd
   cases d with
   | one t => exact zpd (σ := zd3 (AF.ds l ++ bxA bx.flatten)) (σ' := ze3 l bx) (g := g) (g' := { g with β := fun k => bs (k - 1000000) }) rfl rfl hf h0'
   | agg ts => obtain ⟨a, e1, e2⟩ := h0'; exact ⟨a, e1, zlt (σ := zd3 (AF.ds l ++ bxA bx.flatten)) (σ' := ze3 l bx) (g := g) (g' := { g with β := fun k => bs (k - 1000000) }) rfl rfl hf e2⟩
 have hvl := AF.vals_len bs l dvs hl
 refine ⟨rfl, by simp; omega, fun b hb => ?_, fun i => ?_, fun b cs hb => ?_, fun b hb => ?_, fun b b' hb hb' he => ?_, fun e x he ho => ?_, fun e x he ho => ?_, hR.slc, fun e he b hb => ?_, fun e he b hb => ?_, fun e he => hR.nodup e he, fun e e' h1 h2 hne => hR.apart e e' h1 h2 hne, fun e k he hk hm => ?_⟩
 ·show g.A0 b /\ g.R0 b
  rw [hg1, hg2]
  show (A b \/ _) /\ (b ∈ fp \/ _)
  by_cases hlt : b < w.heap.size
  ·by_cases hm : b ∈ fp
   ·exact ⟨Or.inr (Or.inr (Or.inl hm)), Or.inl hm⟩
   ·have : ∃ j, j < bx.length /\ b = bs j := Classical.byContradiction fun hh => hb ⟨hlt, hm, fun j hj e => hh ⟨j, hj, e⟩⟩
    exact ⟨Or.inr (Or.inr (Or.inr this)), Or.inr (Or.inr this)⟩
  ·exact ⟨Or.inr (Or.inl (by omega)), Or.inr (Or.inl (by omega))⟩
 ·show VR _ _ _ (zgm 0 bx (zca 0 0 l) i) _
  rcases zl4 bx 0 (zca 0 0 l) i with ⟨⟨q, h4, rfl⟩, h5⟩ | ⟨_, h5⟩
  ·rw [h5, Nat.zero_add, Array.getD_eq_getD_getElem?, Array.getElem?_eq_none (by simp; omega)]
   refine ⟨?_, (hbne _).2 ⟨q, h4, rfl⟩⟩
   show (none : Option Value).getD (g.R0.ξ (1000000 + q)) = .pointer (some ⟨bs (1000000 + q - 1000000), 0, none⟩)
   rw [hg2, show 1000000 + q - 1000000 = q by omega]
   exact h3 q h4
  ·rw [h5]
   by_cases hi : i < l.length
   ·obtain ⟨u, e1, e2⟩ := zfl (σ := ze3 l bx) (g := { g with β := fun k => bs (k - 1000000) }) (w := w) (bs := bs) (n := bx.length) (fun j hj => ⟨(hbne _).2 ⟨j, hj, rfl⟩, by show bs (1000000 + j - 1000000) = bs j; rw [show 1000000 + j - 1000000 = j by omega]⟩) l 0 0 dvs hj hl (fun i d v e1 e2 => by
     rw [Nat.zero_add]
     exact hat i d v (by rw [List.getElem?_append_left (List.getElem?_eq_some_iff.1 e1).1]; exact e1) (by rw [List.getElem?_append_left (List.getElem?_eq_some_iff.1 e2).1]; exact e2)) i hi
    rw [Nat.zero_add] at e2
    rw [Array.getD_eq_getD_getElem?, Array.getElem?_append_left (by simp; omega)]
    simp only [List.getElem?_toArray, e1, Option.getD_some]
    exact e2
   ·have := zei l 0 0 i (by omega)
    rw [Nat.zero_add] at this
    rw [this]
    trivial
 ·obtain ⟨q, vs, ty, k1, k2, k3, k4⟩ := zll (σ := ze3 l bx) (g := { g with β := fun k => bs (k - 1000000) }) bx bvs 0 (AF.ds l).length hbx (fun i p v e1 e2 => by
   have := hat ((AF.ds l).length + i) (p.1, .one p.2) v (by rw [List.getElem?_append_right (by omega), show (AF.ds l).length + i - (AF.ds l).length = i by omega]; unfold bxA; rw [List.getElem?_map, e1]; rfl) (by rw [List.getElem?_append_right (by omega), show (AF.ds l).length + i - dvs.length = i by omega]; exact e2)
   rw [qfh] at this
   exact this) b cs hb
  rw [Nat.zero_add] at k2 k3
  subst k2
  exact ⟨⟨vs⟩, ty, by show w.heap[bs (1000000 + q - 1000000)]? = _; rw [show 1000000 + q - 1000000 = q by omega]; exact k3, k4⟩
 ·obtain ⟨q, hq, rfl⟩ := (hbne b).1 hb
  intro h
  have h := h.2.2 q hq
  exact h (show bs (1000000 + q - 1000000) = bs q by rw [show 1000000 + q - 1000000 = q by omega])
 ·obtain ⟨q, hq, rfl⟩ := (hbne b).1 hb
  obtain ⟨q', hq', rfl⟩ := (hbne b').1 hb'
  have he : bs (1000000 + q - 1000000) = bs (1000000 + q' - 1000000) := he
  rw [show 1000000 + q - 1000000 = q by omega, show 1000000 + q' - 1000000 = q' by omega] at he
  rw [hinj q q' hq hq' he]
 ·obtain ⟨ao, cap, e1, e2, e3, e4⟩ := hR.evs e x he ho
  refine ⟨ao, cap, e1, e2, e3, ?_⟩
  rcases e4 with e4 | ⟨b, cells, ty, fps, j1, j2, j3, j4, j5⟩
  ·exact Or.inl e4
  ·rw [if_pos (hdeep e x he).1] at j5
   exact Or.inr ⟨b, cells, ty, fps, j1, j2, j3, j4, by rw [if_pos (hdeep e x he).1]; exact j5⟩
 ·rw [(hdeep e x he).2] at ho; cases ho
 ·exact hR.ebase e he b hb
 ·exact fun h => hφ e he b hb ⟨h.1, h.2.1⟩
 ·obtain ⟨q, hq, rfl⟩ := (hbne k).1 hk
  have hm : bs (1000000 + q - 1000000) ∈ g.φ e := hm
  rw [show 1000000 + q - 1000000 = q by omega] at hm
  exact hφ e he _ hm ⟨hblt q hq, hbf q hq⟩
def bxE (σ : St) : Nat -> Bxs -> (List V -> Prop) -> Prop
 | _, [], K => K []
 | j, b :: bs, K => σ.sl (1000000 + j) = .one (.bx (1000000 + j) 0) /\ zal (σ.bx (1000000 + j)) fun cs => cs.length = b.length /\ bxE σ (j + 1) bs fun vs => K (cs.map .one ++ vs)
theorem CRs.ones {σ : St} {g : Gh} {w : World} : ∀ {cs : List C} {vs : List Value}, CRs σ g w cs vs -> VRl σ g w (cs.map .one) vs
 | [], _, h => h
 | c :: cs, _, h => by obtain ⟨v, vs', rfl, h1, h2⟩ := h; exact ⟨v, vs', rfl, h1, CRs.ones h2⟩
theorem zfj {n0 : Nat -> Prop} {N : Nat} {σ : St} {g : Gh} {a : Act} {w : World} {bs : Nat -> Nat} (hR : Rel n0 N σ g a w) (hN : N <= 1000000) : ∀ {bx : Bxs} {j : Nat} {K : List V -> Prop}, (∀ q, q < bx.length -> g.R0.ξ (1000000 + (j + q)) = zne (bs (j + q))) -> bxE σ j bx K →
  ∃ vs bvs, K vs /\ zmd w bs j bvs bx /\ VRl σ g w vs bvs.flatten /\ ∀ q, q < bx.length -> σ.bx (1000000 + (j + q)) ≠ none /\ g.β (1000000 + (j + q)) = bs (j + q)
 | [], j, K, _, h => ⟨[], [], h, trivial, rfl, fun q hq => by simp at hq⟩
 | b :: bx, j, K, hξ, h => by
  obtain ⟨h1, h2⟩ := h
  obtain ⟨cs, h3, h4, h5⟩ := zai h2
  obtain ⟨vs, bvs, k1, k2, k3, k4⟩ := zfj hR hN (bx := bx) (j := j + 1) (fun q hq => by have := hξ (q + 1) (by simpa using hq); rw [show j + (q + 1) = j + 1 + q by omega] at this; exact this) h5
  have h0 := hR.slots (1000000 + j)
  rw [h1, Array.getD_eq_getD_getElem?, Array.getElem?_eq_none (by rw [hR.size]; omega)] at h0
  have hx := hξ 0 (by simp)
  rw [Nat.add_zero] at hx
  have h0 : CR σ g w (.bx (1000000 + j) 0) (g.R0.ξ (1000000 + j)) := h0
  rw [hx] at h0
  have hβ : g.β (1000000 + j) = bs j := by
   have := h0.1
   unfold zne at this
   simp only [Value.pointer.injEq, Option.some.injEq] at this
   injection this with e
   exact e.symm
  obtain ⟨us, ty, j1, j2⟩ := hR.boxes _ cs h3
  rw [hβ] at j1
  refine ⟨_, us.toList :: bvs, k1, ⟨by rw [j2.len, h4], ⟨ty, j1⟩, k2⟩, VRl.append j2.ones k3, fun q hq => ?_⟩
  cases q with
  | zero => exact ⟨h0.2, hβ⟩
  | succ q => rw [show j + (q + 1) = j + 1 + q by omega]; exact k4 q (by simpa using hq)
def PB0 (P : Program) (rs : List ResultVar) (res : List (Bool × D)) (bx : Bxs) (pl : List (Nat × Nat × Nat)) (σ : St) : Prop := zal (zbf P σ rs) fun vs => bxE σ 0 bx fun cs => gvA σ (fun _ => True) [] pl (vs ++ cs) (res ++ bxA bx.flatten)
def PB (P : Program) (rs : List ResultVar) (res : List (Bool × D)) (bx : Bxs) (e : Exit) (σ : St) : Prop := match e with
 | .normal => PB0 P rs res bx [] σ \/ ∃ pl, PB0 P rs res bx pl σ
 | .ret => PB0 P rs res bx [] σ \/ ∃ pl, PB0 P rs res bx pl σ
 | _ => False
theorem zdo {σ : St} : ∀ {rs : List ResultVar} {vs : List V}, zbf P σ rs = some vs -> vs.length = rs.length
 | [], vs, h => by cases h; rfl
 | r :: rs, vs, h => by
  unfold zbf at h
  cases h1 : zsp P σ r with
  | none => rw [h1] at h; cases h
  | some v =>
   rw [h1] at h
   simp only [Option.bind_some] at h
   cases h2 : zbf P σ rs with
   | none => rw [h2] at h; cases h
   | some us => rw [h2] at h; cases h; simp [zdo h2]
theorem VRl.len {σ : St} {g : Gh} {w : World} : ∀ {xs : List V} {vs : List Value}, VRl σ g w xs vs -> vs.length = xs.length
 | [], _, h => by rw [show _ = [] from h]; rfl
 | x :: xs, _, h => by obtain ⟨v, vs', rfl, _, h2⟩ := h; simp [VRl.len h2]
theorem zfb {f : FuncId} {fn : Func} {c : Code} {bx bx' : Bxs} {l : List AF} {res : List (Bool × D)} (hc : zaz P f) (hf : P.funcs[f]? = some fn) (hb : fn.body = some c) (hd : za6 fn.ntmps c = true) (hN : l.length <= fn.ntmps) (hN2 : fn.ntmps <= 1000000) (hbl : bx'.length = bx.length) (hj : AF.okJ bx.length l = true) (hs : za8 (AF.ds l ++ bxA bx.flatten)) (hfs : gFS (AF.ds l ++ bxA bx.flatten) = true) (hrl : fn.results.toList.length = res.length)
  (h : ex P c [] (PB P fn.results.toList res bx') (ze3 l bx)) : PC P f bx l bx' res := by
 refine ⟨hc, hbl, fun w bs bvs dvs fp tp A hinj hbf hbx hv hn hl => ?_⟩
 refine calls_of_wp hf hb ?_
 obtain ⟨g, hg, hR⟩ := zhe (N := fn.ntmps) hinj hbf hbx hv hn hl hj hN hN2 hs hfs (ξ := fun i => if 1000000 <= i then zne (bs (i - 1000000)) else undef) (fun i hi => if_neg (by omega)) (fun i b => by
  by_cases h : 1000000 <= i
  ·rw [if_pos h]; exact fun e => by cases e
  ·rw [if_neg h]; exact fun e => by cases e) (fun j hj => by
  rw [if_pos (by omega), show 1000000 + j - 1000000 = j by omega])
 refine wp_mono (za7 (w0 := w) c (ze3 l bx) _ hd h g _ w hR (fun k hk => hk.1) (Bk.refl _ _) hg) fun e a' w' hq => ?_
 obtain ⟨σ', g', h1, h2, h3, h4, h5⟩ := hq
 have hξ : ∀ q, q < bx'.length -> g'.R0.ξ (1000000 + (0 + q)) = zne (bs (0 + q)) := fun q hq => by
  rw [(Prod.mk.inj h5).2, Nat.zero_add]
  show (if 1000000 <= 1000000 + q then zne (bs (1000000 + q - 1000000)) else undef) = _
  rw [if_pos (by omega), show 1000000 + q - 1000000 = q by omega]
 have key : (∃ pl, PB0 P fn.results.toList res bx' pl σ') -> ∃ v, (results fn a'.tmps).run P w' = .ok v w' /\ ∃ us bvs' fp' tp', Ending.returned v = .returned (zbd us) /\ zmd w' bs 0 bvs' bx' /\ us.length = res.length ∧
   zao w' (fun k => (k < w'.heap.size /\ k ∉ fp' /\ ∀ j, j < bx.length -> k ≠ bs j) /\ (A k \/ w.heap.size <= k \/ k ∈ fp)) (res ++ bxA bx'.flatten) (us ++ bvs'.flatten) fp' tp' /\ fp'.Nodup /\ (∀ b ∈ fp', b ∈ fp \/ w.heap.size <= b) /\ Bk (fun k => k < w.heap.size /\ k ∉ fp /\ ∀ j, j < bx.length -> k ≠ bs j) w w' := by
  rintro ⟨pl, hk⟩
  obtain ⟨vs, hvs, hk⟩ := zai hk
  obtain ⟨us, r1, r2⟩ := zba h2 fn hvs
  obtain ⟨cs, bvs', k0, b1, b2, b3⟩ := zfj (bs := bs) h2 hN2 hξ hk
  obtain ⟨B, hB⟩ := h2.fam
  obtain ⟨s, k1, ⟨tp', k2⟩, k3, k4⟩ := zc2 h2 hB k0 (VRl.append r2 b2)
  rw [List.append_nil] at k4
  have hsp : s.Pairwise okP := (List.pairwise_reverse.1 (k4 List.Pairwise.nil)).imp fun h => h.symm
  have hin : ∀ b ∈ bks B s, ∃ e, σ'.On e /\ b ∈ g'.φ e := fun b hb => by
   obtain ⟨x, hx, hm⟩ := List.mem_flatMap.1 hb
   exact ⟨x.1, k3 x hx, hB.sub x.1 x.2 b (k3 x hx) hm⟩
  have hbβ : ∀ j, j < bx.length -> σ'.bx (1000000 + j) ≠ none /\ g'.β (1000000 + j) = bs j := fun j hj => by
   have := b3 j (by omega)
   rwa [Nat.zero_add] at this
  have hA : ∀ b, zby σ' g' w' b -> (b < w'.heap.size /\ b ∉ bks B s /\ ∀ j, j < bx.length -> b ≠ bs j) /\ (A b \/ w.heap.size <= b \/ b ∈ fp) := fun b hb => by
   have hnb : ∀ j, j < bx.length -> b ≠ bs j := fun j hj e => hb.1.1 _ (hbβ j hj).1 (by rw [(hbβ j hj).2, e])
   refine ⟨⟨hb.1.2.2.1, fun hm => ?_, hnb⟩, ?_⟩
   ·obtain ⟨e, ho, hm⟩ := hin b hm
    exact hb.2 e ho hm
   ·have h0 := hb.1.2.2.2
    rw [(Prod.mk.inj h5).1] at h0
    rcases h0 with h0 | h0 | h0 | ⟨j, hj, h0⟩
    ·exact Or.inl h0
    ·exact Or.inr (Or.inl h0)
    ·exact Or.inr (Or.inr h0)
    ·exact absurd h0 (hnb j hj)
  refine ⟨_, r1, us, bvs', bks B s, tp', rfl, b1, by rw [r2.len, <- hrl]; exact zdo hvs, zao.keepA hA k2, zcw h2 hB k3 hsp, fun b hb => ?_, h4⟩
  obtain ⟨e, ho, hm⟩ := hin b hb
  have h0 := (h2.ebase e ho b hm).2
  rw [(Prod.mk.inj h5).2] at h0
  rcases h0 with h0 | h0 | ⟨j, hj, h0⟩
  ·exact Or.inl h0
  ·exact Or.inr h0
  ·have := h2.ebx e _ ho (hbβ j hj).1
   rw [(hbβ j hj).2] at this
   exact absurd (h0 ▸ hm) this
 have key' : ∀ {Y : Prop}, (PB0 P fn.results.toList res bx' [] σ' \/ ∃ pl, PB0 P fn.results.toList res bx' pl σ') -> ((∃ pl, PB0 P fn.results.toList res bx' pl σ') -> Y) -> Y := fun h k => h.elim (fun h => k ⟨[], h⟩) k
 cases e with
 | normal => exact ⟨h2.defers, key' h1 key⟩
 | ret => exact ⟨h2.defers, key' h1 key⟩
 | exit _ => exact h1.elim
 | goto _ => exact h1.elim
 | panic _ => exact h1.elim
 | outgrown => exact h1.elim
end Go.Proofs.Yteeaofpphmhjdaa
namespace Go.Proofs.Yteeaofpphmhjdaa
set_option linter.unusedSimpArgs false
set_option linter.unusedVariables false
set_option linter.unusedSectionVars false
set_option maxRecDepth 4000
open Go.RowKit
variable {P : Program}
structure KeptB (W : List Nat) (σ τ : St) : Prop where
 sl : ∀ i, τ.sl i = .one .any \/ (τ.sl i = σ.sl i /\ (τ.sl i).okU τ)
 bx : ∀ b cs, b ∉ W -> τ.bx b = some cs -> σ.bx b = some cs /\ qeg τ cs
 bxW : ∀ b ∈ W, σ.bx b ≠ none /\ τ.bx b ≠ none
 ev : ∀ e x, τ.ev e = some x -> σ.ev e = some x /\ x.on = true /\ x.deep = true
theorem Rel.givenB {W : List Nat} {n0 : Nat -> Prop} {N : Nat} {σ τ : St} {g g' : Gh} {a : Act} {w w' : World} (hR : Rel n0 N σ g a w) (hn0 : LtK n0 w) (hK : KeptB W σ τ) {fp : List Nat} (hfp : ∀ b ∈ fp, ∃ e, σ.On e /\ τ.ev e = none /\ b ∈ g.φ e) (hbk : Bk (fun k => k < w.heap.size /\ k ∉ fp /\ ∀ b ∈ W, k ≠ g.β b) w w')
  {ev' : Nat -> Option Ev} {F : List Nat} (hn : New τ g (fun b => b ∈ fp \/ w.heap.size <= b) w' ev' g' F) (hW : ∀ b ∈ W, ∀ cs, τ.bx b = some cs -> ∃ vs ty, w'.heap[g.β b]? = some (.cells vs ty (0, 0)) /\ CRs ⟨τ.sl, τ.bx, ev'⟩ g' w' cs vs.toList) : Rel n0 N ⟨τ.sl, τ.bx, ev'⟩ g' a w' := by
 have hOnσ : ∀ e, τ.On e -> σ.On e := fun e ⟨x, hx, ho⟩ => ⟨x, (hK.ev e x hx).1, ho⟩
 have hlt : ∀ e, σ.On e -> ∀ b ∈ g.φ e, b < w.heap.size := fun e ⟨x, hx, ho⟩ => (hR.evs e x hx ho).lt
 have hbne : ∀ b, τ.bx b ≠ none -> σ.bx b ≠ none := fun b hb => by
  by_cases hbW : b ∈ W
  ·exact (hK.bxW b hbW).1
  obtain ⟨cs, hcs⟩ := Option.ne_none_iff_exists'.1 hb
  rw [(hK.bx b cs hbW hcs).1]; simp
 have hfR : ∀ b ∈ fp, g.A0 b /\ g.R0 b /\ ¬ n0 b := fun b hb => by
  obtain ⟨e, ho, _, hm⟩ := hfp b hb
  obtain ⟨k1, k2⟩ := hR.ebase e ho b hm
  exact ⟨k1, k2, hR.etop e ho b hm⟩
 have hNB : ∀ b, (b ∈ fp \/ w.heap.size <= b) -> g.A0 b /\ g.R0 b /\ ¬ n0 b := fun b hb => by
  rcases hb with hb | hb
  ·exact hfR b hb
  ·have hnn := hn0.new hb
   exact ⟨(hR.anew b hnn).1, (hR.anew b hnn).2, hnn⟩
 have hβfp : ∀ b, τ.bx b ≠ none -> ¬ (g.β b ∈ fp \/ w.heap.size <= g.β b) := fun b hb h => by
  rcases h with h | h
  ·obtain ⟨e, ho, _, hm⟩ := hfp _ h
   exact hR.ebx e b ho (hbne b hb) hm
  ·have := hR.lt (hbne b hb); omega
 have hφfp : ∀ e, τ.On e -> ∀ b ∈ g.φ e, ¬ (b ∈ fp \/ w.heap.size <= b) := fun e ho b hb h => by
  rcases h with h | h
  ·obtain ⟨e', ho', hno, hm⟩ := hfp b h
   refine hR.apart e e' (hOnσ e ho) ho' (fun hee => ?_) b hb hm
   subst hee
   obtain ⟨x, hx, _⟩ := ho
   rw [hx] at hno; cases hno
  ·have := hlt e (hOnσ e ho) b hb; omega
 have hon : ∀ e, St.On ⟨τ.sl, τ.bx, ev'⟩ e -> τ.ev e ≠ none -> τ.On e := fun e ⟨x, hx, ho⟩ hee => ⟨x, (hn.old e hee).1.symm.trans hx, ho⟩
 have hkeep : ∀ b, b < w.heap.size -> b ∉ fp -> (∀ k ∈ W, b ≠ g.β k) -> w'.heap[b]? = w.heap[b]? := fun b h1 h2 h3 => hbk.block b ⟨h1, h2, h3⟩
 have hrn : ∀ b, zby σ g w b -> w'.heap[b]? = w.heap[b]? /\ zby ⟨τ.sl, τ.bx, ev'⟩ g' w' b := fun b hb => by
  obtain ⟨hf, hr⟩ := hb
  have hnb : ∀ e, St.On ⟨τ.sl, τ.bx, ev'⟩ e -> b ∉ g'.φ e := fun e ho hm => by
   by_cases hee : τ.ev e = none
   ·obtain ⟨x, hx, _⟩ := ho
    rcases ((hn.new e x hee hx).2.2.1 b hm).1 with h | h
    ·obtain ⟨e', ho', _, hm'⟩ := hfp b h
     exact hr e' ho' hm'
    ·have := hf.2.2.1; omega
   ·rw [(hn.old e hee).2.2] at hm
    exact hr e (hOnσ e (hon e ho hee)) hm
  refine ⟨hkeep b hf.2.2.1 (fun hm => by obtain ⟨e', ho', _, hm'⟩ := hfp b hm; exact hr e' ho' hm') (fun k hk e => hf.1 k (hK.bxW k hk).1 e.symm), ⟨fun k hk => by rw [hn.β]; exact hf.1 k (hbne k hk), fun e x hx hon' hh => hnb e ⟨x, hx, hon'⟩ (List.mem_of_mem_head? hh), Nat.lt_of_lt_of_le hf.2.2.1 hbk.size, by rw [hn.A0]; exact hf.2.2.2⟩, hnb⟩
 have hψ : ∀ e, τ.ev e ≠ none -> ev' e = τ.ev e /\ g'.ψ e = g.ψ e := fun e he => ⟨(hn.old e he).1, (hn.old e he).2.1⟩
 refine ⟨by rw [hR.defers], hR.size, by rw [hn.A0, hn.R0]; exact hR.anew, fun i => ?_, fun b cs hb => ?_, fun b hb => by rw [hn.β]; exact hR.base b (hbne b hb), fun b b' h1 h2 h3 => by rw [hn.β] at h3; exact hR.inj b b' (hbne b h1) (hbne b' h2) h3, fun e x he ho => ?_, fun e x he ho => ?_, hn.slc, fun e he b hb => ?_, fun e he b hb => ?_, fun e he => ?_, fun e e' h1 h2 hne b hb1 hb2 => ?_, fun e k he hk hm => ?_⟩
 ·rcases hK.sl i with h | ⟨h, hok⟩
  ·rw [show (⟨τ.sl, τ.bx, ev'⟩ : St).sl i = .one .any from h]; trivial
  ·rw [hn.R0]
   show VR _ g' w' (τ.sl i) _
   have hs := hR.slots i
   rw [<- h] at hs
   exact okU_vr hn.β hψ hrn hok hs
 ·by_cases hbW : b ∈ W
  ·rw [hn.β]; exact hW b hbW cs hb
  obtain ⟨hb1, hb2⟩ := hK.bx b cs hbW hb
  obtain ⟨vs, ty, k1, k2⟩ := hR.boxes b cs hb1
  have hne : τ.bx b ≠ none := by rw [show τ.bx b = some cs from hb]; simp
  have hnf := hβfp b hne
  exact ⟨vs, ty, by rw [hn.β, hkeep _ (hR.lt (hbne b hne)) (fun h => hnf (Or.inl h)) (fun k hk e => hbW (hR.inj b k (hbne b hne) (hK.bxW k hk).1 e ▸ hk))]; exact k1, zj9 hn.β hψ hrn hb2 k2⟩
 ·by_cases hee : τ.ev e = none
  ·obtain ⟨⟨k1, _, k0⟩, k2, k3, k4⟩ := hn.new e x hee he
   rw [k0]
   unfold zar at k2
   obtain ⟨ao, cap, j1, j2, j3, j4⟩ := k2
   refine ⟨ao, cap, j1, j2, j3, ?_⟩
   rcases j4 with j4 | ⟨b, cells, ty, fps, j4, j5, j6, j7, j8⟩
   ·exact Or.inl j4
   ·exact Or.inr ⟨b, cells, ty, fps, j4, j5, j6, j7, by rw [if_pos k1]; exact j8⟩
  ·obtain ⟨o1, o2, o3⟩ := hn.old e hee
   have hx : τ.ev e = some x := o1.symm.trans he
   obtain ⟨k1, k2, k3⟩ := hK.ev e x hx
   have hE := hR.evs e x k1 k2
   have hno := hφfp e ⟨x, hx, k2⟩
   have hl := hlt e ⟨x, k1, k2⟩
   have hkp : ∀ b ∈ g.φ e, w'.heap[b]? = w.heap[b]? := fun b hb => hkeep b (hl b hb) (fun h => hno b hb (Or.inl h)) fun k' hk' e => hR.ebx _ k' ⟨x, k1, k2⟩ (hK.bxW k' hk').1 (e ▸ hb)
   rw [o2, o3]
   obtain ⟨ao, cap, r1, r2, r3, r4⟩ := hE
   refine ⟨ao, cap, r1, r2, r3, ?_⟩
   rcases r4 with r4 | ⟨b, cells, ty, fps, r4, r5, r6, r7, r8⟩
   ·exact Or.inl r4
   ·rw [if_pos k3] at r8
    exact Or.inr ⟨b, cells, ty, fps, r4, r5, by rw [hkp b (by rw [r5]; simp)]; exact r6, r7, by rw [if_pos k3]; exact zae.keep cells 0 x.sz x.rows fps r8 fun b' hb' => hkp b' (by rw [r5]; simp [hb'])⟩
 ·by_cases hee : τ.ev e = none
  ·rw [(hn.new e x hee he).1.2.1] at ho; cases ho
  ·have hx : τ.ev e = some x := (hn.old e hee).1.symm.trans he
   rw [(hK.ev e x hx).2.1] at ho; cases ho
 ·rw [hn.A0, hn.R0]
  by_cases hee : τ.ev e = none
  ·obtain ⟨x, hx, _⟩ := he
   have := hNB b ((hn.new e x hee hx).2.2.1 b hb).1
   exact ⟨this.1, this.2.1⟩
  ·rw [(hn.old e hee).2.2] at hb
   exact hR.ebase e (hOnσ e (hon e he hee)) b hb
 ·by_cases hee : τ.ev e = none
  ·obtain ⟨x, hx, _⟩ := he
   exact (hNB b ((hn.new e x hee hx).2.2.1 b hb).1).2.2
  ·rw [(hn.old e hee).2.2] at hb
   exact hR.etop e (hOnσ e (hon e he hee)) b hb
 ·by_cases hee : τ.ev e = none
  ·obtain ⟨x, hx, _⟩ := he
   exact (hn.new e x hee hx).2.2.2
  ·rw [(hn.old e hee).2.2]
   exact hR.nodup e (hOnσ e (hon e he hee))
 ·by_cases hee : τ.ev e = none
  ·obtain ⟨x, hx, _⟩ := h1
   by_cases hee' : τ.ev e' = none
   ·obtain ⟨x', hx', _⟩ := h2
    exact hn.apart e e' hee hee' (by rw [show ev' e = some x from hx]; simp) (by rw [show ev' e' = some x' from hx']; simp) hne b hb1 hb2
   ·rw [(hn.old e' hee').2.2] at hb2
    exact hφfp e' (hon e' h2 hee') b hb2 ((hn.new e x hee hx).2.2.1 b hb1).1
  ·rw [(hn.old e hee).2.2] at hb1
   by_cases hee' : τ.ev e' = none
   ·obtain ⟨x', hx', _⟩ := h2
    exact hφfp e (hon e h1 hee) b hb1 ((hn.new e' x' hee' hx').2.2.1 b hb2).1
   ·rw [(hn.old e' hee').2.2] at hb2
    exact hR.apart e e' (hOnσ e (hon e h1 hee)) (hOnσ e' (hon e' h2 hee')) hne b hb1 hb2
 ·rw [hn.β] at hm
  by_cases hee : τ.ev e = none
  ·obtain ⟨x, hx, _⟩ := he
   exact hβfp k hk ((hn.new e x hee hx).2.2.1 _ hm).1
  ·rw [(hn.old e hee).2.2] at hm
   exact hR.ebx e k (hOnσ e (hon e he hee)) (hbne k hk) hm
def mtK (W : List Nat) : List AF -> List V -> (List V -> Prop) -> Prop
 | [], [], K => K []
 | .d _ _ :: l, v :: vs, K => mtK W l vs fun u => K (v :: u)
 | .p j :: l, .one (.bx b o) :: vs, K => W[j]? = some b /\ o = 0 /\ mtK W l vs K
 | .fn g js :: l, .one (.fn g' bs) :: vs, K => g' = g /\ js.map (fun j => W[j]?) = bs.map some /\ mtK W l vs K
 | _, _, _ => False
theorem zyr {g : Gh} {W : List Nat} {bs : Nat -> Nat} (hb : ∀ j b, W[j]? = some b -> bs j = g.β b) : ∀ (js bs' : List Nat), js.map (fun j => W[j]?) = bs'.map some -> bs'.map (fun b => Value.pointer (some ⟨g.β b, 0, none⟩)) = js.map fun j => zne (bs j)
 | [], [], _ => rfl
 | [], _ :: _, e => by cases e
 | _ :: _, [], e => by cases e
 | j :: js, b :: bs', e => by
  simp only [List.map_cons, List.cons.injEq] at e
  rw [List.map_cons, List.map_cons, zyr hb js bs' e.2, hb j b e.1]
  rfl
theorem zd5 {σ : St} {g : Gh} {w : World} {W : List Nat} {bs : Nat -> Nat} (hb : ∀ j b, W[j]? = some b -> bs j = g.β b) : ∀ {l : List AF} {xs : List V} {K : List V -> Prop} {vs : List Value}, mtK W l xs K -> VRl σ g w xs vs →
  ∃ us dvs, K us /\ VRl σ g w us dvs /\ dvs.length = (AF.ds l).length /\ vs = AF.vals bs l dvs
 | [], [], K, vs, h, hv => ⟨[], [], h, rfl, rfl, hv⟩
 | .d _ _ :: l, x :: xs, K, vs, h, hv => by
  obtain ⟨v, vs', rfl, h1, h2⟩ := hv
  obtain ⟨us, dvs, k1, k2, k3, k4⟩ := zd5 hb (l := l) h h2
  exact ⟨x :: us, v :: dvs, k1, ⟨v, dvs, rfl, h1, k2⟩, by simp [AF.ds, k3], by rw [k4]; rfl⟩
 | .p j :: l, .one (.bx b o) :: xs, K, vs, h, hv => by
  obtain ⟨v, vs', rfl, h1, h2⟩ := hv
  obtain ⟨e1, rfl, h⟩ := h
  obtain ⟨us, dvs, k1, k2, k3, k4⟩ := zd5 hb (l := l) h h2
  refine ⟨us, dvs, k1, k2, k3, ?_⟩
  have h1 : CR σ g w (.bx b 0) v := h1
  rw [k4, h1.1, <- hb j b e1]
  rfl
 | .fn f js :: l, .one (.fn f' bs') :: xs, K, vs, h, hv => by
  obtain ⟨v, vs', rfl, h1, h2⟩ := hv
  obtain ⟨rfl, e1, h⟩ := h
  obtain ⟨us, dvs, k1, k2, k3, k4⟩ := zd5 hb (l := l) h h2
  refine ⟨us, dvs, k1, k2, k3, ?_⟩
  have h1 : CR σ g w (.fn f' bs') v := h1
  rw [k4, h1.1]
  rw [zyr hb js bs' e1]
  rfl
 | .d _ _ :: _, [], _, _, h, _ => h.elim
 | .p _ :: _, [], _, _, h, _ => h.elim
 | .fn _ _ :: _, [], _, _, h, _ => h.elim
 | [], _ :: _, _, _, h, _ => h.elim
 | .p _ :: _, .agg _ :: _, _, _, h, _ => h.elim
 | .p _ :: _, .tup _ :: _, _, _, h, _ => h.elim
 | .fn _ _ :: _, .agg _ :: _, _, _, h, _ => h.elim
 | .fn _ _ :: _, .tup _ :: _, _, _, h, _ => h.elim
 | .p _ :: _, .one (.t _) :: _, _, _, h, _ => h.elim
 | .p _ :: _, .one (.nl _) :: _, _, _, h, _ => h.elim
 | .p _ :: _, .one (.ow _ _) :: _, _, _, h, _ => h.elim
 | .p _ :: _, .one (.el _ _) :: _, _, _, h, _ => h.elim
 | .p _ :: _, .one (.eo _ _ _ _ _) :: _, _, _, h, _ => h.elim
 | .p _ :: _, .one (.fn _ _) :: _, _, _, h, _ => h.elim
 | .p _ :: _, .one (.cv _) :: _, _, _, h, _ => h.elim
 | .p _ :: _, .one .any :: _, _, _, h, _ => h.elim
 | .p _ :: _, .one (.rn _) :: _, _, _, h, _ => h.elim
 | .p _ :: _, .one (.er _ _) :: _, _, _, h, _ => h.elim
 | .fn _ _ :: _, .one (.t _) :: _, _, _, h, _ => h.elim
 | .fn _ _ :: _, .one (.nl _) :: _, _, _, h, _ => h.elim
 | .fn _ _ :: _, .one (.ow _ _) :: _, _, _, h, _ => h.elim
 | .fn _ _ :: _, .one (.el _ _) :: _, _, _, h, _ => h.elim
 | .fn _ _ :: _, .one (.eo _ _ _ _ _) :: _, _, _, h, _ => h.elim
 | .fn _ _ :: _, .one (.bx _ _) :: _, _, _, h, _ => h.elim
 | .fn _ _ :: _, .one (.cv _) :: _, _, _, h, _ => h.elim
 | .fn _ _ :: _, .one .any :: _, _, _, h, _ => h.elim
 | .fn _ _ :: _, .one (.rn _) :: _, _, _, h, _ => h.elim
 | .fn _ _ :: _, .one (.er _ _) :: _, _, _, h, _ => h.elim
def qat (σ : St) : List Nat -> Bxs -> (List V -> Prop) -> Prop
 | [], [], K => K []
 | k :: W, b :: bx, K => zal (σ.bx k) fun cs => cs.length = b.length /\ qat σ W bx fun l => K (cs.map .one ++ l)
 | _, _, _ => False
theorem zf6 {n0 : Nat -> Prop} {N : Nat} {σ : St} {g : Gh} {a : Act} {w : World} (hR : Rel n0 N σ g a w) {bs : Nat -> Nat} : ∀ {W : List Nat} {bx : Bxs} {j : Nat} {K : List V -> Prop}, (∀ i b, W[i]? = some b -> bs (j + i) = g.β b) -> qat σ W bx K →
  ∃ l bvs, K l /\ VRl σ g w l bvs.flatten /\ zmd w bs j bvs bx /\ W.length = bx.length /\ ∀ b ∈ W, σ.bx b ≠ none
 | [], [], j, K, _, h => ⟨[], [], h, rfl, trivial, rfl, fun b hb => by simp at hb⟩
 | k :: W, b :: bx, j, K, hb, h => by
  obtain ⟨cs, h1, h2, h3⟩ := zai h
  obtain ⟨l, bvs, k1, k2, k3, k4, k5⟩ := zf6 hR (W := W) (bx := bx) (j := j + 1) (fun i b hi => by have := hb (i + 1) b (by simpa using hi); rw [show j + (i + 1) = j + 1 + i by omega] at this; exact this) h3
  obtain ⟨us, ty, j1, j2⟩ := hR.boxes k cs h1
  have hk := hb 0 k rfl
  rw [Nat.add_zero] at hk
  refine ⟨_, us.toList :: bvs, k1, VRl.append j2.ones k2, ⟨by rw [j2.len, h2], ⟨ty, by rw [hk]; exact j1⟩, k3⟩, by simp [k4], fun x hx => ?_⟩
  rcases List.mem_cons.1 hx with rfl | hx
  ·rw [h1]; simp
  ·exact k5 x hx
 | [], _ :: _, _, _, _, h => h.elim
 | _ :: _, [], _, _, _, h => h.elim
theorem zmm {σ : St} {K K' : List V -> Prop} (hK : ∀ l, K l -> K' l) : ∀ {W : List Nat} {bx : Bxs}, qat σ W bx K -> qat σ W bx K' := fun {W} => by
 induction W generalizing K K' with
 | nil => intro bx h; cases bx with
  | nil => exact hK _ h
  | cons _ _ => exact h.elim
 | cons k W ih => intro bx h; cases bx with
  | nil => exact h.elim
  | cons b bx =>
   obtain ⟨cs, h1, h2, h3⟩ := zai h
   show zal (σ.bx k) _
   rw [h1]
   exact ⟨h2, ih (fun l => hK _) h3⟩
theorem zpj {W : List Nat} : ∀ {l : List AF} {xs : List V} {K K' : List V -> Prop}, (∀ u, K u -> K' u) -> mtK W l xs K -> mtK W l xs K' := fun {l} => by
 induction l with
 | nil => intro xs K K' hK h; cases xs with
  | nil => exact hK _ h
  | cons _ _ => exact h.elim
 | cons a l ih => intro xs K K' hK h; cases xs with
  | nil => cases a <;> exact h.elim
  | cons x xs =>
   cases a with
   | d b y => exact ih (fun u => hK _) h
   | p j =>
    cases x with
    | one c => cases c <;> first | exact h.elim | exact ⟨h.1, h.2.1, ih hK h.2.2⟩
    | agg _ => exact h.elim
    | tup _ => exact h.elim
   | fn g js =>
    cases x with
    | one c => cases c <;> first | exact h.elim | exact ⟨h.1, h.2.1, ih hK h.2.2⟩
    | agg _ => exact h.elim
    | tup _ => exact h.elim
def zd4 (d : Nat) : Nat -> List Nat -> Bxs -> (Nat -> Option (List C)) -> (Nat -> Option (List C))
 | m, k :: W, b :: bx, f => upd (zd4 d (m + b.length) W bx f) k (some (mC d m b))
 | _, _, _, f => f
theorem zkv (d : Nat) : ∀ (W : List Nat) (bx : Bxs) (m : Nat) (f : Nat -> Option (List C)) (b : Nat), b ∉ W -> zd4 d m W bx f b = f b
 | [], _, _, _, _, _ => by unfold zd4; rfl
 | k :: W, [], _, _, _, _ => by unfold zd4; rfl
 | k :: W, c :: bx, m, f, b, hb => by
  unfold zd4
  rw [zaj _ _ (fun e => hb (by simp [e]))]
  exact zkv d W bx _ f b fun h => hb (by simp [h])
theorem znu (d : Nat) : ∀ (W : List Nat) (bx : Bxs) (m : Nat) (f : Nat -> Option (List C)) (b : Nat), W.length = bx.length -> b ∈ W -> zd4 d m W bx f b ≠ none
 | [], _, _, _, _, _, hb => by simp at hb
 | k :: W, [], _, _, _, hl, _ => by simp at hl
 | k :: W, c :: bx, m, f, b, hl, hb => by
  unfold zd4
  by_cases h : b = k
  ·subst h; rw [zac]; simp
  ·rw [zaj _ _ h]
   exact znu d W bx _ f b (by simpa using hl) ((List.mem_cons.1 hb).resolve_left h)
theorem zgb {σ : St} {g : Gh} {w : World} {bs : Nat -> Nat} (d : Nat) {β : Nat -> Nat} : ∀ (W : List Nat) (bx : Bxs) (bvs : List (List Value)) (j m : Nat) (f : Nat -> Option (List C)), (∀ i b, W[i]? = some b -> bs (j + i) = β b) -> zmd w bs j bvs bx -> CRs σ g w (mC d m bx.flatten) bvs.flatten -> W.length = bx.length →
  ∀ b ∈ W, ∀ cs, zd4 d m W bx f b = some cs -> ∃ vs ty, w.heap[β b]? = some (.cells vs ty (0, 0)) /\ CRs σ g w cs vs.toList
 | [], _, _, _, _, _, _, _, _, _, b, hb, _, _ => by simp at hb
 | k :: W, [], _, _, _, _, _, _, _, hl, _, _, _, _ => by simp at hl
 | k :: W, c :: bx, [], _, _, _, _, h0, _, _, _, _, _, _ => h0.elim
 | k :: W, c :: bx, vs :: bvs, j, m, f, hβ, h0, hc, hl, b, hb, cs, hs => by
  obtain ⟨h1, ⟨ty, h2⟩, h3⟩ := h0
  rw [List.flatten_cons, List.flatten_cons, zec] at hc
  obtain ⟨v1, v2, e, c1, c2⟩ := hc.split
  obtain ⟨e1, e2⟩ := List.append_inj e (by rw [c1.len, zl6, h1])
  subst e1 e2
  unfold zd4 at hs
  by_cases h : b = k
  ·subst h
   rw [zac] at hs
   cases hs
   have := hβ 0 b rfl
   rw [Nat.add_zero] at this
   exact ⟨⟨vs⟩, ty, by rw [<- this]; exact h2, c1⟩
  ·rw [zaj _ _ h] at hs
   exact zgb d W bx bvs (j + 1) (m + c.length) f (fun i b hi => by have := hβ (i + 1) b (by simpa using hi); rw [show j + (i + 1) = j + 1 + i by omega] at this; exact this) h3 c2 (by simpa using hl) b ((List.mem_cons.1 hb).resolve_left h) cs hs
def St.callP (σ : St) (d : Nat) (W : List Nat) (bx' : Bxs) (res : List (Bool × D)) : St := { sl := upd σ.sl d (znd (mD d 0 res)), bx := zd4 d (za5 res).length W bx' σ.bx, ev := mE d 0 (za5 res ++ bx'.flatten) σ.ev }
theorem CRs.split_flat {σ : St} {g : Gh} {w w' : World} {A : Nat -> Prop} {d m : Nat} {l : List (Bool × T)} {c : Bxs} {us vs : List Value} (h : CRs σ g w (mC d 0 (l ++ c.flatten)) (us ++ vs)) (hl : us.length = l.length) : CRs σ g w (mC d 0 l) us /\ CRs σ g w (mC d l.length c.flatten) vs := by
 rw [zec] at h
 obtain ⟨v1, v2, e, c1, c2⟩ := h.split
 obtain ⟨e1, e2⟩ := List.append_inj e (by rw [c1.len, zl6, hl])
 subst e1 e2
 rw [Nat.zero_add] at c2
 exact ⟨c1, c2⟩
theorem zao.one_vals {w : World} {A : Nat -> Prop} : ∀ {ds : List (Bool × D)} {vs : List Value} {fp tp : List Nat}, zao w A ds vs fp tp -> (vs.flatMap fun u => u.cells.toList).length = (za5 ds).length := fun {ds vs fp tp} h => by
 obtain ⟨tp', h'⟩ := h.flat
 rw [zao.len h']
 unfold bxA
 rw [List.length_map]
theorem zxq {W : List Nat} {o : Oper} {σ : St} {τs : Nat -> V} {τe : Nat -> Option Ev} {τb : Nat -> Option (List C)} {x : Operand} {asx : Array Operand} {ts : Array TypeId} {f : FuncId} {cvs : List V} {d : Nat} {bx bx' : Bxs} {l : List AF} {res : List (Bool × D)} {ps : List (Nat × Nat × Nat)} (ho : o.op = .call ⟨.value x, asx, ts⟩) (hd : o.dst = some d)
  (h : PC P f bx l bx' res) (hc : zau (σ.get P 0 x) = some (f, cvs)) (hK : KeptB W σ ⟨τs, zd4 d (za5 res).length W bx' τb, τe⟩) (hWn : W.Nodup)
  (hv : mtK W l (σ.gets P asx ts ++ cvs) fun us => qat σ W bx fun cs => gvA σ (fun u => ∀ s ∈ u, τe s.1 = none) [] ps (us ++ cs) (AF.ds l ++ bxA bx.flatten)) (hf : mF d 0 (za5 res ++ bx'.flatten) τe) : zad P o σ (St.callP ⟨τs, τb, τe⟩ d W bx' res) := by
 intro n0 N g a w hR hn hdN
 obtain ⟨vs, h1, h2⟩ := zc7 hR ho hc h.1
 unfold Oper.wp
 rw [h1]
 obtain ⟨B, hB⟩ := hR.fam
 let bs : Nat -> Nat := fun j => g.β (W.getD j 0)
 have hbs : ∀ j b, W[j]? = some b -> bs j = g.β b := fun j b hj => by show g.β (W.getD j 0) = _; rw [List.getD_eq_getElem?_getD, hj]; rfl
 obtain ⟨us, dvs, a1, a2, a3, rfl⟩ := zd5 hbs hv h2
 obtain ⟨cs, bvs, b1, b2, b3, b4, b5⟩ := zf6 hR (bs := bs) (j := 0) (fun i b hi => by rw [Nat.zero_add]; exact hbs i b hi) a1
 obtain ⟨s, k1, ⟨tp, k2⟩, k3, k4⟩ := zc2 hR hB b1 (VRl.append a2 b2)
 rw [List.append_nil] at k1 k4
 have hsp : s.Pairwise okP := (List.pairwise_reverse.1 (k4 List.Pairwise.nil)).imp fun h => h.symm
 have hnd := zcw hR hB k3 hsp
 have hfp : ∀ b ∈ bks B s, ∃ e, σ.On e /\ τe e = none /\ b ∈ g.φ e := fun b hb => by
  obtain ⟨x, hx, hm⟩ := List.mem_flatMap.1 hb
  exact ⟨x.1, k3 x hx, k1 x (List.mem_reverse.2 hx), hB.sub x.1 x.2 b (k3 x hx) hm⟩
 have hfn : ∀ b, zby σ g w b -> b ∉ bks B s := fun b hb hm => by obtain ⟨e, h1, _, h3⟩ := hfp b hm; exact hb.2 e h1 h3
 have hWj : ∀ j, j < bx.length -> ∃ b, W[j]? = some b /\ b ∈ W /\ bs j = g.β b := fun j hj => by
  have hlt : j < W.length := by omega
  exact ⟨W[j], List.getElem?_eq_getElem hlt, List.getElem_mem hlt, hbs j _ (List.getElem?_eq_getElem hlt)⟩
 have hWb : ∀ b ∈ W, ∃ j, j < bx.length /\ bs j = g.β b := fun b hb => by
  obtain ⟨j, hj, rfl⟩ := List.getElem_of_mem hb
  exact ⟨j, by omega, hbs j _ (List.getElem?_eq_getElem hj)⟩
 have hinj : ∀ i j, i < bx.length -> j < bx.length -> bs i = bs j -> i = j := fun i j hi hj he => by
  obtain ⟨b, e1, e2, e3⟩ := hWj i hi
  obtain ⟨c, f1, f2, f3⟩ := hWj j hj
  have : b = c := hR.inj b c (b5 b e2) (b5 c f2) (by rw [<- e3, <- f3]; exact he)
  subst this
  have hi' : i < W.length := by omega
  have hj' : j < W.length := by omega
  rw [List.getElem?_eq_getElem hi'] at e1
  rw [List.getElem?_eq_getElem hj'] at f1
  exact (List.getElem_inj hWn).1 ((Option.some.inj e1).trans (Option.some.inj f1).symm)
 have hbf : ∀ j, j < bx.length -> bs j ∉ bks B s := fun j hj hm => by
  obtain ⟨b, _, e2, e3⟩ := hWj j hj
  obtain ⟨e, h1, _, h3⟩ := hfp _ hm
  exact hR.ebx e b h1 (b5 b e2) (e3 ▸ h3)
 have hfb : ∀ b, zby σ g w b -> ∀ j, j < bx.length -> b ≠ bs j := fun b hb j hj e => by
  obtain ⟨c, _, e2, e3⟩ := hWj j hj
  exact hb.1.1 c (b5 c e2) (by rw [<- e3, e])
 refine (h.2.2 w bs bvs dvs (bks B s) tp (zby σ g w) hinj hbf b3 (zao.keepA (fun b hb => ⟨⟨hb.1.2.2.1, hfn b hb, hfb b hb⟩, hb⟩) k2) hnd a3).mono ?_
 rintro e w' ⟨us', bvs', fp', tp', rfl, hbx', hlu, o1, o2, o3, hbk⟩
 obtain ⟨v1, v2, f1, f2, t1, t2, ev, ef, et, p1, p2⟩ := zao.split o1
 obtain ⟨rfl, rfl⟩ := List.append_inj ev (by rw [hlu, zao.len p1])
 subst ef
 obtain ⟨t1', p1'⟩ := p1.flat
 have pp := zao.append p1' p2
 rw [<- zeq] at pp
 have hnew := New.refl ⟨τs, zd4 d (za5 res).length W bx' τb, τe⟩ g (fun b => b ∈ bks B s \/ w.heap.size <= b) w' hR.slc
 obtain ⟨g', q1, q2, q3⟩ := New.mix (τ := ⟨τs, zd4 d (za5 res).length W bx' τb, τe⟩) (g := g) (NB := fun b => b ∈ bks B s \/ w.heap.size <= b) (w' := w') d (za5 res ++ bx'.flatten) _ (f1 ++ f2) _ 0 τe g [] hnew hf pp o2 (fun b hb' => ⟨o3 b hb', by simp⟩)
 have hbk' : Bk (fun k => k < w.heap.size /\ k ∉ bks B s /\ ∀ b ∈ W, k ≠ g.β b) w w' := ⟨hbk.os, hbk.tape, hbk.output, hbk.size, fun k hk => hbk.block k ⟨hk.1, hk.2.1, fun j hj e => by
  obtain ⟨c, _, e2, e3⟩ := hWj j hj
  exact hk.2.2 c e2 (by rw [<- e3, e])⟩⟩
 have hfree : ∀ k, ((k < w'.heap.size /\ k ∉ f1 ++ f2 /\ ∀ j, j < bx.length -> k ≠ bs j) /\ (zby σ g w k \/ w.heap.size <= k \/ k ∈ bks B s)) -> zby ⟨τs, zd4 d (za5 res).length W bx' τb, mE d 0 (za5 res ++ bx'.flatten) τe⟩ g' w' k := fun k hk => by
  have hOnσ : ∀ e, St.On ⟨τs, zd4 d (za5 res).length W bx' τb, τe⟩ e -> σ.On e := fun e ⟨x, hx, ho⟩ => ⟨x, (hK.ev e x hx).1, ho⟩
  have hno : ∀ e, St.On ⟨τs, zd4 d (za5 res).length W bx' τb, mE d 0 (za5 res ++ bx'.flatten) τe⟩ e -> k ∉ g'.φ e := fun e ho' hm => by
   by_cases hee : τe e = none
   ·obtain ⟨x, hx, _⟩ := ho'
    have := ((q1.new e x hee hx).2.2.1 k hm).2
    rw [List.nil_append] at this
    exact hk.1.2.1 this
   ·rw [(q1.old e hee).2.2] at hm
    obtain ⟨x, hx, hon⟩ := ho'
    have ho2 : St.On ⟨τs, zd4 d (za5 res).length W bx' τb, τe⟩ e := ⟨x, (q1.old e hee).1.symm.trans hx, hon⟩
    rcases hk.2 with h | h | h
    ·exact h.2 e (hOnσ e ho2) hm
    ·obtain ⟨y, hy, hyo⟩ := hOnσ e ho2
     have := (hR.evs e y hy hyo).lt k hm; omega
    ·obtain ⟨e', h1, h2, h3⟩ := hfp k h
     refine hR.apart e e' (hOnσ e ho2) h1 (fun ee => ?_) k hm h3
     subst ee
     obtain ⟨y, hy, _⟩ := ho2
     have hy : τe e = some y := hy
     rw [h2] at hy; cases hy
  have hbne : ∀ b, zd4 d (za5 res).length W bx' τb b ≠ none -> σ.bx b ≠ none := fun b hb => by
   by_cases hbW : b ∈ W
   ·exact (hK.bxW b hbW).1
   obtain ⟨cs, hcs⟩ := Option.ne_none_iff_exists'.1 hb
   rw [(hK.bx b cs hbW hcs).1]; simp
  refine ⟨⟨fun j hj e => ?_, fun e x hx hon hh => hno e ⟨x, hx, hon⟩ (List.mem_of_mem_head? hh), hk.1.1, ?_⟩, hno⟩
  ·have hj' := hbne j hj
   rw [q1.β] at e
   rcases hk.2 with h | h | h
   ·exact h.1.1 j hj' e
   ·have := hR.lt hj'; omega
   ·obtain ⟨e', h1, _, h3⟩ := hfp k h
    exact hR.ebx e' j h1 hj' (e ▸ h3)
  ·rw [q1.A0]
   rcases hk.2 with h | h | h
   ·exact h.1.2.2.2
   ·exact (hR.anew k (hn.new h)).1
   ·obtain ⟨e', h1, _, h3⟩ := hfp k h
    exact (hR.ebase e' h1 k h3).1
 have hcr := q3 ⟨τs, zd4 d (za5 res).length W bx' τb, mE d 0 (za5 res ++ bx'.flatten) τe⟩ w' rfl fun t v h => zaf.keep (fun _ _ => rfl) hfree t v h
 obtain ⟨hc1, hc2⟩ := hcr.split_flat (A := fun _ => True) (w' := w') (m := 0) (zao.one_vals p1)
 have hR' := hR.givenB hn hK (fun b hb => by obtain ⟨e, x1, x2, x3⟩ := hfp b hb; exact ⟨e, x1, x2, x3⟩) hbk' q1 (zgb d W bx' bvs' 0 (za5 res).length τb (fun i b hi => by rw [Nat.zero_add]; exact hbs i b hi) hbx' hc2 (by rw [h.2.1]; omega))
 have hBk : Bk n0 w w' := ⟨hbk.os, hbk.tape, hbk.output, hbk.size, fun k hk => hbk.block k ⟨hn k hk, fun hm => by
  obtain ⟨e, h1, _, h3⟩ := hfp k hm
  exact hR.etop e h1 k h3 hk, fun j hj e => by
  obtain ⟨c, _, e2, e3⟩ := hWj j hj
  exact hR.base c (b5 c e2) (by rw [<- e3, <- e]; exact hk)⟩⟩
 refine ⟨g', ?_, hBk, q1.A0, q1.R0⟩
 have hp := hR'.put (some d) (x := znd (mD d 0 res)) (v := zbd us') (zey (zsq d 0 p1 hc1) (zqr d res 0)) (fun i hi => by cases hi; exact hdN d hd)
 rw [hd]
 exact hp
end Go.Proofs.Yteeaofpphmhjdaa
namespace Go.Proofs.Yteeaofpphmhjdaa
set_option linter.unusedSimpArgs false
set_option linter.unusedVariables false
set_option linter.unusedSectionVars false
set_option maxRecDepth 4000
open Go.RowKit
variable {P : Program}
def qa0 : List Nat -> List Nat -> Prop
 | [], _ => True
 | x :: xs, l => noK x l = false /\ qa0 xs l
theorem zxa : ∀ {x : Nat} {l : List Nat}, noK x l = false -> x ∈ l
 | _, [], h => by cases h
 | x, y :: l, h => by
  unfold noK at h
  by_cases e : x = y
  ·simp [e]
  ·rw [if_neg e] at h; exact List.mem_cons_of_mem _ (zxa h)
theorem zdp : ∀ {xs l : List Nat}, qa0 xs l -> ∀ x ∈ xs, x ∈ l
 | [], _, _, x, hx => by simp at hx
 | y :: xs, l, h, x, hx => by
  rcases List.mem_cons.1 hx with rfl | hx
  ·exact zxa h.1
  ·exact zdp h.2 x hx
theorem zd9 {σ : St} : ∀ (L : List Nat) (i : Nat), (i ∈ L -> zdr (σ.lL L) i = σ.sl i) /\ (i ∉ L -> zdr (σ.lL L) i = .one .any)
 | [], i => ⟨fun h => by simp at h, fun _ => rfl⟩
 | j :: L, i => by
  show (_ -> (if i = j then σ.sl j else zdr (σ.lL L) i) = _) /\ (_ -> (if i = j then σ.sl j else zdr (σ.lL L) i) = _)
  by_cases h : i = j
  ·subst h; rw [if_pos rfl]; exact ⟨fun _ => rfl, fun h => by simp at h⟩
  ·rw [if_neg h]
   exact ⟨fun hm => (zd9 L i).1 ((List.mem_cons.1 hm).resolve_left h), fun hm => (zd9 L i).2 fun h' => hm (List.mem_cons_of_mem _ h')⟩
theorem zb0 {α : Type} (f : Nat -> α) : ∀ (L : List Nat) (i : Nat), (i ∈ L -> tbl (L.map fun b => (b, f b)) i = some (f i)) /\ (i ∉ L -> tbl (L.map fun b => (b, f b)) i = none)
 | [], i => ⟨fun h => by simp at h, fun _ => rfl⟩
 | j :: L, i => by
  show (_ -> (if i = j then some (f j) else tbl (L.map fun b => (b, f b)) i) = _) /\ (_ -> (if i = j then some (f j) else tbl (L.map fun b => (b, f b)) i) = _)
  by_cases h : i = j
  ·subst h; rw [if_pos rfl]; exact ⟨fun _ => rfl, fun h => by simp at h⟩
  ·rw [if_neg h]
   exact ⟨fun hm => (zb0 f L i).1 ((List.mem_cons.1 hm).resolve_left h), fun hm => (zb0 f L i).2 fun h' => hm (List.mem_cons_of_mem _ h')⟩
def blank (W : List Nat) (f : Nat -> Option (List C)) : Nat -> Option (List C)
 | b => if noK b W = true then f b else some []
theorem zzo (W : List Nat) (f : Nat -> Option (List C)) (b : Nat) : blank W f b = if noK b W = true then f b else some [] := rfl
def St.wB (σ : St) (W : List Nat) : St := ⟨σ.sl, blank W σ.bx, σ.ev⟩
def St.BW (σ : St) (L W : List Nat) : List Nat := dif W ((σ.wB W).KB L)
def St.EW (σ : St) (L W : List Nat) : List Nat := (σ.wB W).KE L
def St.hW (σ : St) (L W : List Nat) : St := ⟨zdr (σ.lL L), tbl (σ.lB (σ.BW L W)), tbl (σ.lE (σ.EW L W))⟩
section
variable {ks : List Fr} {Q : Exit -> St -> Prop} {σ : St} {ops : Array Oper} {os : List Oper} {ty : TypeId} {ps : String} {af : Array Edge} {d : Nat} {x : Operand} {asx : Array Operand} {ts : Array TypeId} {f : FuncId} {bx bx' : Bxs} {l : List AF} {res : List (Bool × D)}
theorem za1 (L A W : List Nat) (pl : List (Nat × Nat × Nat)) (h : PC P f bx l bx' res) (hWn : W.Nodup) (hWl : W.length = bx'.length) (hw : wkK σ (A ++ L))
  (hk : qa0 (σ.BW L W) (σ.KB (A ++ L)) /\ qa0 W (σ.KB (A ++ L)) /\ qa0 (σ.EW L W) (σ.KE (A ++ L)) /\ okL ⟨zdr (σ.lL L), zd4 d (za5 res).length W bx' (tbl (σ.lB (σ.BW L W))), tbl (σ.lE (σ.EW L W))⟩ (σ.lL L) /\ okB ⟨zdr (σ.lL L), zd4 d (za5 res).length W bx' (tbl (σ.lB (σ.BW L W))), tbl (σ.lE (σ.EW L W))⟩ (σ.lB (σ.BW L W)) /\ okE (σ.lE (σ.EW L W)))
  (hp : zal (zau ((σ.hL (A ++ L)).get P 0 x)) fun p => p.1 = f /\ mtK W l ((σ.hL (A ++ L)).gets P asx ts ++ p.2) fun us => qat (σ.hL (A ++ L)) W bx fun cs => gvA (σ.hL (A ++ L)) (zue (σ.lE (σ.EW L W))) [] pl (us ++ cs) (AF.ds l ++ bxA bx.flatten))
  (hf : mF d 0 (za5 res ++ bx'.flatten) (tbl (σ.lE (σ.EW L W))))
  (k : exo P ops os ks Q ((σ.hW L W).callP d W bx' res)) : exo P ops (⟨some d, .call ⟨.value x, asx, ts⟩, ty, ps, af, none⟩ :: os) ks Q σ := by
 obtain ⟨⟨f', cvs⟩, h1, rfl, h2⟩ := zai hp
 obtain ⟨k1, k2, k3, k4, k5, k6⟩ := hk
 have hK : KeptB W (σ.hL (A ++ L)) ⟨zdr (σ.lL L), zd4 d (za5 res).length W bx' (tbl (σ.lB (σ.BW L W))), tbl (σ.lE (σ.EW L W))⟩ := by
  refine ⟨fun i => ?_, fun b cs hb hcs => ?_, fun b hb => ⟨?_, znu d W bx' _ _ b hWl hb⟩, fun e x he => ?_⟩
  ·by_cases hi : i ∈ L
   ·refine Or.inr ⟨?_, zo7 k4 i⟩
    show zdr (σ.lL L) i = zdr (σ.lL (A ++ L)) i
    rw [(zd9 L i).1 hi, (zd9 (A ++ L) i).1 (List.mem_append_right _ hi)]
   ·exact Or.inl ((zd9 L i).2 hi)
  ·have hcs : zd4 d (za5 res).length W bx' (tbl (σ.lB (σ.BW L W))) b = some cs := hcs
   rw [zkv d W bx' _ _ b hb] at hcs
   by_cases hm : b ∈ σ.BW L W
   ·refine ⟨?_, zod k5 b cs hcs⟩
    have e1 := (zb0 (fun b => (σ.bx b).getD []) (σ.BW L W) b).1 hm
    have e2 := (zb0 (fun b => (σ.bx b).getD []) (σ.KB (A ++ L)) b).1 (zdp k1 b hm)
    have e1 : tbl (σ.lB (σ.BW L W)) b = some ((σ.bx b).getD []) := e1
    rw [e1] at hcs
    cases hcs
    exact e2
   ·have e1 := (zb0 (fun b => (σ.bx b).getD []) (σ.BW L W) b).2 hm
    have e1 : tbl (σ.lB (σ.BW L W)) b = none := e1
    rw [e1] at hcs; cases hcs
  ·have e2 := (zb0 (fun b => (σ.bx b).getD []) (σ.KB (A ++ L)) b).1 (zdp k2 b hb)
   have e2 : (σ.hL (A ++ L)).bx b = some ((σ.bx b).getD []) := e2
   rw [e2]; simp
  ·have he : tbl (σ.lE (σ.EW L W)) e = some x := he
   by_cases hm : e ∈ σ.EW L W
   ·refine ⟨?_, zno k6 e x he⟩
    have e1 := (zb0 (fun e => (σ.ev e).getD ⟨false, 0, [], 0, false⟩) (σ.EW L W) e).1 hm
    have e2 := (zb0 (fun e => (σ.ev e).getD ⟨false, 0, [], 0, false⟩) (σ.KE (A ++ L)) e).1 (zdp k3 e hm)
    have e1 : tbl (σ.lE (σ.EW L W)) e = some ((σ.ev e).getD ⟨false, 0, [], 0, false⟩) := e1
    rw [e1] at he
    cases he
    exact e2
   ·have e1 := (zb0 (fun e => (σ.ev e).getD ⟨false, 0, [], 0, false⟩) (σ.EW L W) e).2 hm
    have e1 : tbl (σ.lE (σ.EW L W)) e = none := e1
    rw [e1] at he; cases he
 refine zco rfl rfl (zad.pre (qeh hw) (zxq (P := P) (o := ⟨some d, .call ⟨.value x, asx, ts⟩, ty, ps, af, none⟩) rfl rfl h h1 hK hWn (ps := pl) ?_ hf)) k
 exact zpj (fun us hu => zmm (fun cs hc => zfq (fun u hu => zhs hu) hc) hu) h2
end
def zrx : Option (Nat × Ev × List (Nat × Ev)) -> List Ky
 | some (e, _, _) => [(2, e)]
 | none => []
def stoW : Option (Nat × Ev × List (Nat × Ev)) -> List (Nat × Ev)
 | some (e, y, cons) => (e, y) :: zsl cons
 | none => []
theorem qch {σ σ1 : St} {t : TypeId} {x y : Operand} (h : ∀ k ∈ zap [x, y] ++ (rK [(σ.get P t y).cells] ++ zrx (znf P σ t x y)), za0 σ σ1 k) {r : Nat × Ev × List (Nat × Ev)} (hr : znf P σ t x y = some r) : znf P σ1 t x y = some r := by
 have e1 : σ1.get P 0 x = σ.get P 0 x := zb3 (l := [x, y]) (fun k hk => h k (by simp [hk])) (by simp) 0
 have e2 : σ1.get P t y = σ.get P t y := zb3 (l := [x, y]) (fun k hk => h k (by simp [hk])) (by simp) t
 have e3 : zpg σ1 (σ.get P t y).cells = zpg σ (σ.get P t y).cells := zkq fun k hk => h k (by simp [rK, hk])
 rw [hr] at h
 rw [<- hr]
 unfold znf at hr ⊢
 rw [e1, e2]
 split at hr
 ·rename_i e g sz i o hx
  obtain ⟨z, hz, hr⟩ := Option.bind_eq_some_iff.1 hr
  obtain ⟨n, hn, hr⟩ := Option.bind_eq_some_iff.1 hr
  split at hr
  ·obtain ⟨q, _, hr⟩ := Option.map_eq_some_iff.1 hr
   subst hr
   have e4 : σ1.ev e = σ.ev e := Eq.symm (h (2, e) (by simp [zrx]))
   simp only [e4, e3]
  ·cases hr
 ·cases hr
section
variable {ks : List Fr} {Q : Exit -> St -> Prop} {σ : St} {ops : Array Oper} {os : List Oper} {L : List (List Ky × List Ky)} {ty : TypeId} {ps : String} {af : Array Edge} {ds : Option Nat} {x y : Operand} {t : TypeId}
theorem qai (r : Option (Nat × Ev × List (Nat × Ev))) : okK (zrx r) = true := by
 cases r with
 | none => rfl
 | some r => rfl
theorem zyn (h : zal (znf P σ t x y) fun r => (r.2.2.map (·.1)).Nodup /\ ∀ p ∈ r.2.2, p.1 ≠ r.1)
  (k : exd P ops os (L ++ [(zap [x, y] ++ (rK [(σ.get P t y).cells] ++ zrx (znf P σ t x y)), dK ds ++ eK (stoW (znf P σ t x y)))]) ks Q ((σ.apdO (znf P σ t x y)).put ds (.one .any))) : exdS P ops ⟨ds, .store t x y, ty, ps, af, none⟩ os L ks Q σ := by
 obtain ⟨⟨e, z, cons⟩, h1, h2, h3⟩ := zai h
 refine ⟨_, _, _, ?_, k⟩
 have hloc : ∀ σ1, (∀ k ∈ zap [x, y] ++ (rK [(σ.get P t y).cells] ++ zrx (znf P σ t x y)), za0 σ σ1 k) -> znf P σ1 t x y = some (e, z, cons) := fun σ1 hs => qch hs h1
 rw [h1]
 show zgu P _ _ (dK ds ++ eK ((e, z) :: zsl cons)) σ ((σ.apd e cons z).put ds _)
 rw [zdy]
 rw [h1] at hloc
 refine zgu.of (o := ⟨ds, _, ty, ps, af, none⟩) (l := (e, z) :: zsl cons) (zbj (zbp _) (zbj (qer _) (qai _))) fun σ1 hs => ?_
 have hh := hloc σ1 hs
 have hs2 := zp0 (σ := σ1) (ty := ty) (ps := ps) (af := af) (ds := ds) (x := x) (y := y) (t := t) (P := P) (by rw [hh]; exact ⟨h2, h3⟩)
 rw [hh] at hs2
 have hs2 : zad P ⟨ds, .store t x y, ty, ps, af, none⟩ σ1 ((σ1.apd e cons z).put ds (.one .any)) := hs2
 rw [zdy] at hs2
 exact hs2
end
attribute [go_sem] zrx stoW AF.ds c1P zrg zhh zca zgm ze3 bxE PB PB0 mtK qat zd4 St.callP qa0 zzo St.wB St.BW St.EW St.hW bxA List.flatten_cons List.flatten_nil
end Go.Proofs.Yteeaofpphmhjdaa
namespace Go.Proofs.Yteeaofpphmhjdaa
set_option linter.unusedSimpArgs false
set_option linter.unusedVariables false
set_option linter.unusedSectionVars false
set_option maxRecDepth 4000
open Go.RowKit
variable {P : Program}
section
variable {ks : List Fr} {Q : Exit -> St -> Prop} {σ : St} {ops : Array Oper} {os : List Oper} {L : List (List Ky × List Ky)} {ty : TypeId} {ps : String} {af : Array Edge} {d : Nat} {x : Operand} {asx : Array Operand} {ts : Array TypeId} {f : FuncId} {bx bx' : Bxs} {l : List AF} {res : List (Bool × D)}
theorem qdy {ds0 res0 : List D} {gR : List Ky} (h : FC P f ds0 res0) (hp : zal (zau (σ.get P 0 x)) fun p => p.1 = f /\ VDs σ (σ.gets P asx ts ++ p.2) ds0 /\ zg1 d 0 (za2 res0) σ.ev)
  (k : exd P ops os (L ++ [(gR ++ (zap (x :: asx.toList) ++ (vsK σ (σ.gets P asx ts ++ qgf (zau (σ.get P 0 x))) ++ eK (owL d 0 (za2 res0)))), dK (some d) ++ eK (owL d 0 (za2 res0)))]) ks Q (σ.callF d res0)) :
  zqk P ops ⟨some d, .call ⟨.value x, asx, ts⟩, ty, ps, af, none⟩ os L gR ks Q σ := by
 obtain ⟨⟨f', cvs⟩, h1, rfl, h2, h3⟩ := zai hp
 rw [h1] at k
 exact qgc _ _ _ _ _ _ rfl (zlg rfl rfl h h1 h2 h3) k
end
end Go.Proofs.Yteeaofpphmhjdaa
namespace Go.Proofs.Yteeaofpphmhjdaa
set_option linter.unusedSimpArgs false
set_option linter.unusedVariables false
set_option linter.unusedSectionVars false
set_option maxRecDepth 4000
open Go.RowKit
variable {P : Program}
def WkX (σ : St) (K : St -> Prop) : Prop := ∀ n0 N g a w, Rel n0 N σ g a w -> LtK n0 w -> ∃ σ' g', K σ' /\ Rel n0 N σ' g' a w /\ g'.A0 = g.A0 /\ g'.R0 = g.R0
end Go.Proofs.Yteeaofpphmhjdaa
namespace Go.Proofs.Yteeaofpphmhjdaa
set_option linter.unusedSimpArgs false
set_option linter.unusedVariables false
set_option linter.unusedSectionVars false
set_option maxRecDepth 4000
open Go.RowKit
variable {P : Program} {N : Nat}
def za4 (P : Program) (N : Nat) (c : Code) (σ : St) (Q : Exit -> St -> Prop) : Prop := ∀ n0 w0 A0 g a w, Rel n0 N σ g a w -> LtK n0 w -> Bk n0 w0 w -> (g.A0, g.R0) = A0 -> c.wp P (qaa n0 N w0 A0 Q) a w
theorem qaa.mono {n0 : Nat -> Prop} {w0 : World} {A0 : (Nat -> Prop) × RP} {Q Q' : Exit -> St -> Prop} (h : ∀ e σ, Q e σ -> Q' e σ) {e : Exit} {a : Act} {w : World} : qaa n0 N w0 A0 Q e a w -> qaa n0 N w0 A0 Q' e a w
 | ⟨σ, g, h1, h2⟩ => ⟨σ, g, h _ _ h1, h2⟩
theorem za4.mono {c : Code} {σ : St} {Q Q' : Exit -> St -> Prop} (h : ∀ e σ, Q e σ -> Q' e σ) (k : za4 P N c σ Q) : za4 P N c σ Q' := fun n0 w0 A0 g a w h1 h2 h3 h4 => wp_mono (k n0 w0 A0 g a w h1 h2 h3 h4) fun _ _ _ => qaa.mono h
theorem za4.ofEx {c : Code} {σ : St} {Q : Exit -> St -> Prop} (hd : za6 N c = true) (h : ex P c [] Q σ) : za4 P N c σ Q := fun _ _ _ g a w h1 h2 h3 h4 => za7 c σ Q hd h g a w h1 h2 h3 h4
def zwl (P : Program) (N : Nat) (c : Code) (Q : Exit -> St -> Prop) (e : Exit) (σ : St) : Prop := match e with | .normal => za4 P N c σ Q | e => Q e σ
theorem zbv (c : Code) (Q : Exit -> St -> Prop) (σ : St) : zwl P N c Q .normal σ = za4 P N c σ Q := rfl
theorem zwz (c : Code) (Q : Exit -> St -> Prop) (σ : St) : zwl P N c Q .ret σ = Q .ret σ := rfl
theorem zsu (c : Code) (Q : Exit -> St -> Prop) (σ : St) (i : Nat) : zwl P N c Q (.exit i) σ = Q (.exit i) σ := rfl
theorem za4.seq {x y : Code} {σ : St} {Q : Exit -> St -> Prop} (h : za4 P N x σ (zwl P N y Q)) : za4 P N (.seq x y) σ Q := fun n0 w0 A0 g a w h1 h2 h3 h4 => by
 refine wp_seq (wp_mono (h n0 w0 A0 g a w h1 h2 h3 h4) fun e a' w' hq => ?_)
 obtain ⟨σ', g', k1, k2, k3, k4, k5⟩ := hq
 cases e with
 | normal => exact k1 n0 w0 A0 g' a' w' k2 k3 k4 k5
 | exit i => exact ⟨σ', g', k1, k2, k3, k4, k5⟩
 | goto l => exact ⟨σ', g', k1, k2, k3, k4, k5⟩
 | ret => exact ⟨σ', g', k1, k2, k3, k4, k5⟩
 | panic ch => exact ⟨σ', g', k1, k2, k3, k4, k5⟩
 | outgrown => exact ⟨σ', g', k1, k2, k3, k4, k5⟩
def qdh : Nat -> Code -> Code
 | 0, .seq x _ => x
 | n + 1, .seq x y => .seq x (qdh n y)
 | _, c => c
def sufC : Nat -> Code -> Code
 | 0, .seq _ y => y
 | n + 1, .seq _ y => sufC n y
 | _, _ => .skip
def okC : Nat -> Code -> Bool
 | 0, .seq _ _ => true
 | n + 1, .seq _ y => okC n y
 | _, _ => false
theorem za4.cut : ∀ (n : Nat) {c : Code} {σ : St} {Q : Exit -> St -> Prop}, okC n c = true -> za6 N (qdh n c) = true -> ex P (qdh n c) [] (zwl P N (sufC n c) Q) σ -> za4 P N c σ Q
 | 0, .seq x y, σ, Q, _, hd, h => za4.seq (za4.ofEx hd h)
 | n + 1, .seq x y, σ, Q, ho, hd, h => by
  simp only [qdh, za6, Bool.and_eq_true] at hd
  refine za4.seq (za4.mono (fun e σ' k => ?_) (za4.ofEx (Q := _) hd.1 h))
  cases e with
  | normal => exact za4.cut n ho hd.2 k
  | exit i => exact k
  | goto l => exact k
  | ret => exact k
  | panic ch => exact k
  | outgrown => exact k
def blkQ (i : Nat) (Q : Exit -> St -> Prop) (e : Exit) (σ : St) : Prop := match e with | .exit j => if j = i then Q .normal σ else Q (.exit j) σ | e => Q e σ
theorem zo0 (i : Nat) (Q : Exit -> St -> Prop) (σ : St) : blkQ i Q .normal σ = Q .normal σ := rfl
theorem qev {f : FuncId} {fn : Func} {c : Code} {args : List (Bool × D)} {res : List D} (hc : zaz P f) (hf : P.funcs[f]? = some fn) (hb : fn.body = some c) (hN : args.length <= fn.ntmps) (hs : za8 args)
  (h : ∀ (w : World) (vs : List Value) (fp tp : List Nat), zao w (fun b => b < w.heap.size /\ b ∉ fp) args vs fp tp -> ∀ (g : Gh) (a : Act), Rel (fun b => b < w.heap.size /\ b ∉ fp) fn.ntmps (zd3 args) g a w -> (a.tmps = (⟨vs⟩ : Array Value) ++ Array.replicate (fn.ntmps - vs.length) undef /\ (g.A0, g.R0) = ((fun _ => True), RP.of fun b => b ∈ fp \/ w.heap.size <= b)) →
   ∃ σ0, za4 P fn.ntmps c σ0 (PS P fn.results.toList res) /\ Rel (fun b => b < w.heap.size /\ b ∉ fp) fn.ntmps σ0 g a w) : GC P f args res := by
 refine ⟨hc, fun w vs fp tp hv hn => ?_⟩
 refine calls_of_wp hf hb ?_
 have hv' : zao w (fun b => b < w.heap.size /\ True /\ b ∉ fp) args vs fp tp := zao.keepA (fun b hb => ⟨hb.1, trivial, hb.2⟩) hv
 obtain ⟨g, hg, hR⟩ := Rel.start (A0 := fun _ => True) (R0 := RP.of fun b => b ∈ fp \/ w.heap.size <= b) (N := fn.ntmps) hv' hn hs hN (fun _ _ => trivial) (fun b hb => ⟨trivial, Or.inl hb⟩) (fun b hb => ⟨trivial, by
  by_cases hlt : b < w.heap.size
  ·exact Or.inl (Classical.byContradiction fun h => hb ⟨hlt, h⟩)
  ·exact Or.inr (by omega)⟩)
 obtain ⟨σ0, hex, hR0⟩ := h w vs fp tp hv g _ hR ⟨rfl, hg⟩
 refine wp_mono (hex _ w _ g _ w hR0 (fun k hk => hk.1) (Bk.refl _ _) hg) fun e a' w' hq => ?_
 obtain ⟨σ', g', h1, h2, h3, h4, h5⟩ := hq
 have fin : ∀ {us : List Value} {v : Value}, (results fn a'.tmps).run P w' = .ok v w' -> v = zbd us -> (∃ fp' tp', GDs w' res us fp' tp' /\ fp'.Nodup /\ ∀ b ∈ fp', ∃ e, σ'.On e /\ b ∈ g'.φ e) -> ∃ v, (results fn a'.tmps).run P w' = .ok v w' /\ ∃ us fp' tp', Ending.returned v = .returned (zbd us) /\ GDs w' res us fp' tp' /\ fp'.Nodup /\ (∀ b ∈ fp', b ∈ fp \/ w.heap.size <= b) /\ Bk (fun k => k < w.heap.size /\ k ∉ fp) w w' := fun {us v} r1 rv ⟨fp', tp', o1, o2, o3⟩ => by
  refine ⟨_, r1, us, fp', tp', by rw [rv], o1, o2, fun b hb => ?_, h4⟩
  obtain ⟨e, l, m⟩ := o3 b hb
  have := (h2.ebase e l b m).2
  rw [(Prod.mk.inj h5).2] at this
  exact this
 have key : (zal (zbf P σ' fn.results.toList) (fun vs => zqv σ' [] vs res) \/ PX P fn.results.toList res σ') -> ∃ v, (results fn a'.tmps).run P w' = .ok v w' /\ ∃ us fp' tp', Ending.returned v = .returned (zbd us) /\ GDs w' res us fp' tp' /\ fp'.Nodup /\ (∀ b ∈ fp', b ∈ fp \/ w.heap.size <= b) /\ Bk (fun k => k < w.heap.size /\ k ∉ fp) w w' := fun hk => by
  rcases hk with hk | ⟨pl, hk⟩
  ·obtain ⟨vs, hvs, hk⟩ := zai hk
   obtain ⟨us, r1, r2⟩ := zba h2 fn hvs
   obtain ⟨used, fp', tp', o1, o2⟩ := zcb h2 hk r2
   exact fin r1 rfl ⟨fp', tp', o1, o2.1, fun b hb => by obtain ⟨e, _, _, l, m⟩ := o2.2.1 b hb; exact ⟨e, l, m⟩⟩
  ·obtain ⟨vs, hvs, hk⟩ := zai hk
   obtain ⟨us, r1, r2⟩ := zba h2 fn hvs
   exact fin r1 rfl (zy5 h2 hk r2)
 cases e with
 | normal => exact ⟨h2.defers, key h1⟩
 | ret => exact ⟨h2.defers, key h1⟩
 | exit _ => exact h1.elim
 | goto _ => exact h1.elim
 | panic _ => exact h1.elim
 | outgrown => exact h1.elim
theorem zot {f : FuncId} {fn : Func} {c : Code} {args res : List D} (hc : zaz P f) (hf : P.funcs[f]? = some fn) (hb : fn.body = some c) (hN : (rd args).length <= fn.ntmps)
  (h : za4 P fn.ntmps c (zft args) (PS P fn.results.toList res)) : FC P f args res := by
 refine qev hc hf hb hN (zci args) fun w vs fp tp hv g a hR hg => ?_
 obtain ⟨hr, rfl, rfl⟩ := zbq hv
 exact ⟨zft args, h, zhm hr hR hg⟩
structure RelM (n0 : Nat -> Prop) (N : Nat) (σ : St) (ag : Bool) (rows : List (List T)) (b : Nat) (A0 : (Nat -> Prop) × RP) (g : Gh) (a : Act) (w : World) : Prop where
 rel : ∃ (n1 : Nat -> Prop) (es : Array MapEntry) (clk : Nat), (∀ x, n0 x -> n1 x) /\ n1 b /\ ¬ g.A0 b /\ Rel n1 N σ g a w /\ LtK n1 w /\ w.heap[b]? = some (.map es clk) /\ zax w (fun x => n1 x /\ g.A0 x) ag rows es.toList
 nb : ¬ n0 b
 sub : ∀ x, g.A0 x -> A0.1 x
 r0 : g.R0 = A0.2
 new : ∀ x, ¬ n0 x -> A0.1 x /\ A0.2 x
def zlz (n0 : Nat -> Prop) (N : Nat) (w0 : World) (A0 : (Nat -> Prop) × RP) (ag : Bool) (b : Nat) (Q : Exit -> St -> List (List T) -> Prop) (e : Exit) (a : Act) (w : World) : Prop := ∃ σ rows g, Q e σ rows /\ RelM n0 N σ ag rows b A0 g a w /\ LtK n0 w /\ Bk n0 w0 w
def zb6 (P : Program) (N : Nat) (ag : Bool) (b : Nat) (c : Code) (σ : St) (rows : List (List T)) (Q : Exit -> St -> List (List T) -> Prop) : Prop := ∀ n0 w0 A0 g a w, RelM n0 N σ ag rows b A0 g a w -> LtK n0 w -> Bk n0 w0 w -> c.wp P (zlz n0 N w0 A0 ag b Q) a w
section
variable {ag : Bool} {b : Nat}
theorem zlz.mono {n0 : Nat -> Prop} {w0 : World} {A0 : (Nat -> Prop) × RP} {Q Q' : Exit -> St -> List (List T) -> Prop} (h : ∀ e σ r, Q e σ r -> Q' e σ r) {e : Exit} {a : Act} {w : World} : zlz n0 N w0 A0 ag b Q e a w -> zlz n0 N w0 A0 ag b Q' e a w
 | ⟨σ, r, g, h1, h2⟩ => ⟨σ, r, g, h _ _ _ h1, h2⟩
theorem zb6.mono {c : Code} {σ : St} {rows : List (List T)} {Q Q' : Exit -> St -> List (List T) -> Prop} (h : ∀ e σ r, Q e σ r -> Q' e σ r) (k : zb6 P N ag b c σ rows Q) : zb6 P N ag b c σ rows Q' := fun n0 w0 A0 g a w h1 h2 h3 => wp_mono (k n0 w0 A0 g a w h1 h2 h3) fun _ _ _ => zlz.mono h
theorem RelM.keep {n0 n1 : Nat -> Prop} {σ σ' : St} {rows : List (List T)} {A0 : (Nat -> Prop) × RP} {g g' : Gh} {a a' : Act} {w w' : World} {es : Array MapEntry} {clk : Nat} (h : RelM n0 N σ ag rows b A0 g a w) (hn : ∀ x, n0 x -> n1 x) (hb : n1 b) (hA : ¬ g.A0 b) (he : w.heap[b]? = some (.map es clk)) (hr : zax w (fun x => n1 x /\ g.A0 x) ag rows es.toList)
  (h2 : Rel n1 N σ' g' a' w') (h3 : LtK n1 w') (h4 : Bk n1 w w') (h5 : (g'.A0, g'.R0) = (g.A0, g.R0)) : RelM n0 N σ' ag rows b A0 g' a' w' := by
 have e1 : g'.A0 = g.A0 := (Prod.mk.inj h5).1
 have e2 : g'.R0 = g.R0 := (Prod.mk.inj h5).2
 exact ⟨⟨n1, es, clk, hn, hb, by rw [e1]; exact hA, h2, h3, (h4.block b hb).trans he, zax.keep (fun x hx => h4.block x hx.1) (fun x hx => ⟨hx.1, by rw [e1]; exact hx.2⟩) ag rows _ hr⟩, h.nb, by rw [e1]; exact h.sub, by rw [e2]; exact h.r0, h.new⟩
theorem zyb {n0 n1 : Nat -> Prop} {w w' : World} (hn : ∀ x, n0 x -> n1 x) (h : Bk n1 w w') : Bk n0 w w' := ⟨h.os, h.tape, h.output, h.size, fun k hk => h.block k (hn k hk)⟩
theorem zb6.ofEx {c : Code} {σ : St} {rows : List (List T)} {Q : Exit -> St -> List (List T) -> Prop} (hd : za6 N c = true) (h : ex P c [] (fun e σ' => Q e σ' rows) σ) : zb6 P N ag b c σ rows Q := fun n0 w0 A0 g a w hM h2 h3 => by
 obtain ⟨n1, es, clk, k1, k2, k3, k4, k5, k6, k7⟩ := hM.rel
 refine wp_mono (za7 (w0 := w) (A0 := (g.A0, g.R0)) c σ _ hd h g a w k4 k5 (Bk.refl _ _) rfl) fun e a' w' hq => ?_
 obtain ⟨σ', g', h1, m2, m3, m4, m5⟩ := hq
 exact ⟨σ', rows, g', h1, hM.keep k1 k2 k3 k6 k7 m2 m3 m4 m5, h2.mono m4.size, h3.trans (zyb k1 m4)⟩
def zyq (P : Program) (N : Nat) (ag : Bool) (b : Nat) (c : Code) (Q : Exit -> St -> List (List T) -> Prop) (e : Exit) (σ : St) (rows : List (List T)) : Prop := match e with | .normal => zb6 P N ag b c σ rows Q | e => Q e σ rows
theorem zls (c : Code) (Q : Exit -> St -> List (List T) -> Prop) (σ : St) (rows : List (List T)) : zyq P N ag b c Q .normal σ rows = zb6 P N ag b c σ rows Q := rfl
theorem zsm (c : Code) (Q : Exit -> St -> List (List T) -> Prop) (σ : St) (rows : List (List T)) (i : Nat) : zyq P N ag b c Q (.exit i) σ rows = Q (.exit i) σ rows := rfl
theorem zb6.seq {x y : Code} {σ : St} {rows : List (List T)} {Q : Exit -> St -> List (List T) -> Prop} (h : zb6 P N ag b x σ rows (zyq P N ag b y Q)) : zb6 P N ag b (.seq x y) σ rows Q := fun n0 w0 A0 g a w h1 h2 h3 => by
 refine wp_seq (wp_mono (h n0 w0 A0 g a w h1 h2 h3) fun e a' w' hq => ?_)
 obtain ⟨σ', r', g', k1, k2, k3, k4⟩ := hq
 cases e with
 | normal => exact k1 n0 w0 A0 g' a' w' k2 k3 k4
 | exit i => exact ⟨σ', r', g', k1, k2, k3, k4⟩
 | goto l => exact ⟨σ', r', g', k1, k2, k3, k4⟩
 | ret => exact ⟨σ', r', g', k1, k2, k3, k4⟩
 | panic ch => exact ⟨σ', r', g', k1, k2, k3, k4⟩
 | outgrown => exact ⟨σ', r', g', k1, k2, k3, k4⟩
theorem zb6.cut : ∀ (n : Nat) {c : Code} {σ : St} {rows : List (List T)} {Q : Exit -> St -> List (List T) -> Prop}, okC n c = true -> za6 N (qdh n c) = true -> ex P (qdh n c) [] (fun e σ' => zyq P N ag b (sufC n c) Q e σ' rows) σ -> zb6 P N ag b c σ rows Q
 | 0, .seq x y, σ, rows, Q, _, hd, h => zb6.seq (zb6.ofEx hd h)
 | n + 1, .seq x y, σ, rows, Q, ho, hd, h => by
  simp only [qdh, za6, Bool.and_eq_true] at hd
  refine zb6.seq (zb6.mono (Q := fun e σ' r => r = rows /\ zsb P [.seq (qdh n y)] (fun e σ' => zyq P N ag b (sufC n y) Q e σ' rows) e σ') (fun e σ' r k => ?_) (zb6.ofEx hd.1 (zb1 (fun e σ' k => ⟨rfl, k⟩) h)))
  obtain ⟨rfl, k⟩ := k
  cases e with
  | normal => exact zb6.cut n ho hd.2 k
  | exit i => exact k
  | goto l => exact k
  | ret => exact k
  | panic ch => exact k
  | outgrown => exact k
def blkM (i : Nat) (Q : Exit -> St -> List (List T) -> Prop) (e : Exit) (σ : St) (rows : List (List T)) : Prop := match e with | .exit j => if j = i then Q .normal σ rows else Q (.exit j) σ rows | e => Q e σ rows
theorem zoa (i : Nat) (Q : Exit -> St -> List (List T) -> Prop) (σ : St) (rows : List (List T)) : blkM i Q .normal σ rows = Q .normal σ rows := rfl
theorem zm3 (i j : Nat) (Q : Exit -> St -> List (List T) -> Prop) (σ : St) (rows : List (List T)) : blkM i Q (.exit j) σ rows = if j = i then Q .normal σ rows else Q (.exit j) σ rows := rfl
theorem zb6.block {i : Nat} {c : Code} {σ : St} {rows : List (List T)} {Q : Exit -> St -> List (List T) -> Prop} (h : zb6 P N ag b c σ rows (blkM i Q)) : zb6 P N ag b (.block i c) σ rows Q := fun n0 w0 A0 g a w h1 h2 h3 => by
 refine wp_block (wp_mono (h n0 w0 A0 g a w h1 h2 h3) fun e a' w' hq => ?_)
 obtain ⟨σ', r', g', k1, k2, k3, k4⟩ := hq
 cases e with
 | exit j =>
  simp only [Exit.inBlock]
  simp only [zm3] at k1
  split at k1
  ·rw [if_pos ‹_›]; exact ⟨σ', r', g', k1, k2, k3, k4⟩
  ·rw [if_neg ‹_›]; exact ⟨σ', r', g', k1, k2, k3, k4⟩
 | normal => exact ⟨σ', r', g', k1, k2, k3, k4⟩
 | goto l => exact ⟨σ', r', g', k1, k2, k3, k4⟩
 | ret => exact ⟨σ', r', g', k1, k2, k3, k4⟩
 | panic ch => exact ⟨σ', r', g', k1, k2, k3, k4⟩
 | outgrown => exact ⟨σ', r', g', k1, k2, k3, k4⟩
theorem RelM.wk {n0 : Nat -> Prop} {σ σ' : St} {rows : List (List T)} {A0 : (Nat -> Prop) × RP} {g : Gh} {a : Act} {w : World} (h : RelM n0 N σ ag rows b A0 g a w) (k : Wk σ σ') : ∃ g', RelM n0 N σ' ag rows b A0 g' a w := by
 obtain ⟨n1, es, clk, k1, k2, k3, k4, k5, k6, k7⟩ := h.rel
 obtain ⟨g', r1, r2, r3⟩ := k _ _ _ _ _ k4
 exact ⟨g', h.keep k1 k2 k3 k6 k7 r1 k5 (Bk.refl _ _) (by rw [r2, r3])⟩
def lpM {X : Type} (I : X -> St) (J : X -> List (List T)) (Pr : X -> Prop) (μ : X -> Nat) (x : X) (Q : Exit -> St -> List (List T) -> Prop) (e : Exit) (σ : St) (rows : List (List T)) : Prop := match e with | .normal => ∃ x', Pr x' /\ μ x' < μ x /\ J x' = rows /\ Wk σ (I x') | e => Q e σ rows
section
variable {X : Type} (I : X -> St) (J : X -> List (List T)) (Pr : X -> Prop) (μ : X -> Nat) (x : X)
theorem zsf (Q : Exit -> St -> List (List T) -> Prop) (σ : St) (rows : List (List T)) : lpM I J Pr μ x Q .normal σ rows = ∃ x', Pr x' /\ μ x' < μ x /\ J x' = rows /\ Wk σ (I x') := rfl
theorem qct (Q : Exit -> St -> List (List T) -> Prop) (σ : St) (rows : List (List T)) (i : Nat) : lpM I J Pr μ x Q (.exit i) σ rows = Q (.exit i) σ rows := rfl
theorem zb6.loop {c : Code} {σ : St} {rows : List (List T)} {Q : Exit -> St -> List (List T) -> Prop} (x0 : X) (h0 : Wk σ (I x0)) (j0 : J x0 = rows) (p0 : Pr x0) (hr : ∀ x, Pr x -> zb6 P N ag b c (I x) (J x) (lpM I J Pr μ x Q)) : zb6 P N ag b (.loop c) σ rows Q := fun n0 w0 A0 g a w h1 h2 h3 => by
 subst j0
 refine zqz (fun n a w => ∃ x g1, Pr x /\ μ x = n /\ RelM n0 N (I x) ag (J x) b A0 g1 a w /\ LtK n0 w /\ Bk n0 w0 w) ?_ (n := μ x0) (by obtain ⟨g0, r1⟩ := h1.wk h0; exact ⟨x0, g0, p0, rfl, r1, h2, h3⟩)
 rintro n a w ⟨x, g1, px, rfl, k2, k3, k4⟩
 refine wp_mono (hr x px n0 w0 A0 g1 a w k2 k3 k4) fun e a' w' hq => ?_
 obtain ⟨σ', r', g', h1, h2, h3, h4⟩ := hq
 cases e with
 | normal =>
  obtain ⟨x', p', hlt, rfl, hwk⟩ := h1
  obtain ⟨g2, r1⟩ := h2.wk hwk
  exact ⟨μ x', hlt, x', g2, p', rfl, r1, h3, h4⟩
 | exit i => exact ⟨σ', r', g', h1, h2, h3, h4⟩
 | goto l => exact ⟨σ', r', g', h1, h2, h3, h4⟩
 | ret => exact ⟨σ', r', g', h1, h2, h3, h4⟩
 | panic ch => exact ⟨σ', r', g', h1, h2, h3, h4⟩
 | outgrown => exact ⟨σ', r', g', h1, h2, h3, h4⟩
end
end
attribute [go_sem] zbv zwz zsu zo0 qdh sufC zls zsm zoa zm3 zsf qct
end Go.Proofs.Yteeaofpphmhjdaa
namespace Go.Proofs.Yteeaofpphmhjdaa
set_option linter.unusedSimpArgs false
set_option linter.unusedVariables false
set_option linter.unusedSectionVars false
set_option maxRecDepth 4000
open Go.RowKit
variable {P : Program} {N : Nat}
theorem zmh {mt kt et : TypeId} {d : TypeDesc} (hm : P.underlying mt = some (.map kt et)) (hd : P.underlying kt = some d) {w : World} {r : Nat} {es : Array MapEntry} {clk : Nat} {key val : Value} (hb : w.heap[r]? = some (.map es clk)) (hk : Go.MapKept.IsKey d key) (hf : Instr.findNow d key es.toList 0 = some none) :
  (Instr.mapUpdate mt (.map (some r)) key val).run P w = .ok () { w with heap := w.heap.setIfInBounds r (.map (es.push { key, val, born := clk }) (clk + 1)) } := by
 simp [Instr.mapUpdate, run_underlying hm, Go.MapKept.run_getObj_map hb, Go.MapKept.run_checkKey hd hk, Go.MapKept.run_findKey hd hf, Go.MapKept.run_setObj_map _ hb, Result.andThen]
theorem zm0 {mt : TypeId} {w : World} : (Instr.makeMap mt none).run P w = .ok (.map (some w.heap.size)) (w.alloc (.map #[] 0)) := by
 simp [Instr.makeMap, Result.andThen]
theorem zk7 {ops : Array Oper} {K : St -> Prop} {n0 : Nat -> Prop} {w0 : World} {A0 : (Nat -> Prop) × RP} {R : Exit -> Act -> World -> Prop} {rest : List Nat} (hg : ∀ o ∈ ops.toList, o.guard = none) (hR : ∀ a w σ g, K σ -> Rel n0 N σ g a w -> LtK n0 w -> Bk n0 w0 w -> (g.A0, g.R0) = A0 -> wpOps P ops R rest a w) :
  ∀ (k i : Nat), i + k <= ops.size -> (∀ o ∈ ops.toList, ∀ d, o.dst = some d -> d < N) -> ∀ (σ : St) (g : Gh) (a : Act) (w : World), za9 P ops ((ops.toList.drop i).take k) σ K -> Rel n0 N σ g a w -> LtK n0 w -> Bk n0 w0 w -> (g.A0, g.R0) = A0 -> wpOps P ops R (List.range' i k ++ rest) a w
 | 0, i, hi, hd, σ, g, a, w, h, hr, hn, hb, hA => by
  rw [List.take_zero] at h
  exact hR a w σ g h hr hn hb hA
 | k + 1, i, hi, hd, σ, g, a, w, h, hr, hn, hb, hA => by
  have hlt : i < ops.size := by omega
  have hcons : ops.toList.drop i = ops[i] :: ops.toList.drop (i + 1) := by
   rw [List.drop_eq_getElem_cons (by simpa using hlt)]; rfl
  rw [hcons, List.take_succ_cons] at h
  rw [show List.range' i (k + 1) ++ rest = i :: (List.range' (i + 1) k ++ rest) from rfl, wpOps_cons]
  have ho : ops[i]? = some ops[i] := by simp [hlt]
  have hdi : ∀ d, ops[i].dst = some d -> d < N := hd _ (by simp)
  have hgi : ops[i].guard = none := hg _ (by simp)
  unfold wpOp
  simp only [ho]
  unfold za9 exG at h
  rw [hgi] at h
  have : Region.wanted ops[i] (yielded ops a.tmps) = true := by simp [Region.wanted, hgi]
  rw [if_pos this]
  exact Or.inl (zdi (fun a' w' ⟨σ', g', h0, k1, k2, k3, k4⟩ => zk7 hg hR k (i + 1) (by omega) hd σ' g' a' w' h0 k1 (hn.mono k2.size) (hb.trans k2) (by rw [k3, k4]; exact hA)) (zdn h n0 N g a w hr hn hdi))
def mvC : C -> Option T
 | .rn t => some t
 | .t t => if t.flat = true then some t else none
 | _ => none
def mvCs : List C -> Option (List T)
 | [] => some []
 | c :: cs => (mvC c).bind fun t => (mvCs cs).map fun ts => t :: ts
def mvV (ag : Bool) : V -> Option (List T)
 | .agg cs => if ag = true then mvCs cs else none
 | .one c => if ag = true then none else (mvC c).map fun t => [t]
 | _ => none
theorem zvw {σ : St} {g : Gh} {w : World} {A : Nat -> Prop} (hA : ∀ b, zby σ g w b -> A b) {c : C} {t : T} {v : Value} (h : mvC c = some t) (hv : CR σ g w c v) : zaf w A t v := by
 cases c <;> simp only [mvC, Option.some.injEq, reduceCtorEq] at h
 ·split at h
  ·rename_i hf
   obtain rfl := Option.some.inj h
   exact zcg hf hv
  ·cases h
 ·subst h
  exact zaf.keep (fun _ _ => rfl) hA _ _ hv
theorem zpw {σ : St} {g : Gh} {w : World} {A : Nat -> Prop} (hA : ∀ b, zby σ g w b -> A b) : ∀ {cs : List C} {ts : List T} {vs : List Value}, mvCs cs = some ts -> CRs σ g w cs vs -> zab w A ts vs
 | [], ts, vs, h, hv => by
  obtain rfl := Option.some.inj h
  unfold zab
  exact hv
 | c :: cs, ts, vs, h, hv => by
  obtain ⟨t, h1, h⟩ := Option.bind_eq_some_iff.1 h
  obtain ⟨ts', h2, rfl⟩ := Option.map_eq_some_iff.1 h
  obtain ⟨v, vs', rfl, k1, k2⟩ := hv
  unfold zab
  exact ⟨v, vs', rfl, zvw hA h1 k1, zpw hA h2 k2⟩
theorem qfv {σ : St} {g : Gh} {w : World} {A : Nat -> Prop} (hA : ∀ b, zby σ g w b -> A b) {ag : Bool} {x : V} {ts : List T} {v : Value} (h : mvV ag x = some ts) (hv : VR σ g w x v) : ∃ us, (if ag = true then v = .agg ⟨us⟩ else us = [v]) /\ zab w A ts us := by
 cases x with
 | agg cs =>
  simp only [mvV] at h
  split at h
  ·rename_i hag
   obtain ⟨us, rfl, hc⟩ := hv
   exact ⟨us, by rw [if_pos hag], zpw hA h hc⟩
  ·cases h
 | one c =>
  simp only [mvV] at h
  split at h
  ·cases h
  ·rename_i hag
   obtain ⟨t, h1, rfl⟩ := Option.map_eq_some_iff.1 h
   refine ⟨[v], by rw [if_neg hag], ?_⟩
   unfold zab
   refine ⟨v, [], rfl, zvw hA h1 hv, ?_⟩
   unfold zab; rfl
 | tup _ => cases h
theorem zax.push {w : World} {A : Nat -> Prop} {ag : Bool} {r : List T} {e : MapEntry} (he : ∃ us, (if ag = true then e.val = .agg ⟨us⟩ else us = [e.val]) /\ zab w A r (e.key :: us)) : ∀ {rows : List (List T)} {es : List MapEntry}, zax w A ag rows es -> zax w A ag (rows ++ [r]) (es ++ [e])
 | [], es, h => by
  unfold zax at h
  subst h
  obtain ⟨us, h1, h2⟩ := he
  show zax w A ag [r] [e]
  unfold zax
  refine ⟨e, [], us, rfl, h1, h2, ?_⟩
  unfold zax; rfl
 | _ :: rows, es, h => by
  unfold zax at h
  obtain ⟨e', es', us, rfl, h1, h2, h3⟩ := h
  show zax w A ag (_ :: (rows ++ [r])) (e' :: (es' ++ [e]))
  unfold zax
  exact ⟨e', _, us, rfl, h1, h2, zax.push he h3⟩
def updM (P : Program) (ag : Bool) (b : Nat) (mt : TypeId) (x k v : Operand) (σ : St) (rows : List (List T)) (K : St -> List (List T) -> Prop) : Prop := match σ.get P 0 x, σ.get P 0 k, qar P mt, mvV ag (σ.get P 0 v) with
 | .one (.cv (.map (some b'))), .one (.t kT), some (d, _), some vts => b' = b /\ zpp d kT = true /\ zbz kT rows = some none /\ K σ (rows ++ [kT :: vts])
 | _, _, _, _ => False
theorem qe3 {ag : Bool} {b : Nat} {mt : TypeId} {x k v : Operand} {σ : St} {rows : List (List T)} {K : St -> List (List T) -> Prop} (h : updM P ag b mt x k v σ rows K) : ∃ kT d et vts, σ.get P 0 x = .one (.cv (.map (some b))) /\ σ.get P 0 k = .one (.t kT) /\ qar P mt = some (d, et) /\ mvV ag (σ.get P 0 v) = some vts /\ zpp d kT = true /\ zbz kT rows = some none /\ K σ (rows ++ [kT :: vts]) := by
 unfold updM at h
 split at h
 ·rename_i b' kT d et vts h1 h2 h3 h4
  obtain ⟨rfl, h5, h6, h7⟩ := h
  exact ⟨kT, d, et, vts, h1, h2, h3, h4, h5, h6, h7⟩
 ·exact h.elim
theorem zlc {d : TypeDesc} {k : T} (h : zpp d k = true) : k.flat = true := by
 cases d <;> cases k <;> simp [zpp] at h <;> rfl
section
variable {ag : Bool} {b : Nat}
theorem zb6.upd {i : Nat} {ops : Array Oper} {mt : TypeId} {x k v : Operand} {ty : TypeId} {ps : String} {af : Array Edge} {σ : St} {rows : List (List T)} {Q : Exit -> St -> List (List T) -> Prop} (m : Nat) (hz : ops.size = m + 1) (hl : ops[m]? = some ⟨none, .mapUpdate mt x k v, ty, ps, af, none⟩) (hg : (ops.toList.all fun o => o.guard.isNone) = true) (hd : za6 N (.region i ops false) = true)
  (h : exo P ops (ops.toList.take m) [] (fun _ σ' => updM P ag b mt x k v σ' rows (Q .normal)) σ) : zb6 P N ag b (.region i ops false) σ rows Q := fun n0 w0 A0 g a w hM h2 h3 => by
 obtain ⟨n1, es, clk, k1, k2, k3, k4, k5, k6, k7⟩ := hM.rel
 refine wp_region ?_
 have hd' : ∀ o ∈ ops.toList, ∀ d, o.dst = some d -> d < N := fun o ho d hdd => by
  simp only [za6, Array.all_eq_true_iff_forall_mem] at hd
  have := hd o (by simpa using ho)
  rw [hdd] at this
  simpa using this
 have hg' : ∀ o ∈ ops.toList, o.guard = none := fun o ho => by
  have := List.all_eq_true.1 hg o ho
  simpa using this
 rw [hz, List.range_eq_range', show List.range' 0 (m + 1) = List.range' 0 m ++ [m] by rw [List.range'_1_concat, Nat.zero_add]]
 refine zk7 (w0 := w) (A0 := (g.A0, g.R0)) hg' ?_ m 0 (by omega) hd' σ g a w (by simpa [exo, zsb] using h) k4 k5 (Bk.refl _ _) rfl
 intro a' w' σ' g' hK m2 m3 m4 m5
 obtain ⟨kT, d, et, vts, c1, c2, c3, c4, c5, c6, c7⟩ := qe3 hK
 obtain ⟨kt, t1, t2⟩ := zwa c3
 have hM' := hM.keep k1 k2 k3 k6 k7 m2 m3 m4 m5
 have e1 : g'.A0 = g.A0 := (Prod.mk.inj m5).1
 have hA' : ¬ g'.A0 b := by rw [e1]; exact k3
 have he : w'.heap[b]? = some (.map es clk) := (m4.block b k2).trans k6
 have hr : zax w' (fun x => n1 x /\ g'.A0 x) ag rows es.toList := zax.keep (fun x hx => m4.block x hx.1) (fun x hx => ⟨hx.1, by rw [e1]; exact hx.2⟩) ag rows _ k7
 have v1 := m2.get P 0 x
 have v2 := m2.get P 0 k
 have v3 := m2.get P 0 v
 rw [c1] at v1
 rw [c2] at v2
 have v1 : a'.eval x = .map (some b) := v1
 have v2 : zaf w' (Fix σ' g' w') kT (a'.eval k) := v2
 have hfn := ze0 c5 (zcg (A' := fun x => n1 x /\ g'.A0 x) (w' := w') (zlc c5) v2) ag rows es.toList 0 none hr c6
 have hkey := zqq c5 v2
 have hrun := zmh t1 t2 (val := a'.eval v) he hkey hfn
 rw [wpOps_cons]
 unfold wpOp
 simp only [hl]
 rw [if_pos (by simp [Region.wanted])]
 refine Or.inl ?_
 unfold Oper.wp
 have hex : (execOp a'.eval ⟨none, .mapUpdate mt x k v, ty, ps, af, none⟩).run P w' = .ok .skip { w' with heap := w'.heap.setIfInBounds b (.map (es.push { key := a'.eval k, val := a'.eval v, born := clk }) (clk + 1)) } := by
  unfold execOp
  simp only [v1, Sem.run_bind, hrun, Result.andThen_ok, Sem.run_pure]
 rw [hex]
 have hh := (Go.MapKept.heap_set (o' := .map (es.push { key := a'.eval k, val := a'.eval v, born := clk }) (clk + 1)) he)
 have hother : ∀ x, x ≠ b -> ({ w' with heap := w'.heap.setIfInBounds b (.map (es.push { key := a'.eval k, val := a'.eval v, born := clk }) (clk + 1)) } : World).heap[x]? = w'.heap[x]? := hh.2
 have hsize : ({ w' with heap := w'.heap.setIfInBounds b (.map (es.push { key := a'.eval k, val := a'.eval v, born := clk }) (clk + 1)) } : World).heap.size = w'.heap.size := by simp
 have hself : ({ w' with heap := w'.heap.setIfInBounds b (.map (es.push { key := a'.eval k, val := a'.eval v, born := clk }) (clk + 1)) } : World).heap[b]? = _ := hh.1
 have hbk : Bk n0 w' { w' with heap := w'.heap.setIfInBounds b (.map (es.push { key := a'.eval k, val := a'.eval v, born := clk }) (clk + 1)) } := ⟨rfl, rfl, rfl, by rw [hsize]; exact Nat.le_refl _, fun j hj => hother j fun e => hM.nb (e ▸ hj)⟩
 have hfree : ∀ y, zby σ' g' w' y -> y < w'.heap.size /\ g'.A0 y := fun y hy => ⟨hy.1.2.2.1, hy.1.2.2.2⟩
 generalize hw : ({ w' with heap := w'.heap.setIfInBounds b (.map (es.push { key := a'.eval k, val := a'.eval v, born := clk }) (clk + 1)) } : World) = w2 at hother hsize hself hbk ⊢
 have hR2 : Rel (fun y => n1 y \/ zby σ' g' w' y) N σ' g' a' w2 := by
  refine m2.turn (n1 := fun y => n1 y \/ zby σ' g' w' y) (A1 := g'.A0) (w' := w2) (fun y hf => ⟨hf.2.2.2, hother y fun e => hA' (e ▸ hf.2.2.2)⟩) (by rw [hsize]; exact Nat.le_refl _) (fun y hy => m2.anew y fun q => hy (Or.inl q)) (fun j hj => ⟨?_, hother _ fun e => m2.base j hj (e ▸ k2)⟩) fun e ho y hy => ⟨?_, (m2.ebase e ho y hy).1, hother _ fun q => m2.etop e ho y hy (q ▸ k2)⟩
  ·rintro (q | q)
   ·exact m2.base j hj q
   ·exact q.1.1 j hj rfl
  ·rintro (q | q)
   ·exact m2.etop e ho y hy q
   ·exact q.2 e ho hy
 obtain ⟨us, u1, u2⟩ := qfv (A := fun y => (n1 y \/ zby σ' g' w' y) /\ g'.A0 y) (fun y hy => ⟨Or.inr hy, hy.1.2.2.2⟩) c4 v3
 refine ⟨σ', rows ++ [kT :: vts], g', c7, ⟨⟨fun y => n1 y \/ zby σ' g' w' y, es.push { key := a'.eval k, val := a'.eval v, born := clk }, clk + 1, fun y hy => Or.inl (k1 y hy), Or.inl k2, hA', hR2, fun y hy => ?_, hself, ?_⟩, hM'.nb, hM'.sub, hM'.r0, hM'.new⟩, (h2.mono m4.size).mono hbk.size, (h3.trans (zyb k1 m4)).trans hbk⟩
 ·rw [hsize]
  rcases hy with q | q
  ·exact m3 y q
  ·exact (hfree y q).1
 ·rw [Array.toList_push]
  refine zax.keep (A := fun y => (n1 y \/ zby σ' g' w' y) /\ g'.A0 y) (fun y hy => hother y fun e => hA' (e ▸ hy.2)) (fun y hy => hy) ag _ _ (zax.push ⟨us, u1, ?_⟩ (zax.keep (fun _ _ => rfl) (fun y hy => ⟨Or.inl hy.1, hy.2⟩) ag rows _ hr))
  unfold zab
  exact ⟨_, _, rfl, zcg (zlc c5) v2, u2⟩
end
theorem Rel.enter1 {n0 : Nat -> Prop} {σ : St} {g : Gh} {a : Act} {w : World} (h : Rel n0 N σ g a w) (o1 : Obj) :
  Rel (fun b => n0 b \/ b = w.heap.size) N σ { g with A0 := fun b => g.A0 b /\ b ≠ w.heap.size } a (w.alloc o1) := by
 have hs : ∀ b, b < w.heap.size -> (w.alloc o1).heap[b]? = w.heap[b]? := fun b hb => Below.heap_alloc _ _ _ hb
 refine h.turn (fun b hf => ⟨⟨hf.2.2.2, ?_⟩, hs b hf.2.2.1⟩) (by simp) (fun b hb => ?_) (fun k hk => ⟨?_, hs _ (h.lt hk)⟩) (fun e ho b hm => ?_)
 ·have := hf.2.2.1; omega
 ·have h1 : ¬ n0 b := fun k => hb (Or.inl k)
  exact ⟨⟨(h.anew b h1).1, fun e => hb (Or.inr e)⟩, (h.anew b h1).2⟩
 ·have := h.lt hk
  rintro (k1 | k1)
  ·exact h.base k hk k1
  ·omega
 ·have := h.elt ho hm
  refine ⟨?_, ⟨(h.ebase e ho b hm).1, by omega⟩, hs b this⟩
  rintro (k1 | k1)
  ·exact h.etop e ho b hm k1
  ·omega
end Go.Proofs.Yteeaofpphmhjdaa
namespace Go.Proofs.Yteeaofpphmhjdaa
set_option linter.unusedSimpArgs false
set_option linter.unusedVariables false
set_option linter.unusedSectionVars false
set_option maxRecDepth 4000
open Go.RowKit
variable {P : Program} {N : Nat}
attribute [go_sem] updM mvC mvCs mvV Option.bind_some Option.map_some
end Go.Proofs.Yteeaofpphmhjdaa
