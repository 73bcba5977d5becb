/-
  The walk over plain data, and contracts of functions of the program and of its laws.
  Conditions: those that each theorem names.
-/
import Derived.Test.YteeaofpphmhjdaaQC4
namespace Go.Proofs.Yteeaofpphmhjdaa
set_option linter.unusedSimpArgs false
set_option linter.unusedVariables false
set_option linter.unusedSectionVars false
set_option maxRecDepth 4000
open Go.RowKit
theorem zbt {code : List UInt8} {q : Cu} (hc : q.code = code) (n : Nat) (hp : q.pos <= 549755813888) (h1 : 1 <= n) (hn : n <= 100) : PC Try.prog 53 (zez code q) [.p 0, .d false (iD n)] (zez code (clD q n).1) [(true, .one (zbu (clD q n).2))] := by
 by_cases h3 : (clR q n).2.length <= 3
 ·exact zgv code q hc n hp h1 hn h3
 ·exact zhd code q hc n hp h1 hn (by omega)
structure DrS (code : List UInt8) (b m k : Nat) (x : Cu × List (List Int)) : Prop where
 code : x.1.code = code
 pos : x.1.pos + k * b <= 274877910000
 len : x.2.length + k * m <= 2000
theorem DrS.put {code : List UInt8} {b m k n : Nat} {x : Cu × List (List Int)} (h : DrS code b m (k + 1) x) (hb : 2 * n + 3 <= b) (hm : 1 <= m) : DrS code b m k ((clD x.1 n).1, x.2 ++ [(clD x.1 n).2]) := by
 obtain ⟨p1, p2, p3, p4⟩ := zeg x.1 n
 have h1 := h.pos
 have h2 := h.len
 rw [Nat.add_mul] at h1 h2
 exact ⟨p3.trans h.code, by dsimp only; omega, by simp; omega⟩
set_option maxHeartbeats 1000000 in
theorem zlb {code : List UInt8} {q : Cu} (hc : q.code = code) (hp : q.pos <= 274877906944) : PC Try.prog 94 (zez code q) [.p 0] (zez code (zbr q).1) [(true, .one (zbf (zbr q).2))] := by
 have H1 := zcf hc (by omega) 4 (by omega)
 have b1 := q.pick_bd (n := 4) (by omega)
 have p1 := q.pick_pos 4
 have c1 := (q.pick_code 4).trans hc
 have H2 := zcf c1 (by omega) 7 (by omega)
 have b2 := (q.pick 4).1.pick_bd (n := 7) (by omega)
 have p2 := (q.pick 4).1.pick_pos 7
 have c2 := ((q.pick 4).1.pick_code 7).trans c1
 have hS : zbr q = zh9 (2 + (q.pick 4).2.toNat) ((zct (2 + (q.pick 4).2.toNat) (1 + ((q.pick 4).1.pick 7).2.toNat) (((q.pick 4).1.pick 7).1, [])).1.pick 14).2.toNat
  (((zct (2 + (q.pick 4).2.toNat) (1 + ((q.pick 4).1.pick 7).2.toNat) (((q.pick 4).1.pick 7).1, [])).1.pick 14).1, (zct (2 + (q.pick 4).2.toNat) (1 + ((q.pick 4).1.pick 7).2.toNat) (((q.pick 4).1.pick 7).1, [])).2) := rfl
 generalize (q.pick 4).1.pick 7 = a2 at H2 b2 p2 c2 hS
 obtain ⟨Q2, y⟩ := a2
 generalize hn : 2 + (q.pick 4).2.toNat = n at hS
 have hw1 : IntKind.i64.wrap (2 + (q.pick 4).2) = (n : Int) := by rw [zap (by omega) (by omega)]; omega
 simp only at b2 p2 c2 hS H2
 generalize hK : 1 + y.toNat = K at hS
 have hw2 : IntKind.i64.wrap (1 + y) = (K : Int) := by rw [zap (by omega) (by omega)]; omega
 generalize zbr q = R at hS ⊢
 generalize hR1 : zct n K (Q2, []) = R1 at hS
 refine zdb Try.call94 Try.func94 rfl (by kernel_rfl) (by simp only [List.length_cons, List.length_nil, Try.ntmps94]; omega) (by simp only [Try.ntmps94]; omega) rfl rfl (by simp [zay, T.isPin, AF.ds, bxA]) (by simp [gFS, T.fs, T.flat, AF.ds, bxA]) rfl ?_
 simp -implicitDefEqProofs only [go_sem, Try.results94]
 refine zav (by simp -implicitDefEqProofs only [go_sem]) ?_
 simp -implicitDefEqProofs only [go_sem]
 refine zar [0, 3, 1000000] [8] [1000000] [] (H1) (by decide) rfl (by simp -implicitDefEqProofs only [go_sem]) (by simp -implicitDefEqProofs only [go_sem]) (by simp -implicitDefEqProofs only [go_sem]) (by simp -implicitDefEqProofs only [go_sem]) ?_
 simp -implicitDefEqProofs only [go_sem]
 rw [hw1]
 refine zar [0, 3, 4, 1000000] [11] [1000000] [] (H2) (by decide) rfl (by simp -implicitDefEqProofs only [go_sem]) (by simp -implicitDefEqProofs only [go_sem]) (by simp -implicitDefEqProofs only [go_sem]) (by simp -implicitDefEqProofs only [go_sem]) ?_
 simp -implicitDefEqProofs only [go_sem]
 rw [hw2]
 refine zak (fun x : Nat × (Cu × List (List Int)) => hd [(0, .one (.bx 1000000 0)), (3, .one (.ow 224 x.2.2.length)), (4, vI n), (5, vI x.1), (1000000, .one (.bx 1000000 0))] [(1000000, [.rn (zjy code), .t (.int .i64 x.2.1.pos), .t (.int .u64 x.2.1.seed)])] [(224, ⟨true, 1, x.2.2.map fun s => [zbu s], x.2.2.length, true⟩)]) (fun x => zct n x.1 x.2 = R1 /\ DrS code 30 2 (x.1 + 50) x.2) (fun x => x.1) (K, (Q2, [])) (zaf ?_) ?_ ?_
 ·simp -implicitDefEqProofs only [go_sem]
 ·exact ⟨hR1, c2, by dsimp only; omega, by simp; omega⟩
 ·rintro ⟨k, x⟩ ⟨hr, hD⟩
  simp only at hr hD
  cases k with
  | succ k =>
   rw [zct] at hr
   have hgt : ((0 : Int) < ((k + 1 : Nat) : Int)) = True := by simp
   have hwk : IntKind.i64.wrap (((k + 1 : Nat) : Int) - 1) = (k : Int) := by have := hD.len; rw [zap (by omega) (by omega)]; omega
   have hD' := hD.put (n := n) (k := k + 50) (by omega) (by omega)
   have HC := zbt hD.code n (by have := hD.pos; omega) (by omega) (by omega)
   have hol : x.2.length <= 4294967295 := by have := hD.len; omega
   obtain ⟨Q, S⟩ := x
   simp only at hr hD hD' HC hol
   simp -implicitDefEqProofs only [go_sem, hgt]
   refine zar [0, 3, 4, 5, 18, 1000000] [19, 20] [1000000] [] (HC) (by decide) rfl (by simp -implicitDefEqProofs only [go_sem]) (by simp -implicitDefEqProofs only [go_sem]) (by simp -implicitDefEqProofs only [go_sem]) (by simp -implicitDefEqProofs only [go_sem]) ?_
   simp -implicitDefEqProofs only [go_sem]
   refine zav (by simp -implicitDefEqProofs only [go_sem]) ?_
   simp -implicitDefEqProofs only [go_sem]
   refine apD true (by simp -implicitDefEqProofs only [go_sem, ne_eq, List.length_map, hol]) ?_
   simp -implicitDefEqProofs only [go_sem, ne_eq, List.length_map, hol]
   refine ⟨(k, ((clD Q n).1, S ++ [(clD Q n).2])), ⟨hr, hD'⟩, by simp only; omega, zaf ?_⟩
   simp -implicitDefEqProofs only [go_sem]
   rw [hwk, List.map_append]
   exact ⟨rfl, rfl⟩
  | zero =>
   have hr : x = R1 := hr
   subst hr
   have hgt : ((0 : Int) < ((0 : Nat) : Int)) = False := by simp
   have H3 := zcf hD.code (by have := hD.pos; omega) 14 (by omega)
   have b3 := x.1.pick_bd (n := 14) (by omega)
   have p3 := x.1.pick_pos 14
   have c3 := (x.1.pick_code 14).trans hD.code
   obtain ⟨z, hz⟩ : ∃ z : Nat, (x.1.pick 14).2 = z := ⟨(x.1.pick 14).2.toNat, by omega⟩
   rw [hz] at H3 b3 hS
   rw [Int.toNat_natCast] at hS
   have hd0 := hD.pos
   have hd1 := hD.len
   obtain ⟨Q, S⟩ := x
   simp only at H3 p3 c3 hz hS hd0 hd1
   generalize (Q.pick 14).1 = Q3 at H3 p3 c3 hS
   simp -implicitDefEqProofs only [go_sem, hgt]
   refine zar [0, 3, 4, 1000000] [24] [1000000] [] (H3) (by decide) rfl (by simp -implicitDefEqProofs only [go_sem]) (by simp -implicitDefEqProofs only [go_sem]) (by simp -implicitDefEqProofs only [go_sem]) (by simp -implicitDefEqProofs only [go_sem]) ?_
   simp -implicitDefEqProofs only [go_sem]
   refine zak (fun x : Nat × (Cu × List (List Int)) => hd [(0, .one (.bx 1000000 0)), (3, .one (.ow 224 x.2.2.length)), (4, vI n), (6, vI x.1), (1000000, .one (.bx 1000000 0))] [(1000000, [.rn (zjy code), .t (.int .i64 x.2.1.pos), .t (.int .u64 x.2.1.seed)])] [(224, ⟨true, 1, x.2.2.map fun s => [zbu s], x.2.2.length, true⟩)]) (fun x => zh9 n x.1 x.2 = R /\ DrS code 40 2 (x.1 + 10) x.2) (fun x => x.1) (z, (Q3, S)) (zaf ?_) ?_ ?_
   ·simp -implicitDefEqProofs only [go_sem]
   ·exact ⟨hS.symm, c3, by dsimp only; omega, by dsimp only; omega⟩
   ·rintro ⟨k, x⟩ ⟨hr, hD⟩
    simp only at hr hD
    cases k with
    | succ k =>
     rw [zh9] at hr
     have hgt : ((0 : Int) < ((k + 1 : Nat) : Int)) = True := by simp
     have hwk : IntKind.i64.wrap (((k + 1 : Nat) : Int) - 1) = (k : Int) := by have := hD.len; rw [zap (by omega) (by omega)]; omega
     have H4 := zpe hD.code (by have := hD.pos; omega) 2 (by omega)
     have p4 := x.1.pick_pos 2
     have c4 := (x.1.pick_code 2).trans hD.code
     have e0 := hD.pos
     have e1 := hD.len
     obtain ⟨Q, S⟩ := x
     simp only at hr H4 p4 c4 e0 e1
     by_cases h0 : (Q.pick 2).2 = 0
     ·rw [if_pos h0] at hr
      rw [show ((Q.pick 2).2 == 0) = true by simpa using h0] at H4
      generalize (Q.pick 2).1 = Q4 at H4 p4 c4 hr
      have HC := zbt c4 n (by omega) (by omega) (by omega)
      obtain ⟨u1, u2, u3, u4⟩ := zeg Q4 n
      have HD := zbt (u3.trans c4) 2 (by omega) (by omega) (by omega)
      obtain ⟨v1, v2, v3, v4⟩ := zeg (clD Q4 n).1 2
      have hol : S.length <= 4294967294 := by omega
      have hol1 : S.length <= 4294967295 := by omega
      have hol2 : S.length + 1 <= 4294967295 := by omega
      generalize clD Q4 n = C1 at HC u1 u2 u3 u4 HD v1 v2 v3 v4 hr
      obtain ⟨Q5, s1⟩ := C1
      simp only at HC u1 u2 u3 u4 HD v1 v2 v3 v4 hr
      generalize clD Q5 2 = C2 at HD v1 v2 v3 v4 hr
      obtain ⟨Q6, s2⟩ := C2
      simp only at HD v1 v2 v3 v4 hr
      simp -implicitDefEqProofs only [go_sem, hgt]
      refine zar [0, 3, 4, 6, 28, 1000000] [29] [1000000] [] (H4) (by decide) rfl (by simp -implicitDefEqProofs only [go_sem]) (by simp -implicitDefEqProofs only [go_sem]) (by simp -implicitDefEqProofs only [go_sem]) (by simp -implicitDefEqProofs only [go_sem]) ?_
      simp -implicitDefEqProofs only [go_sem]
      refine zar [0, 3, 4, 6, 34, 1000000] [35, 36] [1000000] [] (HC) (by decide) rfl (by simp -implicitDefEqProofs only [go_sem]) (by simp -implicitDefEqProofs only [go_sem]) (by simp -implicitDefEqProofs only [go_sem]) (by simp -implicitDefEqProofs only [go_sem]) ?_
      simp -implicitDefEqProofs only [go_sem]
      refine zav (by simp -implicitDefEqProofs only [go_sem]) ?_
      simp -implicitDefEqProofs only [go_sem]
      refine apD true (by simp -implicitDefEqProofs only [go_sem, ne_eq, List.length_map, hol1]) ?_
      simp -implicitDefEqProofs only [go_sem, ne_eq, List.length_map, hol1]
      refine zar [0, 3, 4, 6, 40, 1000000] [41] [1000000] [] (HD) (by decide) rfl (by simp -implicitDefEqProofs only [go_sem]) (by simp -implicitDefEqProofs only [go_sem]) (by simp -implicitDefEqProofs only [go_sem]) (by simp -implicitDefEqProofs only [go_sem]) ?_
      simp -implicitDefEqProofs only [go_sem]
      refine zav (by simp -implicitDefEqProofs only [go_sem]) ?_
      simp -implicitDefEqProofs only [go_sem]
      refine apD true (by simp -implicitDefEqProofs only [go_sem, ne_eq, List.length_map, List.length_append, List.length_cons, List.length_nil, hol2]) ?_
      simp -implicitDefEqProofs only [go_sem, ne_eq, List.length_map, List.length_append, List.length_cons, List.length_nil, hol2]
      refine ⟨(k, (Q6, S ++ [s1] ++ [s2])), ⟨hr, v3.trans (u3.trans c4), ?_, ?_⟩, by simp only; omega, zaf ?_⟩
      ·dsimp only; rw [Nat.add_mul] at e0 ⊢; omega
      ·simp; omega
      ·simp -implicitDefEqProofs only [go_sem]
       rw [hwk, List.map_append, List.map_append]
       exact ⟨rfl, rfl⟩
     ·rw [if_neg h0] at hr
      subst hr
      rw [show ((Q.pick 2).2 == 0) = false by simpa using h0] at H4
      simp -implicitDefEqProofs only [go_sem, hgt]
      refine zar [0, 3, 4, 6, 28, 1000000] [29] [1000000] [] (H4) (by decide) rfl (by simp -implicitDefEqProofs only [go_sem]) (by simp -implicitDefEqProofs only [go_sem]) (by simp -implicitDefEqProofs only [go_sem]) (by simp -implicitDefEqProofs only [go_sem]) ?_
      simp -implicitDefEqProofs only [go_sem]
    | zero =>
     have hr : x = R := hr
     subst hr
     have hgt : ((0 : Int) < ((0 : Nat) : Int)) = False := by simp
     simp -implicitDefEqProofs only [go_sem, hgt]
end Go.Proofs.Yteeaofpphmhjdaa
namespace Go.Proofs.Yteeaofpphmhjdaa
set_option linter.unusedSimpArgs false
set_option linter.unusedVariables false
set_option linter.unusedSectionVars false
set_option maxRecDepth 4000
open Go.RowKit
theorem zr6 {code : List UInt8} {q : Cu} (hc : q.code = code) (hp : q.pos <= 1099511627776) (l : List Int) (hl : 1 <= l.length) (hn : l.length <= 200) : PC Try.prog 70 (zez code q) [.p 0, .d true (.one (zbu l))] (zez code (zkj q l).1) [(true, iD (zkj q l).2)] := by
 have HN := zcf hc hp l.length (by omega)
 have hb := q.pick_bd (n := l.length) (by omega)
 unfold zkj
 obtain ⟨j, hj⟩ : ∃ j : Nat, (q.pick l.length).2 = j := ⟨(q.pick l.length).2.toNat, by omega⟩
 have hjl : j < l.length := by omega
 rw [hj] at HN ⊢
 refine zdb Try.call70 Try.func70 rfl (by kernel_rfl) (by simp only [List.length_cons, List.length_nil, Try.ntmps70]; omega) (by simp only [Try.ntmps70]; omega) rfl rfl (by simp [zay, T.isPin, AF.ds, bxA]) (by simp [gFS, T.fs, T.flat, AF.ds, bxA]) rfl ?_
 simp -implicitDefEqProofs only [go_sem, Try.results70]
 refine zar [5, 1000000] [6, 8] [1000000] [] (HN) (by decide) rfl (by simp -implicitDefEqProofs only [go_sem, hjl, zai]) (by simp -implicitDefEqProofs only [go_sem, hjl, zai]) (by simp -implicitDefEqProofs only [go_sem, hjl, zai]) (by simp -implicitDefEqProofs only [go_sem, hjl, zai]) ?_
 simp -implicitDefEqProofs only [go_sem, hjl, zai]
 exact Or.inl (by rw [List.getD_eq_getElem?_getD, List.getElem?_eq_getElem hjl]; rfl)
def anyE (y : Cu × Int) (S : List (List Int)) : Cu × List (List Int) :=
 if y.2 = 0 then ((zkj y.1 [0, 13, -13]).1, S ++ [[(zkj y.1 [0, 13, -13]).2]])
 else if y.2 = 1 then (y.1, S ++ [[2, 1]])
 else if y.2 = 2 then (y.1, S ++ [[1, -1]])
 else if y.2 = 3 then zh6 (42 - S.length) (y.1, S)
 else if y.2 = 4 then (y.1, S ++ [[12], [-12, 7]])
 else (y.1, S)
theorem zrk (q : Cu) : zn0 q = anyE ((zbr q).1.pick 30) (zbr q).2 := rfl
set_option maxHeartbeats 1000000 in
theorem zp3 {code : List UInt8} {q : Cu} (hc : q.code = code) (hp : q.pos <= 137438953472) : PC Try.prog 44 (zez code q) [.p 0] (zez code (zn0 q).1) [(true, .one (zbf (zn0 q).2))] := by
 have H0 := zlb hc (by omega)
 have hg := zlk q
 have hpos := hg.pos
 have hcd := hg.code.trans hc
 have hlen := hg.len
 have hA := zrk q
 generalize zn0 q = R at hA ⊢
 generalize zbr q = x at H0 hpos hcd hlen hA
 obtain ⟨Q, S⟩ := x
 simp only at H0 hpos hcd hlen hA
 have H1 := zcf hcd (by omega) 30 (by omega)
 have b1 := Q.pick_bd (n := 30) (by omega)
 have p1 := Q.pick_pos 30
 have c1 := (Q.pick_code 30).trans hcd
 generalize Q.pick 30 = y at H1 b1 p1 c1 hA
 obtain ⟨Q1, z⟩ := y
 simp only at H1 b1 p1 c1
 unfold anyE at hA
 simp only at hA
 have hol : S.length <= 4294967295 := by omega
 have hol2 : S.length <= 4294967294 := by omega
 have hg0 : ¬ S.length = 4294967295 := by omega
 by_cases h0 : z = 0
 ·rw [if_pos h0] at hA
  subst h0 hA
  have H2 : PC Try.prog 70 (zez code Q1) [.p 0, .d true (.one (.sl 1 [[.int .i64 0], [.int .i64 13], [.int .i64 (-13)]]))] (zez code (zkj Q1 [0, 13, -13]).1) [(true, iD (zkj Q1 [0, 13, -13]).2)] := zr6 c1 (by omega) [0, 13, -13] (by simp) (by simp)
  generalize zkj Q1 [0, 13, -13] = v at H2 ⊢
  obtain ⟨Q2, u⟩ := v
  simp only at H2 ⊢
  refine zdb Try.call44 Try.func44 rfl (by kernel_rfl) (by simp only [List.length_cons, List.length_nil, Try.ntmps44]; omega) (by simp only [Try.ntmps44]; omega) rfl rfl (by simp [zay, T.isPin, AF.ds, bxA]) (by simp [gFS, T.fs, T.flat, AF.ds, bxA]) rfl ?_
  simp -implicitDefEqProofs only [go_sem, Try.results44]
  refine zar [0, 1000000] [4] [1000000] [] (H0) (by decide) rfl (by simp -implicitDefEqProofs only [go_sem]) (by simp -implicitDefEqProofs only [go_sem]) (by simp -implicitDefEqProofs only [go_sem]) (by simp -implicitDefEqProofs only [go_sem]) ?_
  simp -implicitDefEqProofs only [go_sem]
  refine zar [0, 3, 1000000] [6] [1000000] [] (H1) (by decide) rfl (by simp -implicitDefEqProofs only [go_sem]) (by simp -implicitDefEqProofs only [go_sem]) (by simp -implicitDefEqProofs only [go_sem]) (by simp -implicitDefEqProofs only [go_sem]) ?_
  simp -implicitDefEqProofs only [go_sem]
  refine zav (by simp -implicitDefEqProofs only [go_sem]) ?_
  simp -implicitDefEqProofs only [go_sem]
  refine zar [10, 1000000] [11, 12] [1000000] [] (H2) (by decide) rfl (by simp -implicitDefEqProofs only [go_sem]) (by simp -implicitDefEqProofs only [go_sem]) (by simp -implicitDefEqProofs only [go_sem]) (by simp -implicitDefEqProofs only [go_sem]) ?_
  simp -implicitDefEqProofs only [go_sem]
  refine zav (by simp -implicitDefEqProofs only [go_sem]) ?_
  simp -implicitDefEqProofs only [go_sem]
  refine zav (by simp -implicitDefEqProofs only [go_sem]) ?_
  simp -implicitDefEqProofs only [go_sem]
  refine apD true (by simp -implicitDefEqProofs only [go_sem, ne_eq, List.length_map, hol]) ?_
  simp -implicitDefEqProofs only [go_sem, ne_eq, List.length_map, hol]
  rw [List.map_append]
  exact Or.inl (Or.inl rfl)
 ·rw [if_neg h0] at hA
  have n0 : (z == (0 : Int)) = false := by simpa using h0
  by_cases h1 : z = 1
  ·rw [if_pos h1] at hA
   subst h1 hA
   refine zdb Try.call44 Try.func44 rfl (by kernel_rfl) (by simp only [List.length_cons, List.length_nil, Try.ntmps44]; omega) (by simp only [Try.ntmps44]; omega) rfl rfl (by simp [zay, T.isPin, AF.ds, bxA]) (by simp [gFS, T.fs, T.flat, AF.ds, bxA]) rfl ?_
   simp -implicitDefEqProofs only [go_sem, Try.results44]
   refine zar [0, 1000000] [4] [1000000] [] (H0) (by decide) rfl (by simp -implicitDefEqProofs only [go_sem]) (by simp -implicitDefEqProofs only [go_sem]) (by simp -implicitDefEqProofs only [go_sem]) (by simp -implicitDefEqProofs only [go_sem]) ?_
   simp -implicitDefEqProofs only [go_sem]
   refine zar [0, 3, 1000000] [6] [1000000] [] (H1) (by decide) rfl (by simp -implicitDefEqProofs only [go_sem]) (by simp -implicitDefEqProofs only [go_sem]) (by simp -implicitDefEqProofs only [go_sem]) (by simp -implicitDefEqProofs only [go_sem]) ?_
   simp -implicitDefEqProofs only [go_sem]
   refine zav (by simp -implicitDefEqProofs only [go_sem]) ?_
   simp -implicitDefEqProofs only [go_sem]
   refine zav (by simp -implicitDefEqProofs only [go_sem]) ?_
   simp -implicitDefEqProofs only [go_sem]
   refine apD true (by simp -implicitDefEqProofs only [go_sem, ne_eq, List.length_map, hol]) ?_
   simp -implicitDefEqProofs only [go_sem, ne_eq, List.length_map, hol]
   rw [List.map_append]
   exact Or.inl (Or.inl rfl)
  ·rw [if_neg h1] at hA
   have n1 : (z == (1 : Int)) = false := by simpa using h1
   by_cases h2 : z = 2
   ·rw [if_pos h2] at hA
    subst h2 hA
    refine zdb Try.call44 Try.func44 rfl (by kernel_rfl) (by simp only [List.length_cons, List.length_nil, Try.ntmps44]; omega) (by simp only [Try.ntmps44]; omega) rfl rfl (by simp [zay, T.isPin, AF.ds, bxA]) (by simp [gFS, T.fs, T.flat, AF.ds, bxA]) rfl ?_
    simp -implicitDefEqProofs only [go_sem, Try.results44]
    refine zar [0, 1000000] [4] [1000000] [] (H0) (by decide) rfl (by simp -implicitDefEqProofs only [go_sem]) (by simp -implicitDefEqProofs only [go_sem]) (by simp -implicitDefEqProofs only [go_sem]) (by simp -implicitDefEqProofs only [go_sem]) ?_
    simp -implicitDefEqProofs only [go_sem]
    refine zar [0, 3, 1000000] [6] [1000000] [] (H1) (by decide) rfl (by simp -implicitDefEqProofs only [go_sem]) (by simp -implicitDefEqProofs only [go_sem]) (by simp -implicitDefEqProofs only [go_sem]) (by simp -implicitDefEqProofs only [go_sem]) ?_
    simp -implicitDefEqProofs only [go_sem]
    refine zav (by simp -implicitDefEqProofs only [go_sem]) ?_
    simp -implicitDefEqProofs only [go_sem]
    refine zav (by simp -implicitDefEqProofs only [go_sem]) ?_
    simp -implicitDefEqProofs only [go_sem]
    refine apD true (by simp -implicitDefEqProofs only [go_sem, ne_eq, List.length_map, hol]) ?_
    simp -implicitDefEqProofs only [go_sem, ne_eq, List.length_map, hol]
    rw [List.map_append]
    exact Or.inl (Or.inl rfl)
   ·rw [if_neg h2] at hA
    have n2 : (z == (2 : Int)) = false := by simpa using h2
    by_cases h3 : z = 3
    ·rw [if_pos h3] at hA
     subst h3
     refine zdb Try.call44 Try.func44 rfl (by kernel_rfl) (by simp only [List.length_cons, List.length_nil, Try.ntmps44]; omega) (by simp only [Try.ntmps44]; omega) rfl rfl (by simp [zay, T.isPin, AF.ds, bxA]) (by simp [gFS, T.fs, T.flat, AF.ds, bxA]) rfl ?_
     simp -implicitDefEqProofs only [go_sem, Try.results44]
     refine zar [0, 1000000] [4] [1000000] [] (H0) (by decide) rfl (by simp -implicitDefEqProofs only [go_sem]) (by simp -implicitDefEqProofs only [go_sem]) (by simp -implicitDefEqProofs only [go_sem]) (by simp -implicitDefEqProofs only [go_sem]) ?_
     simp -implicitDefEqProofs only [go_sem]
     refine zar [0, 3, 1000000] [6] [1000000] [] (H1) (by decide) rfl (by simp -implicitDefEqProofs only [go_sem]) (by simp -implicitDefEqProofs only [go_sem]) (by simp -implicitDefEqProofs only [go_sem]) (by simp -implicitDefEqProofs only [go_sem]) ?_
     simp -implicitDefEqProofs only [go_sem]
     refine zak (fun x : Nat × (Cu × List (List Int)) => hd [(0, .one (.bx 1000000 0)), (3, .one (.ow 160 (42 - S.length - x.1))), (7, vI 3), (1000000, .one (.bx 1000000 0))] [(1000000, [.rn (zjy code), .t (.int .i64 x.2.1.pos), .t (.int .u64 x.2.1.seed)])] [(160, ⟨true, 1, x.2.2.map fun s => [zbu s], 42 - S.length - x.1, true⟩)]) (fun x => zh6 x.1 x.2 = R /\ (1 <= x.1 /\ x.1 + x.2.2.length = 42 /\ S.length <= x.2.2.length) /\ DrS code 40 2 (x.1 + 10) x.2) (fun x => x.1) (42 - S.length, (Q1, S)) (zaf ?_) ?_ ?_
     ·simp -implicitDefEqProofs only [go_sem]
      skip
     ·exact ⟨hA.symm, ⟨by simp only; omega, by simp only; omega, Nat.le_refl _⟩, c1, by dsimp only; omega, by dsimp only; omega⟩
     ·rintro ⟨k, x⟩ ⟨hr, hk, hD⟩
      simp only at hr hk hD
      cases k with
      | zero => exact absurd hk.1 (by omega)
      | succ k =>
       rw [zh6] at hr
       have H4 := zcf hD.code (by have := hD.pos; omega) 2 (by omega)
       have b4 := x.1.pick_bd (n := 2) (by omega)
       have p4 := x.1.pick_pos 2
       have c4 := (x.1.pick_code 2).trans hD.code
       have e0 := hD.pos
       have e1 := hD.len
       obtain ⟨Q, U⟩ := x
       simp only at hr H4 p4 c4 e0 e1 b4 hk
       generalize Q.pick 2 = y at H4 p4 c4 b4 hr
       obtain ⟨Q4, u⟩ := y
       simp only at hr H4 p4 c4 b4
       have hw : IntKind.i64.wrap (40 + u) = 40 + u := zap (by omega) (by omega)
       have hgen : 42 - S.length - k = 42 - S.length - (k + 1) + 1 := by omega
       by_cases hlt : (U.length : Int) < 40 + u
       ·rw [if_pos hlt] at hr
        have hlt' : ((U.length : Int) < 40 + u) = True := by simpa using hlt
        have HC := zbt c4 6 (by omega) (by omega) (by omega)
        obtain ⟨u1, u2, u3, u4⟩ := zeg Q4 6
        have hol1 : U.length <= 4294967295 := by omega
        generalize clD Q4 6 = C1 at HC u1 u2 u3 u4 hr
        obtain ⟨Q5, s1⟩ := C1
        simp only at HC u1 u2 u3 u4 hr
        simp -implicitDefEqProofs only [go_sem]
        refine zar [0, 3, 7, 32, 1000000] [33] [1000000] [] (H4) (by decide) rfl (by simp -implicitDefEqProofs only [go_sem]) (by simp -implicitDefEqProofs only [go_sem]) (by simp -implicitDefEqProofs only [go_sem]) (by simp -implicitDefEqProofs only [go_sem]) ?_
        simp -implicitDefEqProofs only [go_sem]
        rw [hw]
        simp -implicitDefEqProofs only [go_sem, hlt']
        refine zar [0, 7, 37, 1000000] [38] [1000000] [] (HC) (by decide) rfl (by simp -implicitDefEqProofs only [go_sem]) (by simp -implicitDefEqProofs only [go_sem]) (by simp -implicitDefEqProofs only [go_sem]) (by simp -implicitDefEqProofs only [go_sem]) ?_
        simp -implicitDefEqProofs only [go_sem]
        refine zav (by simp -implicitDefEqProofs only [go_sem]) ?_
        simp -implicitDefEqProofs only [go_sem]
        refine apD true (by simp -implicitDefEqProofs only [go_sem, ne_eq, List.length_map, hol1]) ?_
        simp -implicitDefEqProofs only [go_sem, ne_eq, List.length_map, hol1]
        refine ⟨(k, (Q5, U ++ [s1])), ⟨hr, ⟨by simp only; omega, by simp; omega, by simp; omega⟩, u3.trans c4, ?_, ?_⟩, by simp only; omega, zaf ?_⟩
        ·dsimp only; rw [Nat.add_mul] at e0 ⊢; omega
        ·simp; omega
        ·simp -implicitDefEqProofs only [go_sem]
         rw [hgen, List.map_append]
         rfl
       ·rw [if_neg hlt] at hr
        subst hr
        have hlt' : ((U.length : Int) < 40 + u) = False := by simpa using hlt
        simp -implicitDefEqProofs only [go_sem]
        refine zar [0, 3, 7, 32, 1000000] [33] [1000000] [] (H4) (by decide) rfl (by simp -implicitDefEqProofs only [go_sem]) (by simp -implicitDefEqProofs only [go_sem]) (by simp -implicitDefEqProofs only [go_sem]) (by simp -implicitDefEqProofs only [go_sem]) ?_
        simp -implicitDefEqProofs only [go_sem]
        rw [hw]
        simp -implicitDefEqProofs only [go_sem, hlt']
        skip
    ·rw [if_neg h3] at hA
     have n3 : (z == (3 : Int)) = false := by simpa using h3
     by_cases h4 : z = 4
     ·rw [if_pos h4] at hA
      subst h4 hA
      refine zdb Try.call44 Try.func44 rfl (by kernel_rfl) (by simp only [List.length_cons, List.length_nil, Try.ntmps44]; omega) (by simp only [Try.ntmps44]; omega) rfl rfl (by simp [zay, T.isPin, AF.ds, bxA]) (by simp [gFS, T.fs, T.flat, AF.ds, bxA]) rfl ?_
      simp -implicitDefEqProofs only [go_sem, Try.results44]
      refine zar [0, 1000000] [4] [1000000] [] (H0) (by decide) rfl (by simp -implicitDefEqProofs only [go_sem]) (by simp -implicitDefEqProofs only [go_sem]) (by simp -implicitDefEqProofs only [go_sem]) (by simp -implicitDefEqProofs only [go_sem]) ?_
      simp -implicitDefEqProofs only [go_sem]
      refine zar [0, 3, 1000000] [6] [1000000] [] (H1) (by decide) rfl (by simp -implicitDefEqProofs only [go_sem]) (by simp -implicitDefEqProofs only [go_sem]) (by simp -implicitDefEqProofs only [go_sem]) (by simp -implicitDefEqProofs only [go_sem]) ?_
      simp -implicitDefEqProofs only [go_sem]
      refine zav (by simp -implicitDefEqProofs only [go_sem]) ?_
      simp -implicitDefEqProofs only [go_sem]
      refine zav (by simp -implicitDefEqProofs only [go_sem]) ?_
      simp -implicitDefEqProofs only [go_sem]
      refine zav (by simp -implicitDefEqProofs only [go_sem]) ?_
      simp -implicitDefEqProofs only [go_sem]
      refine apD true (by simp -implicitDefEqProofs only [go_sem, ne_eq, List.length_map, hol2]) ?_
      simp -implicitDefEqProofs only [go_sem, ne_eq, List.length_map, hol2]
      rw [List.map_append]
      exact Or.inl (Or.inl rfl)
     ·rw [if_neg h4] at hA
      have n4 : (z == (4 : Int)) = false := by simpa using h4
      subst hA
      refine zdb Try.call44 Try.func44 rfl (by kernel_rfl) (by simp only [List.length_cons, List.length_nil, Try.ntmps44]; omega) (by simp only [Try.ntmps44]; omega) rfl rfl (by simp [zay, T.isPin, AF.ds, bxA]) (by simp [gFS, T.fs, T.flat, AF.ds, bxA]) rfl ?_
      simp -implicitDefEqProofs only [go_sem, Try.results44]
      refine zar [0, 1000000] [4] [1000000] [] (H0) (by decide) rfl (by simp -implicitDefEqProofs only [go_sem]) (by simp -implicitDefEqProofs only [go_sem]) (by simp -implicitDefEqProofs only [go_sem]) (by simp -implicitDefEqProofs only [go_sem]) ?_
      simp -implicitDefEqProofs only [go_sem]
      refine zar [0, 3, 1000000] [6] [1000000] [] (H1) (by decide) rfl (by simp -implicitDefEqProofs only [go_sem, n0, n1, n2, n3, n4]) (by simp -implicitDefEqProofs only [go_sem, n0, n1, n2, n3, n4]) (by simp -implicitDefEqProofs only [go_sem, n0, n1, n2, n3, n4]) (by simp -implicitDefEqProofs only [go_sem, n0, n1, n2, n3, n4]) ?_
      simp -implicitDefEqProofs only [go_sem, n0, n1, n2, n3, n4]
      skip
end Go.Proofs.Yteeaofpphmhjdaa
namespace Go.Proofs.Yteeaofpphmhjdaa
set_option linter.unusedSimpArgs false
set_option linter.unusedVariables false
set_option linter.unusedSectionVars false
set_option maxRecDepth 4000
open Go.RowKit
theorem zlf (S : List (List Int)) (n : Int) (hl : S.length <= 4611686018427387904) : FC Try.prog 46 [.one (zbf S), iD n] [bD (zey S && inB n 0 S.length)] := by
 have H := zdx S
 have HW := ziv n 0 S.length
 cases h : zey S
 ·rw [h] at H
  refine za8 Try.call46 Try.func46 rfl (by kernel_rfl) (zcn (by kernel_rfl)) ?_
  simp -implicitDefEqProofs only [go_sem, Try.results46]
  refine callF (H) (by simp -implicitDefEqProofs only [go_sem]) ?_
  simp -implicitDefEqProofs only [go_sem]
 ·rw [h] at H
  refine za8 Try.call46 Try.func46 rfl (by kernel_rfl) (zcn (by kernel_rfl)) ?_
  simp -implicitDefEqProofs only [go_sem, Try.results46]
  refine callF (H) (by simp -implicitDefEqProofs only [go_sem]) ?_
  simp -implicitDefEqProofs only [go_sem]
  refine callF (HW) (by simp -implicitDefEqProofs only [go_sem]) ?_
  simp -implicitDefEqProofs only [go_sem]
theorem zeo (S : List (List Int)) (v : Int) (hv : -1073741824 <= v /\ v <= 1073741824) : FC Try.prog 51 [.one (zbf S), iD v] [bD (occ S v)] := by
 refine zd9 (fun hw => ?_) Try.call51
 have hl : S.length <= 9223372036854775807 := by simpa [zm4, wfT] using hw.1.1
 have hn : IntKind.i64.wrap (0 - v) = -v := by rw [zap (by omega) (by omega)]; omega
 refine za8 Try.call51 Try.func51 rfl (by kernel_rfl) (zcn (by kernel_rfl)) ?_
 simp -implicitDefEqProofs only [go_sem, Try.results51]
 refine zak (fun k : Nat => hd [(0, vT (zbf S)), (1, vI v), (5, vI k)] [] []) (fun k => k <= S.length /\ occ S v = occ (S.drop k) v) (fun k => S.length - k) 0 (zaf ?_) ?_ ?_
 ·simp -implicitDefEqProofs only [go_sem]
 ·simp
 ·intro k ⟨hk, hr⟩
  by_cases hlt : k < S.length
  ·have H1 := zfy S[k] v
   have H2 := zfy S[k] (-v)
   rw [List.drop_eq_getElem_cons hlt] at hr
   have hr : occ S v = ((S[k].contains v || S[k].contains (-v)) || occ (S.drop (k + 1)) v) := by rw [hr]; rfl
   have hwk : IntKind.i64.wrap ((k : Int) + 1) = ((k + 1 : Nat) : Int) := za0 (by omega)
   cases h1 : S[k].contains v
   ·rw [h1] at H1 hr
    simp -implicitDefEqProofs only [go_sem, zai, hlt]
    refine callF (H1) (by simp -implicitDefEqProofs only [go_sem, zai, hlt]) ?_
    simp -implicitDefEqProofs only [go_sem, zai, hlt]
    rw [hn]
    refine callF (H2) (by simp -implicitDefEqProofs only [go_sem]) ?_
    simp -implicitDefEqProofs only [go_sem]
    rw [hwk]
    refine ⟨fun h => ?_, fun h => ⟨k + 1, ⟨hlt, ?_⟩, by omega, zaf (by simp -implicitDefEqProofs only [go_sem])⟩⟩
    ·rw [hr, h]; simp
    ·rw [hr, h]; simp
   ·rw [h1] at H1 hr
    simp -implicitDefEqProofs only [go_sem, zai, hlt]
    refine callF (H1) (by simp -implicitDefEqProofs only [go_sem]) ?_
    simp -implicitDefEqProofs only [go_sem]
    rw [hr]; simp
  ·simp -implicitDefEqProofs only [go_sem, hlt]
   rw [hr, List.drop_of_length_le (by omega)]; rfl
def zgn (n : Nat) (Q : List (Int × Int)) : List Int := (List.range n).map fun i : Nat => zgz Q ((i : Int) + 1)
theorem zb5 (n : Nat) (Q : List (Int × Int)) : (zgn n Q).length = n := by unfold zgn; simp
theorem zcp (n : Nat) (Q : List (Int × Int)) {i : Nat} (h : i < (zgn n Q).length) : (zgn n Q)[i] = zgz Q ((i : Int) + 1) := by
 have e : (zgn n Q)[i]? = some (zgz Q ((i : Int) + 1)) := by
  rw [zb5] at h
  unfold zgn
  rw [List.getElem?_map, List.getElem?_range h]; rfl
 exact Option.some.inj ((List.getElem?_eq_getElem h).symm.trans e)
theorem zi5 (n : Nat) (Q : List (Int × Int)) {u col : Int} {i : Nat} (hi : i < n) (hu : u = (i : Int) + 1) (hc : col = 1 \/ col = 2) : (zgn n Q).set i (orI (zgz Q u) col) = zgn n (Q ++ [(u, col)]) := by
 apply List.ext_getElem
 ·rw [List.length_set, zb5, zb5]
 ·intro j h1 h2
  rw [List.length_set, zb5] at h1
  rw [List.getElem_set]
  split
  next e => subst e; rw [zcp, <- hu, zcg Q u col hc]
  next e => rw [zcp, zcp, zlt Q col (by omega)]
theorem zlq (n : Nat) : zgn n [] = List.replicate n 0 := by
 apply List.ext_getElem
 ·rw [zb5, List.length_replicate]
 ·intro j h1 h2
  rw [zcp, List.getElem_replicate]; rfl
def prC (S : List (List Int)) (split : Int) (k : Nat) (j : Nat) : List (Int × Int) := prs S split k ++ ((S.getD k []).take j).map fun l => (ab l, pt split k)
theorem zgl (S : List (List Int)) (split : Int) (k : Nat) : prC S split k 0 = prs S split k := by unfold prC; simp
theorem zf1 (S : List (List Int)) (split : Int) (k : Nat) {j : Nat} (h : j < (S.getD k []).length) : prC S split k (j + 1) = prC S split k j ++ [(ab (S.getD k [])[j], pt split k)] := by
 unfold prC
 rw [List.take_succ_eq_append_getElem h, List.map_append, List.append_assoc]; rfl
theorem zhw (S : List (List Int)) (split : Int) (k : Nat) : prC S split k (S.getD k []).length = prs S split (k + 1) := by unfold prC; rw [List.take_length]; rfl
set_option maxHeartbeats 2000000 in
theorem zop (S : List (List Int)) (n : Nat) (hS : zey S = true) (hn : n <= S.length) : FC Try.prog 47 [.one (zbf S), iD n] [.one (zbu (zeq S n))] := by
 have hm := zjt S
 have hm2 := zh3 fun c hc => zbs hS hc
 obtain ⟨m, hmm⟩ : ∃ m : Nat, zgo S = m := ⟨(zgo S).toNat, by omega⟩
 have hl := zn2 hS
 have HG := zkb S fun c hc => zqj (zbs hS hc)
 rw [hmm] at HG
 have hC : zeq S n = zgn m (prs S n S.length) := by
  unfold zeq zgn
  rw [hmm, Int.toNat_natCast]
  apply List.map_congr_left
  intro i _
  rw [zjc (by omega)]
 rw [hC]
 refine za8 Try.call47 Try.func47 rfl (by kernel_rfl) (zcn (by kernel_rfl)) ?_
 simp -implicitDefEqProofs only [go_sem, Try.results47]
 refine callF (HG) (by simp -implicitDefEqProofs only [go_sem]) ?_
 simp -implicitDefEqProofs only [go_sem]
 refine makeD (by simp -implicitDefEqProofs only [go_sem]; omega) ?_
 simp -implicitDefEqProofs only [go_sem]
 refine zak (fun k : Nat => hd [(1, vI n), (5, .one (.ow 416 0)), (14, vT (zbf S)), (15, vI S.length), (16, vI k)] [] [(416, ⟨true, 1, (zgn m (prs S n k)).map fun s => [.int .i64 s], 0, true⟩)]) (fun k => k <= S.length) (fun k => S.length - k) 0 (zaf ?_) (Nat.zero_le _) ?_
 ·simp -implicitDefEqProofs only [go_sem]
  rw [show prs S n 0 = [] from rfl, zlq, List.map_replicate]
 ·intro k hk
  by_cases hlt : k < S.length
  ·have hg : S.getD k [] = S[k] := by rw [List.getD_eq_getElem?_getD, List.getElem?_eq_getElem hlt]; rfl
   have hpc := zbs hS (List.getElem_mem hlt)
   have hlc := zmp hpc
   by_cases hge : (n : Int) <= k
   ·have hge' : ((n : Int) <= k) = True := by simpa using hge
    have hpt : pt n k = 2 := by unfold pt; rw [if_neg (by omega)]
    simp -implicitDefEqProofs only [go_sem, zai, hlt, hge']
    refine zak (fun j : Nat => hd [(1, vI n), (5, .one (.ow 416 0)), (8, vI (pt n k)), (14, vT (zbf S)), (15, vI S.length), (16, vI k), (24, vT (zbu S[k])), (25, vI S[k].length), (26, vI j)] [] [(416, ⟨true, 1, (zgn m (prC S n k j)).map fun s => [.int .i64 s], 0, true⟩)]) (fun j => j <= S[k].length) (fun j => S[k].length - j) 0 (zaf ?_) (Nat.zero_le _) ?_
    ·simp -implicitDefEqProofs only [go_sem]
     rw [hpt, zgl]
     exact ⟨rfl, rfl⟩
    ·intro j hj
     by_cases hjl : j < S[k].length
     ·have hmem := zej hpc (List.getElem_mem hjl)
      have hbd := zlh (List.getElem_mem hlt) (List.getElem_mem hjl)
      rw [hmm] at hbd
      have HA := zb0 S[k][j] (by have := (znq hmem).2; omega)
      obtain ⟨u, hu⟩ : ∃ u : Nat, ab S[k][j] = (u : Int) + 1 := ⟨(ab S[k][j] - 1).toNat, by omega⟩
      have hum : u < m := by omega
      have hul : u < (zgn m (prC S n k j)).length := by rw [zb5]; exact hum
      have hwu : IntKind.i64.wrap (ab S[k][j] - 1) = (u : Int) := by rw [zap (by omega) (by omega)]; omega
      have hcs := zi5 m (prC S n k j) hum hu (zjf n k)
      have hps := zf1 S n k (j := j) (by rw [hg]; exact hjl)
      simp only [hg] at hps
      have hcg := zcp m (prC S n k j) hul
      rw [<- hu] at hcg
      have hst := zi0 (zgn m (prC S n k j)) u (orI (zgz (prC S n k j) (ab S[k][j])) (pt n k)) hul
      rw [hcs] at hst
      simp -implicitDefEqProofs only [go_sem, zai, hjl]
      refine callF (HA) (by simp -implicitDefEqProofs only [go_sem]) ?_
      simp -implicitDefEqProofs only [go_sem]
      rw [hwu]
      simp -implicitDefEqProofs only [go_sem, hul, zai]
      rw [hcg]
      refine zqo (by simp -implicitDefEqProofs only [go_sem]; simp) ?_
      simp -implicitDefEqProofs only [go_sem]
      refine ⟨j + 1, hjl, by omega, zaf ?_⟩
      simp -implicitDefEqProofs only [go_sem]
      rw [za0 (by omega), hps, <- hst]
      exact ⟨rfl, rfl⟩
     ·have hjn : j = S[k].length := by omega
      subst hjn
      have hall := zhw S n k
      rw [hg] at hall
      rw [hall]
      simp -implicitDefEqProofs only [go_sem, hjl]
      rw [za0 (by omega)]
      exact ⟨k + 1, hlt, by omega, zaf (by simp -implicitDefEqProofs only [go_sem])⟩
   ·have hge' : ((n : Int) <= k) = False := by simpa using hge
    have hpt : pt n k = 1 := by unfold pt; rw [if_pos (by omega)]
    simp -implicitDefEqProofs only [go_sem, zai, hlt, hge']
    refine zak (fun j : Nat => hd [(1, vI n), (5, .one (.ow 416 0)), (8, vI (pt n k)), (14, vT (zbf S)), (15, vI S.length), (16, vI k), (24, vT (zbu S[k])), (25, vI S[k].length), (26, vI j)] [] [(416, ⟨true, 1, (zgn m (prC S n k j)).map fun s => [.int .i64 s], 0, true⟩)]) (fun j => j <= S[k].length) (fun j => S[k].length - j) 0 (zaf ?_) (Nat.zero_le _) ?_
    ·simp -implicitDefEqProofs only [go_sem]
     rw [hpt, zgl]
     exact ⟨rfl, rfl⟩
    ·intro j hj
     by_cases hjl : j < S[k].length
     ·have hmem := zej hpc (List.getElem_mem hjl)
      have hbd := zlh (List.getElem_mem hlt) (List.getElem_mem hjl)
      rw [hmm] at hbd
      have HA := zb0 S[k][j] (by have := (znq hmem).2; omega)
      obtain ⟨u, hu⟩ : ∃ u : Nat, ab S[k][j] = (u : Int) + 1 := ⟨(ab S[k][j] - 1).toNat, by omega⟩
      have hum : u < m := by omega
      have hul : u < (zgn m (prC S n k j)).length := by rw [zb5]; exact hum
      have hwu : IntKind.i64.wrap (ab S[k][j] - 1) = (u : Int) := by rw [zap (by omega) (by omega)]; omega
      have hcs := zi5 m (prC S n k j) hum hu (zjf n k)
      have hps := zf1 S n k (j := j) (by rw [hg]; exact hjl)
      simp only [hg] at hps
      have hcg := zcp m (prC S n k j) hul
      rw [<- hu] at hcg
      have hst := zi0 (zgn m (prC S n k j)) u (orI (zgz (prC S n k j) (ab S[k][j])) (pt n k)) hul
      rw [hcs] at hst
      simp -implicitDefEqProofs only [go_sem, zai, hjl]
      refine callF (HA) (by simp -implicitDefEqProofs only [go_sem]) ?_
      simp -implicitDefEqProofs only [go_sem]
      rw [hwu]
      simp -implicitDefEqProofs only [go_sem, hul, zai]
      rw [hcg]
      refine zqo (by simp -implicitDefEqProofs only [go_sem]; simp) ?_
      simp -implicitDefEqProofs only [go_sem]
      refine ⟨j + 1, hjl, by omega, zaf ?_⟩
      simp -implicitDefEqProofs only [go_sem]
      rw [za0 (by omega), hps, <- hst]
      exact ⟨rfl, rfl⟩
     ·have hjn : j = S[k].length := by omega
      subst hjn
      have hall := zhw S n k
      rw [hg] at hall
      rw [hall]
      simp -implicitDefEqProofs only [go_sem, hjl]
      rw [za0 (by omega)]
      exact ⟨k + 1, hlt, by omega, zaf (by simp -implicitDefEqProofs only [go_sem])⟩
  ·have hkn : k = S.length := by omega
   subst hkn
   simp -implicitDefEqProofs only [go_sem, hlt]
theorem zdv (S : List (List Int)) (n : Int) (hl : S.length <= 4611686018427387904) : FC Try.prog 12 [.one (zbf S), iD n] [.one (zbu (if (zey S && inB n 0 S.length) = true then zeq S n.toNat else [])), bD (zey S && inB n 0 S.length)] := by
 have H := zlf S n hl
 cases h : (zey S && inB n 0 S.length)
 ·rw [h] at H
  rw [if_neg (by simp)]
  refine za8 Try.call12 Try.func12 rfl (by kernel_rfl) (zcn (by kernel_rfl)) ?_
  simp -implicitDefEqProofs only [go_sem, Try.results12]
  refine callF (H) (by simp -implicitDefEqProofs only [go_sem]) ?_
  simp -implicitDefEqProofs only [go_sem]
 ·rw [h] at H
  rw [if_pos rfl]
  rw [Bool.and_eq_true] at h
  obtain ⟨m, hm⟩ : ∃ m : Nat, n = m := ⟨n.toNat, by have := h.2; unfold inB at this; simp at this; omega⟩
  subst hm
  have HC := zop S m h.1 (by have := h.2; unfold inB at this; simp at this; omega)
  rw [Int.toNat_natCast]
  refine za8 Try.call12 Try.func12 rfl (by kernel_rfl) (zcn (by kernel_rfl)) ?_
  simp -implicitDefEqProofs only [go_sem, Try.results12]
  refine callF (H) (by simp -implicitDefEqProofs only [go_sem]) ?_
  simp -implicitDefEqProofs only [go_sem]
  refine callF (HC) (by simp -implicitDefEqProofs only [go_sem]) ?_
  simp -implicitDefEqProofs only [go_sem]
theorem zp2 (S : List (List Int)) (n : Nat) {k : Nat} (h : k < (zgo S).toNat) : (zeq S n).take (k + 1) = (zeq S n).take k ++ [colV S n ((k : Int) + 1)] := by
 have hlen : (zeq S n).length = (zgo S).toNat := by unfold zeq; simp
 rw [List.take_succ_eq_append_getElem (by omega)]
 congr 1
 unfold zeq
 simp
set_option maxHeartbeats 1000000 in
theorem zor (S : List (List Int)) (n : Int) (hl : S.length <= 4611686018427387904) : FC Try.prog 13 [.one (zbf S), iD n] [.one (zbu (if (zey S && inB n 0 S.length) = true then zeq S n.toNat else [])), bD (zey S && inB n 0 S.length)] := by
 have H := zo3 S
 have HI := zqk n 0 S.length
 cases h : zey S
 ·rw [h] at H
  rw [Bool.false_and, if_neg (by simp)]
  refine za8 Try.call13 Try.func13 rfl (by kernel_rfl) (zcn (by kernel_rfl)) ?_
  simp -implicitDefEqProofs only [go_sem, Try.results13]
  refine zav (by simp -implicitDefEqProofs only [go_sem]) ?_
  simp -implicitDefEqProofs only [go_sem]
  refine callF (H) (by simp -implicitDefEqProofs only [go_sem]) ?_
  simp -implicitDefEqProofs only [go_sem]
 ·rw [h] at H
  cases h2 : inB n 0 S.length
  ·rw [h2] at HI
   rw [Bool.true_and, if_neg (by simp)]
   refine za8 Try.call13 Try.func13 rfl (by kernel_rfl) (zcn (by kernel_rfl)) ?_
   simp -implicitDefEqProofs only [go_sem, Try.results13]
   refine zav (by simp -implicitDefEqProofs only [go_sem]) ?_
   simp -implicitDefEqProofs only [go_sem]
   refine callF (H) (by simp -implicitDefEqProofs only [go_sem]) ?_
   simp -implicitDefEqProofs only [go_sem]
   refine callF (HI) (by simp -implicitDefEqProofs only [go_sem]) ?_
   simp -implicitDefEqProofs only [go_sem]
  ·rw [h2] at HI
   rw [Bool.true_and, if_pos rfl]
   obtain ⟨m, hm⟩ : ∃ m : Nat, n = m := ⟨n.toNat, by unfold inB at h2; simp at h2; omega⟩
   subst hm
   have hmS : m <= S.length := by unfold inB at h2; simp at h2; omega
   rw [Int.toNat_natCast]
   have HM := znb S fun c hc => zqj (zbs h hc)
   have hm0 := zjt S
   have hm2 := zh3 fun c hc => zbs h hc
   have hlen : (zeq S m).length = (zgo S).toNat := by unfold zeq; simp
   refine za8 Try.call13 Try.func13 rfl (by kernel_rfl) (zcn (by kernel_rfl)) ?_
   simp -implicitDefEqProofs only [go_sem, Try.results13]
   refine zav (by simp -implicitDefEqProofs only [go_sem]) ?_
   simp -implicitDefEqProofs only [go_sem]
   refine callF (H) (by simp -implicitDefEqProofs only [go_sem]) ?_
   simp -implicitDefEqProofs only [go_sem]
   refine callF (HI) (by simp -implicitDefEqProofs only [go_sem]) ?_
   simp -implicitDefEqProofs only [go_sem]
   refine zak (fun k : Nat => hd [(0, vT (zbf S)), (1, vI m), (6, .one (.ow 288 k)), (7, vI ((k : Int) + 1))] [] [(288, ⟨true, 1, ((zeq S m).take k).map fun s => [.int .i64 s], k, true⟩)]) (fun k => k <= (zgo S).toNat) (fun k => (zgo S).toNat - k) 0 (zaf ?_) (Nat.zero_le _) ?_
   ·simp -implicitDefEqProofs only [go_sem]
   ·intro k hk
    by_cases hlt : k < (zgo S).toNat
    ·have hle : ((k : Int) + 1 <= zgo S) = True := by simp; omega
     have H1 := zeo (S.take m) ((k : Int) + 1) (by omega)
     have H2 := zeo (S.drop m) ((k : Int) + 1) (by omega)
     have ht := zp2 S m hlt
     have hol : min k (zeq S m).length <= 4294967295 := by omega
     unfold colV at ht
     have hwk : IntKind.i64.wrap ((k : Int) + 1 + 1) = ((k + 1 : Nat) : Int) + 1 := by rw [zap (by omega) (by omega)]; omega
     cases o1 : occ (S.take m) ((k : Int) + 1) <;> cases o2 : occ (S.drop m) ((k : Int) + 1)
     all_goals
      rw [o1] at H1 ht
      rw [o2] at H2 ht
      simp -implicitDefEqProofs only [go_sem]
      refine callF (HM) (by simp -implicitDefEqProofs only [go_sem, hle, hmS, <- List.map_take, <- List.map_drop]) ?_
      simp -implicitDefEqProofs only [go_sem, hle, hmS, <- List.map_take, <- List.map_drop]
      refine callF (H1) (by simp -implicitDefEqProofs only [go_sem, hmS, <- List.map_take, <- List.map_drop]) ?_
      simp -implicitDefEqProofs only [go_sem, hmS, <- List.map_take, <- List.map_drop]
      refine callF (H2) (by simp -implicitDefEqProofs only [go_sem, List.take_length]) ?_
      simp -implicitDefEqProofs only [go_sem, List.take_length]
      refine zav (by simp -implicitDefEqProofs only [go_sem]) ?_
      simp -implicitDefEqProofs only [go_sem]
      refine apD true (by simp -implicitDefEqProofs only [go_sem, ne_eq, List.length_map, List.length_take, hol]) ?_
      simp -implicitDefEqProofs only [go_sem, ne_eq, List.length_map, List.length_take, hol]
      refine ⟨k + 1, hlt, by omega, zaf ?_⟩
      simp -implicitDefEqProofs only [go_sem]
      rw [hwk, ht, List.map_append]
      exact ⟨rfl, rfl⟩
    ·have hle : ((k : Int) + 1 <= zgo S) = False := by simp; omega
     have ht : (zeq S m).take k = zeq S m := List.take_of_length_le (by omega)
     rw [ht]
     simp -implicitDefEqProofs only [go_sem]
     refine callF (HM) (by simp -implicitDefEqProofs only [go_sem, hle]) ?_
     simp -implicitDefEqProofs only [go_sem, hle]
end Go.Proofs.Yteeaofpphmhjdaa
namespace Go.Proofs.Yteeaofpphmhjdaa
set_option linter.unusedSimpArgs false
set_option linter.unusedVariables false
set_option linter.unusedSectionVars false
set_option maxRecDepth 4000
open Go.RowKit
theorem vBig_c (code : List UInt8) : FC Try.prog 10 [.one (zjy code)] [bD (decide (65536 < (code.length : Int)))] := by
 refine za8 Try.call10 Try.func10 rfl (by kernel_rfl) (zcn (by kernel_rfl)) ?_
 simp -implicitDefEqProofs only [go_sem, Try.results10]
theorem zrl (xs ys : List Int) : FC Try.prog 14 [.one (zbu xs), .one (zbu ys)] [bD (same xs ys)] := by
 refine zd9 (fun hw => ?_) Try.call14
 have hl : xs.length <= 9223372036854775807 := by have := hw.1.1; simpa using this
 by_cases hne : xs.length = ys.length
 ·have hni : ((xs.length : Int) != (ys.length : Int)) = false := by rw [hne]; simp
  refine za8 Try.call14 Try.func14 rfl (by kernel_rfl) (zcn (by kernel_rfl)) ?_
  simp -implicitDefEqProofs only [go_sem, Try.results14, hni]
  refine zak (fun k : Nat => hd [(0, vT (zbu xs)), (1, vT (zbu ys)), (5, vI k)] [] []) (fun k => k <= xs.length /\ same xs ys = same (xs.drop k) (ys.drop k)) (fun k => xs.length - k) 0 (zaf ?_) ?_ ?_
  ·simp -implicitDefEqProofs only [go_sem]
  ·simp
  ·intro k ⟨hk, hr⟩
   by_cases hlt : k < xs.length
   ·have hlt2 : k < ys.length := by omega
    have hwk : IntKind.i64.wrap ((k : Int) + 1) = ((k + 1 : Nat) : Int) := za0 (by omega)
    rw [List.drop_eq_getElem_cons hlt, List.drop_eq_getElem_cons hlt2, zmn] at hr
    simp -implicitDefEqProofs only [go_sem, hlt]
    refine drawn (by kernel_rfl) ?_
    simp -implicitDefEqProofs only [go_sem, zai, hlt, hlt2]
    refine ⟨by kernel_rfl, ?_⟩
    rw [hwk]
    refine ⟨fun h => ?_, fun h => ⟨k + 1, ⟨hlt, ?_⟩, by omega, zaf (by simp -implicitDefEqProofs only [go_sem])⟩⟩
    ·rw [hr, zmr.2 (by simpa using h), Bool.false_and]
    ·rw [hr, zd0.2 (by simpa using h), Bool.true_and]
   ·simp -implicitDefEqProofs only [go_sem, hlt]
    rw [hr, List.drop_of_length_le (by omega), List.drop_of_length_le (by omega), zhf]
 ·have hni : ((xs.length : Int) != (ys.length : Int)) = true := by simp; omega
  refine za8 Try.call14 Try.func14 rfl (by kernel_rfl) (zcn (by kernel_rfl)) ?_
  simp -implicitDefEqProofs only [go_sem, Try.results14, hni]
  rw [zmr.2 (fun e => hne (by rw [e]))]
def q0 (code : List UInt8) : Cu := ⟨code, 0, 0⟩
def drVC (code : List UInt8) : List (List Int) × Int := ((zn0 (q0 code)).2, ((zn0 (q0 code)).1.pick (((zn0 (q0 code)).2.length : Int) + 3)).2 - 1)
theorem zoe (code : List UInt8) : FC Try.prog 11 [.one (zjy code)] [.one (zbf (drVC code).1), iD (drVC code).2] := by
 have H := zp3 (q := q0 code) (code := code) rfl (by unfold q0; simp)
 have hg := zil (q0 code)
 have hpos := hg.pos
 have hcd := hg.code.trans (show (q0 code).code = code from rfl)
 have hlen := hg.len
 have h00 : (q0 code).pos = 0 := rfl
 have h01 : (q0 code).seed = 0 := rfl
 unfold drVC
 generalize zn0 (q0 code) = x at H hpos hcd hlen ⊢
 obtain ⟨Q, S⟩ := x
 simp only at H hpos hcd hlen ⊢
 have H2 := zcf hcd (by omega) ((S.length : Int) + 3) (by omega)
 have b2 := Q.pick_bd (n := (S.length : Int) + 3) (by omega)
 have hw : IntKind.i64.wrap ((S.length : Int) + 3) = (S.length : Int) + 3 := zap (by omega) (by omega)
 generalize Q.pick ((S.length : Int) + 3) = y at H2 b2 ⊢
 obtain ⟨Q2, z⟩ := y
 simp only at H2 b2 ⊢
 have hw2 : IntKind.i64.wrap (z - 1) = z - 1 := zap (by omega) (by omega)
 rw [show zez code (q0 code) = [[(false, zjy code), (false, .int .i64 0), (false, .int .u64 0)]] from rfl] at H
 refine zmj Try.call11 Try.func11 rfl (by kernel_rfl) (zcn (by kernel_rfl)) ?_
 simp -implicitDefEqProofs only [go_sem, Try.results11]
 refine zar [4] [9] [8] [] (H) (by decide) rfl (by simp -implicitDefEqProofs only [go_sem]) (by simp -implicitDefEqProofs only [go_sem]) (by simp -implicitDefEqProofs only [go_sem]) (by simp -implicitDefEqProofs only [go_sem]) ?_
 simp -implicitDefEqProofs only [go_sem]
 rw [hw]
 refine zar [11] [12, 15] [8] [] (H2) (by decide) rfl (by simp -implicitDefEqProofs only [go_sem]) (by simp -implicitDefEqProofs only [go_sem]) (by simp -implicitDefEqProofs only [go_sem]) (by simp -implicitDefEqProofs only [go_sem]) ?_
 simp -implicitDefEqProofs only [go_sem]
 rw [hw2]
 exact Or.inl rfl
theorem zov (code : List UInt8) : (drVC code).1.length <= 80 := (zil (q0 code)).len
theorem zsa (code : List UInt8) : ∀ c ∈ (drVC code).1, zqr 13 c /\ c.length <= 3 := (zil (q0 code)).lits
set_option maxHeartbeats 2000000 in
theorem zif (code : List UInt8) : FC Try.prog 3 [.one (zjy code)] [bD true] := by
 have HB := vBig_c code
 have HD := zoe code
 have hl := zov code
 have hs := zsa code
 by_cases hbig : (65536 : Int) < code.length
 ·rw [show decide ((65536 : Int) < code.length) = true by simpa using hbig] at HB
  refine za8 Try.call3 Try.func3 rfl (by kernel_rfl) (zcn (by kernel_rfl)) ?_
  simp -implicitDefEqProofs only [go_sem, Try.results3]
  refine callF (HB) (by simp -implicitDefEqProofs only [go_sem]) ?_
  simp -implicitDefEqProofs only [go_sem]
 ·rw [show decide ((65536 : Int) < code.length) = false by simpa using hbig] at HB
  generalize drVC code = x at HD hl hs
  obtain ⟨S, n⟩ := x
  simp only at HD hl hs
  have H1 := zdv S n (by omega)
  have H2 := zor S n (by omega)
  have HV := fun L : List Int => zrl L L
  simp only [zhf] at HV
  cases hok : (zey S && inB n 0 S.length)
  ·rw [hok, if_neg (by simp)] at H1 H2
   refine zmj Try.call3 Try.func3 rfl (by kernel_rfl) (zcn (by kernel_rfl)) ?_
   simp -implicitDefEqProofs only [go_sem, Try.results3]
   refine callF (HB) (by simp -implicitDefEqProofs only [go_sem]) ?_
   simp -implicitDefEqProofs only [go_sem]
   refine callF (HD) (by simp -implicitDefEqProofs only [go_sem]) ?_
   simp -implicitDefEqProofs only [go_sem]
   refine callF (H1) (by simp -implicitDefEqProofs only [go_sem]) ?_
   simp -implicitDefEqProofs only [go_sem]
   refine callF (H2) (by simp -implicitDefEqProofs only [go_sem, beq_self_eq_true, Bool.not_true]) ?_
   simp -implicitDefEqProofs only [go_sem, beq_self_eq_true, Bool.not_true]
   refine callF (HV []) (by simp -implicitDefEqProofs only [go_sem]) ?_
   simp -implicitDefEqProofs only [go_sem]
   refine zak (fun _ : Nat => hd [(5, .one (.ow 736 0)), (9, vI 0)] [] [(736, ⟨true, 1, [], 0, true⟩)]) (fun _ => True) (fun _ => 0) 0 (zaf (by simp -implicitDefEqProofs only [go_sem])) trivial ?_
   intro _ _
   simp -implicitDefEqProofs only [go_sem]
  ·rw [hok, if_pos rfl] at H1 H2
   rw [Bool.and_eq_true] at hok
   obtain ⟨m, hm⟩ : ∃ m : Nat, n = m := ⟨n.toNat, by have := hok.2; unfold inB at this; simp at this; omega⟩
   subst hm
   rw [Int.toNat_natCast] at H1 H2
   have hlen : (zeq S m).length = (zgo S).toNat := by unfold zeq; simp
   have hm2 := zh3 fun c hc => zbs hok.1 hc
   have hcg : ∀ (i : Nat) (h : i < (zeq S m).length), (zeq S m)[i] = zgz (prs S m S.length) ((i : Int) + 1) := fun i h => by
    rw [zjc (by omega)]
    have e : (zeq S m)[i]? = some (colV S m ((i : Int) + 1)) := by
     have h' : i < (zgo S).toNat := by omega
     unfold zeq
     rw [List.getElem?_map, List.getElem?_range h']; rfl
    exact Option.some.inj ((List.getElem?_eq_getElem h).symm.trans e)
   generalize zeq S m = L at H1 H2 hlen hcg
   refine zmj Try.call3 Try.func3 rfl (by kernel_rfl) (zcn (by kernel_rfl)) ?_
   simp -implicitDefEqProofs only [go_sem, Try.results3]
   refine callF (HB) (by simp -implicitDefEqProofs only [go_sem]) ?_
   simp -implicitDefEqProofs only [go_sem]
   refine callF (HD) (by simp -implicitDefEqProofs only [go_sem]) ?_
   simp -implicitDefEqProofs only [go_sem]
   refine callF (H1) (by simp -implicitDefEqProofs only [go_sem]) ?_
   simp -implicitDefEqProofs only [go_sem]
   refine callF (H2) (by simp -implicitDefEqProofs only [go_sem, beq_self_eq_true, Bool.not_true]) ?_
   simp -implicitDefEqProofs only [go_sem, beq_self_eq_true, Bool.not_true]
   refine callF (HV L) (by simp -implicitDefEqProofs only [go_sem]) ?_
   simp -implicitDefEqProofs only [go_sem]
   have hS0 := hok.1
   refine zak (fun i : Nat => hd [(3, .one (.ow 544 0)), (4, vI m), (5, .one (.ow 736 0)), (9, vI i)] [] [(544, ⟨true, 1, S.map fun s => [zbu s], 0, true⟩), (736, ⟨true, 1, L.map fun s => [.int .i64 s], 0, true⟩)]) (fun i => i <= L.length) (fun i => L.length - i) 0 (zaf ?_) (Nat.zero_le _) ?_
   ·simp -implicitDefEqProofs only [go_sem]
   ·intro i hi
    by_cases hil : i < L.length
    ·have hwi : IntKind.i64.wrap ((i : Int) + 1) = (i : Int) + 1 := zap (by omega) (by omega)
     have hwi2 : IntKind.i64.wrap ((i : Int) + 1) = ((i + 1 : Nat) : Int) := za0 (by omega)
     have hni : IntKind.i64.wrap (IntKind.i64.wrap (0 - (i : Int)) - 1) = -((i : Int) + 1) := by rw [zap (n := 0 - (i : Int)) (by omega) (by omega), zap (by omega) (by omega)]; omega
     have hLi := hcg i hil
     simp -implicitDefEqProofs only [go_sem, hil]
     refine zak (fun k : Nat => hd [(3, .one (.ow 544 0)), (4, vI m), (5, .one (.ow 736 0)), (9, vI i), (10, vI (zgz (prs S m k) ((i : Int) + 1))), (11, vI k)] [] [(544, ⟨true, 1, S.map fun s => [zbu s], 0, true⟩), (736, ⟨true, 1, L.map fun s => [.int .i64 s], 0, true⟩)]) (fun k => k <= S.length) (fun k => S.length - k) 0 (zaf ?_) (Nat.zero_le _) ?_
     ·simp -implicitDefEqProofs only [go_sem]
      rfl
     ·intro k hk
      by_cases hkl : k < S.length
      ·have hg : S.getD k [] = S[k] := by rw [List.getD_eq_getElem?_getD, List.getElem?_eq_getElem hkl]; rfl
       have hpc := zbs hS0 (List.getElem_mem hkl)
       have hlc := zmp hpc
       simp -implicitDefEqProofs only [go_sem, hkl]
       refine zak (fun j : Nat => hd [(3, .one (.ow 544 0)), (4, vI m), (5, .one (.ow 736 0)), (9, vI i), (10, vI (zgz (prC S m k j) ((i : Int) + 1))), (11, vI k), (12, vI j)] [] [(544, ⟨true, 1, S.map fun s => [zbu s], 0, true⟩), (736, ⟨true, 1, L.map fun s => [.int .i64 s], 0, true⟩)]) (fun j => j <= S[k].length) (fun j => S[k].length - j) 0 (zaf ?_) (Nat.zero_le _) ?_
       ·simp -implicitDefEqProofs only [go_sem]
        rw [zgl]
       ·intro j hj
        by_cases hjl : j < S[k].length
        ·have hps := zf1 S m k (j := j) (by rw [hg]; exact hjl)
         simp only [hg] at hps
         have hjl' : ((j : Int) < (S[k].length : Int)) = True := by simpa using hjl
         have hmem := zej hpc (List.getElem_mem hjl)
         have hbd2 := (znq hmem).2
         simp -implicitDefEqProofs only [go_sem, hkl, zai, hjl]
         rw [hwi, hni]
         refine ⟨fun h1 => ⟨fun h2 => ⟨fun h3 => ?_, fun h3 => ?_⟩, fun h2 => ?_⟩, fun h1 => ⟨fun h3 => ?_, fun h3 => ?_⟩⟩
         all_goals
          refine ⟨j + 1, hjl, by omega, zaf ?_⟩
          simp -implicitDefEqProofs only [go_sem]
          rw [za0 (by omega), hps]
          refine ⟨?_, rfl⟩
         ·have e1 : S[k][j] = -((i : Int) + 1) := by simpa using h2
          have e2 : k < m := by simpa using h3
          rw [show ab S[k][j] = (i : Int) + 1 by unfold ab; omega, show pt m k = 1 by unfold pt; rw [if_pos (by omega)], zcg _ _ _ (Or.inl rfl)]; rfl
         ·have e1 : S[k][j] = -((i : Int) + 1) := by simpa using h2
          have e2 : ¬ k < m := by simpa using h3
          rw [show ab S[k][j] = (i : Int) + 1 by unfold ab; omega, show pt m k = 2 by unfold pt; rw [if_neg (by omega)], zcg _ _ _ (Or.inr rfl)]; rfl
         ·have e1 : S[k][j] ≠ (i : Int) + 1 := by simpa using h1
          have e2 : S[k][j] ≠ -((i : Int) + 1) := by simpa using h2
          rw [zlt _ _ (by unfold ab; omega)]
         ·have e1 : S[k][j] = (i : Int) + 1 := by simpa using h1
          have e2 : k < m := by simpa using h3
          rw [show ab S[k][j] = (i : Int) + 1 by unfold ab; omega, show pt m k = 1 by unfold pt; rw [if_pos (by omega)], zcg _ _ _ (Or.inl rfl)]; rfl
         ·have e1 : S[k][j] = (i : Int) + 1 := by simpa using h1
          have e2 : ¬ k < m := by simpa using h3
          rw [show ab S[k][j] = (i : Int) + 1 by unfold ab; omega, show pt m k = 2 by unfold pt; rw [if_neg (by omega)], zcg _ _ _ (Or.inr rfl)]; rfl
        ·have hjn : j = S[k].length := by omega
         subst hjn
         have hjl' : ((S[k].length : Int) < (S[k].length : Int)) = False := by simp
         have hall := zhw S m k
         rw [hg] at hall
         rw [hall]
         simp -implicitDefEqProofs only [go_sem, hkl, zai, hjl']
         refine ⟨k + 1, hkl, by omega, zaf ?_⟩
         simp -implicitDefEqProofs only [go_sem]
         rw [za0 (by omega)]
      ·have hkn : k = S.length := by omega
       subst hkn
       simp -implicitDefEqProofs only [go_sem, hkl, hil, zai]
       rw [hLi]
       refine ⟨fun h => by simp at h, fun _ => ⟨i + 1, hil, by omega, zaf ?_⟩⟩
       simp -implicitDefEqProofs only [go_sem]
       rw [hwi2]
    ·simp -implicitDefEqProofs only [go_sem, hil]
end Go.Proofs.Yteeaofpphmhjdaa
