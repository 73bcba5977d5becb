/-
  The walk over plain data, and contracts of functions of the program and of its laws.
  Conditions: those that each theorem names.
-/
import Derived.Test.YteeaofpphmhjdaaQRC7
import Derived.Test.YteeaofpphmhjdaaQRC6
namespace Go.Proofs.Yteeaofpphmhjdaa
set_option linter.unusedSimpArgs false
set_option linter.unusedVariables false
set_option linter.unusedSectionVars false
set_option maxRecDepth 4000
open Go.RowKit
abbrev bxP (S : List (List Int)) (st : List Ps) : Bxs := [[(false, zav S), (true, psS st)]]
set_option maxHeartbeats 2000000 in
theorem zkj (S : List (List Int)) (hS : ∀ c ∈ S, pcl c = true) (hSl : S.length <= 40) : ∀ (m : Nat) (a : List Int) (st : List Ps), m <= 12 -> Pre a (a.length + 1) -> a.length + m <= 12 -> (∀ c ∈ S, ∀ l ∈ c, 0 < ab l /\ ab l < (a.length : Int) + 1 + m) -> (∀ t ∈ sfx (a.length + 1) m, isM S (a ++ t) = false) -> (∀ j < st.length, zbe S st j = true) -> st.length + 2 ^ m <= 100000 →
  PC Try.prog 80 (bxP S st) [.p 0, .d true (.one (zas a)), .d false (iD ((a.length : Int) + 1))] (bxP S (yl S m a st).2) [(true, iD (yl S m a st).1.1)]
 | m, a, st, hm, hp, hal, hv, hu, hst, hsz => by
  have HF := zep S a fun c hc => zgf (hS c hc)
  rw [znv S hp.cons] at HF
  cases hf : S.findIdx? (fal a) with
  | some i =>
   rw [hf] at HF
   have HF : FC Try.prog 79 [.one (zav S), .one (zas a)] [iD i] := HF
   rw [zki hf]
   refine zpn Try.call80 Try.func80 rfl (by simp only [List.length_cons, List.length_nil, Try.ntmps80]; omega) (by simp only [Try.ntmps80]; omega) rfl rfl (by simp [za8, T.isPin, AF.ds, bxA]) (by simp [gFS, T.fs, T.flat, AF.ds, bxA]) rfl ?_
   refine za4.cut 1 rfl (by kernel_rfl) ?_
   simp -implicitDefEqProofs only [go_sem, Try.results80]
   refine callF (HF) (by simp -implicitDefEqProofs only [go_sem]) ?_
   simp -implicitDefEqProofs only [go_sem]
   skip
  | none =>
   rw [hf] at HF
   have HF : FC Try.prog 79 [.one (zav S), .one (zas a)] [iD (-1)] := HF
   cases m with
   | zero =>
    exfalso
    have h1 := hu [] (by simp [sfx])
    rw [List.append_nil, zdm hp (fun c hc l hl => by have := hv c hc l hl; simpa using this) (by rw [<- Bool.not_eq_true, <- List.findIdx?_isSome, hf]; simp)] at h1
    cases h1
   | succ m =>
    have hv1 : ((a ++ [(a.length : Int) + 1]).length : Int) + 1 = (a.length : Int) + 1 + 1 := by simp
    have hp1 : Pre (a ++ [(a.length : Int) + 1]) ((a.length : Int) + 1 + 1) := hp.put (zcj (by omega))
    have hp2 : Pre (a ++ [-((a.length : Int) + 1)]) ((a.length : Int) + 1 + 1) := hp.put (by rw [zc3, zcj (by omega)])
    have hv2 : ((a ++ [-((a.length : Int) + 1)]).length : Int) + 1 = (a.length : Int) + 1 + 1 := by simp
    have hu2 : ∀ t ∈ sfx (((a ++ [-((a.length : Int) + 1)]).length : Int) + 1) m, isM S (a ++ [-((a.length : Int) + 1)] ++ t) = false := fun t ht => by
     rw [hv2] at ht
     have := hu ((-((a.length : Int) + 1)) :: t) (by rw [sfx]; exact List.mem_append_right _ (List.mem_map.2 ⟨t, ht, rfl⟩))
     rwa [List.append_assoc]
    have hvb : ∀ c ∈ S, ∀ l ∈ c, 0 < ab l /\ ab l < (a.length : Int) + 1 + 1 + m := fun c hc l hl => by have := hv c hc l hl; omega
    have hlen2 : (a ++ [-((a.length : Int) + 1)]).length + m <= 12 := by simp; omega
    have hm12 : m <= 12 := by omega
    have hvv : -1073741824 <= (a.length : Int) + 1 /\ (a.length : Int) + 1 <= 1073741824 := by omega
    have hwe : ∀ q : Nat, q <= 100000 -> IntKind.i64.wrap (IntKind.i64.wrap ((S.length : Int) + ((q + 1 : Nat) : Int)) - 1) = ((S.length + q : Nat) : Int) := fun q hq => by rw [zam (n := (S.length : Int) + ((q + 1 : Nat) : Int)) (by omega) (by omega), zam (by omega) (by omega)]; omega
    have hsz' : st.length + 2 ^ m * 2 <= 100000 := by rw [<- Nat.pow_succ]; exact hsz
    have HC1 := zkj S hS hSl m (a ++ [(a.length : Int) + 1]) st (by omega) (by rw [hv1]; exact hp1) (by simp; omega) (fun c hc l hl => by have := hv c hc l hl; rw [hv1]; omega) (fun t ht => by
     rw [hv1] at ht
     have := hu (((a.length : Int) + 1) :: t) (by rw [sfx]; exact List.mem_append_left _ (List.mem_map.2 ⟨t, ht, rfl⟩))
     rwa [List.append_assoc]) hst (by rw [Nat.pow_succ] at hsz; omega)
    have X := zsx S hS m (a ++ [(a.length : Int) + 1]) st (by rw [hv1]; exact hp1) (fun c hc l hl => by have := hv c hc l hl; rw [hv1]; omega) (fun t ht => by
     rw [hv1] at ht
     have := hu (((a.length : Int) + 1) :: t) (by rw [sfx]; exact List.mem_append_left _ (List.mem_map.2 ⟨t, ht, rfl⟩))
     rwa [List.append_assoc]) hst
    rw [hv1] at HC1
    rw [zof hf]
    dsimp only
    generalize yl S m (a ++ [(a.length : Int) + 1]) st = x at HC1 X ⊢
    obtain ⟨⟨xn, xc⟩, xs⟩ := x
    simp only at HC1 ⊢
    have HO := zoe a (by omega)
    have hol : a.length <= 4294967295 := by omega
    have hw1 : IntKind.i64.wrap ((a.length : Int) + 1 + 1) = (a.length : Int) + 1 + 1 := zam (by omega) (by omega)
    have hm1 : (a.map fun s => [T.int .i64 s]) ++ [[T.int .i64 ((a.length : Int) + 1)]] = (a ++ [(a.length : Int) + 1]).map fun s => [T.int .i64 s] := by rw [List.map_append]; rfl
    have hm2 : (a.map fun s => [T.int .i64 s]) ++ [[T.int .i64 (-((a.length : Int) + 1))]] = (a ++ [-((a.length : Int) + 1)]).map fun s => [T.int .i64 s] := by rw [List.map_append]; rfl
    refine zpn Try.call80 Try.func80 rfl (by simp only [List.length_cons, List.length_nil, Try.ntmps80]; omega) (by simp only [Try.ntmps80]; omega) rfl rfl (by simp [za8, T.isPin, AF.ds, bxA]) (by simp [gFS, T.fs, T.flat, AF.ds, bxA]) rfl ?_
    refine za4.cut 2 rfl (by kernel_rfl) ?_
    simp -implicitDefEqProofs only [go_sem, Try.results80]
    refine callF (HF) (by simp -implicitDefEqProofs only [go_sem]) ?_
    simp -implicitDefEqProofs only [go_sem]
    refine callF (HO) (by simp -implicitDefEqProofs only [go_sem]) ?_
    simp -implicitDefEqProofs only [go_sem]
    refine zan (by simp -implicitDefEqProofs only [go_sem]) ?_
    simp -implicitDefEqProofs only [go_sem]
    refine apD true (by simp -implicitDefEqProofs only [go_sem, ne_eq, List.length_map, hol]) ?_
    simp -implicitDefEqProofs only [go_sem, ne_eq, List.length_map, hol]
    rw [hw1, hm1]
    refine za1 [0, 1, 2, 1000000] [21, 26, 28] [1000000] [] (HC1) (by decide) rfl (by simp -implicitDefEqProofs only [go_sem]) (by simp -implicitDefEqProofs only [go_sem]) (by simp -implicitDefEqProofs only [go_sem]) (by simp -implicitDefEqProofs only [go_sem]) ?_
    simp -implicitDefEqProofs only [go_sem]
    have xl : xs.length + 1 <= st.length + 2 ^ m := X.len
    have xt : xn < S.length + xs.length := X.lt
    have hxs2 : xs.length + 2 ^ m <= 100000 := by omega
    have HCl := zkk S xs xn (by omega) (by omega) (by omega) (by omega)
    rw [X.cl] at HCl
    have HH := zee xc (-((a.length : Int) + 1))
    have hwn : IntKind.i64.wrap (0 - ((a.length : Int) + 1)) = -((a.length : Int) + 1) := by rw [zam (by omega) (by omega)]; omega
    simp only at HCl
    refine za4.seq (za4.seq (za4.lendA [30, 31, 32, 33, 34, 35, 36] rfl [(0, .one (.t (.ptr [zav S, psS xs]))), (2, vI ((a.length : Int) + 1)), (8, vI xn)] [(36, .one (.t (.bool (!xc.contains (-((a.length : Int) + 1))))))] [] ?_ (fun e h => absurd rfl h) rfl rfl (zdz.ofEx (by kernel_rfl) (fun d h => h) ?_) (l := [(0, .one (.bx 1000000 0)), (1, .one (.ow 0 0)), (2, vI ((a.length : Int) + 1)), (8, vI xn), (36, .one (.t (.bool (!xc.contains (-((a.length : Int) + 1)))))), (1000000, .one (.bx 1000000 0))]) (bl := [(1000000, [.rn (zav S), .ow 930 0])]) (el := [(0, ⟨true, 1, a.map fun s => [.int .i64 s], 0, true⟩), (930, ⟨true, 4, xs.map psC, 0, true⟩)]) (zaa ?_) ?_))
    ·refine Wk.fzO 930 ?_
     simp -implicitDefEqProofs only [go_sem]
     refine Wk.fbO 1000000 ?_
     simp -implicitDefEqProofs only [go_sem]
     refine Wk.elP 0 (cs := [zav S, psS xs]) (by simp -implicitDefEqProofs only [go_sem]) (zaa ?_)
     simp -implicitDefEqProofs only [go_sem]
    ·simp -implicitDefEqProofs only [go_sem]
     refine callR (HCl) (by simp -implicitDefEqProofs only [go_sem]) ?_
     simp -implicitDefEqProofs only [go_sem]
     rw [hwn]
     refine callF (HH) (by simp -implicitDefEqProofs only [go_sem]) ?_
     simp -implicitDefEqProofs only [go_sem]
     refine zaa ?_
     simp -implicitDefEqProofs only [go_sem]
     skip
    ·simp -implicitDefEqProofs only [go_sem, zf7, zf9, zf2, List.contains_cons, List.contains_nil, Nat.reduceBEq, Bool.or_false, Bool.false_or, Bool.or_true, Bool.true_or]
     skip
    ·intro σ' hσ'
     rw [zbv]
     refine za4.wkS hσ' ?_
     clear hσ'
     cases hxc : xc.contains (-((a.length : Int) + 1))
     ·rw [if_pos rfl]
      refine za4.condT (by simp -implicitDefEqProofs only [go_sem, Bool.not_false]) ?_
      refine za4.ofEx (by kernel_rfl) ?_
      simp -implicitDefEqProofs only [go_sem]
     ·rw [if_neg (by simp)]
      refine za4.cond (b := false) (by simp -implicitDefEqProofs only [go_sem, Bool.not_true]) (fun h => by cases h) fun _ => ?_
      refine za4.ofEx (by kernel_rfl) ?_
      simp -implicitDefEqProofs only [go_sem]
      have HC2 := zkj S hS hSl m (a ++ [-((a.length : Int) + 1)]) xs hm12 (by rw [hv2]; exact hp2) hlen2 (by rw [hv2]; exact hvb) hu2 X.val hxs2
      have Y := zsx S hS m (a ++ [-((a.length : Int) + 1)]) xs (by rw [hv2]; exact hp2) (by rw [hv2]; exact hvb) hu2 X.val
      rw [hv2] at HC2
      generalize yl S m (a ++ [-((a.length : Int) + 1)]) xs = y at HC2 Y ⊢
      obtain ⟨⟨yn, yc⟩, ys⟩ := y
      simp only at HC2 ⊢
      refine za4.cut 0 rfl (by kernel_rfl) ?_
      simp -implicitDefEqProofs only [go_sem]
      refine callF (HO) (by simp -implicitDefEqProofs only [go_sem]) ?_
      simp -implicitDefEqProofs only [go_sem]
      rw [hwn]
      refine zan (by simp -implicitDefEqProofs only [go_sem]) ?_
      simp -implicitDefEqProofs only [go_sem]
      refine apD true (by simp -implicitDefEqProofs only [go_sem, ne_eq, List.length_map, hol]) ?_
      simp -implicitDefEqProofs only [go_sem, ne_eq, List.length_map, hol]
      rw [hw1, hm2]
      refine za1 [0, 1, 2, 8, 1000000] [38, 44, 46] [1000000] [] (HC2) (by decide) rfl (by simp -implicitDefEqProofs only [go_sem]) (by simp -implicitDefEqProofs only [go_sem]) (by simp -implicitDefEqProofs only [go_sem]) (by simp -implicitDefEqProofs only [go_sem]) ?_
      simp -implicitDefEqProofs only [go_sem]
      have yl' : ys.length + 1 <= xs.length + 2 ^ m := Y.len
      have yt : yn < S.length + ys.length := Y.lt
      have HCy := zkk S ys yn (by omega) (by omega) (by omega) (by omega)
      rw [Y.cl] at HCy
      simp only at HCy
      have HH2 := zee yc ((a.length : Int) + 1)
      refine za4.seq (za4.seq (za4.lendA [48, 49, 50, 51, 52, 53] rfl [(0, .one (.t (.ptr [zav S, psS ys]))), (2, vI ((a.length : Int) + 1)), (9, vI yn)] [(53, .one (.t (.bool (!yc.contains ((a.length : Int) + 1)))))] [] ?_ (fun e h => absurd rfl h) rfl rfl (zdz.ofEx (by kernel_rfl) (fun d h => h) ?_) (l := [(0, .one (.bx 1000000 0)), (2, vI ((a.length : Int) + 1)), (8, vI xn), (9, vI yn), (53, .one (.t (.bool (!yc.contains ((a.length : Int) + 1))))), (1000000, .one (.bx 1000000 0))]) (bl := [(1000000, [.rn (zav S), .ow 1506 0])]) (el := [(1506, ⟨true, 4, ys.map psC, 0, true⟩)]) (zaa ?_) ?_))
      ·refine Wk.fzO 1506 ?_
       simp -implicitDefEqProofs only [go_sem]
       refine Wk.fbO 1000000 ?_
       simp -implicitDefEqProofs only [go_sem]
       refine Wk.elP 0 (cs := [zav S, psS ys]) (by simp -implicitDefEqProofs only [go_sem]) (zaa ?_)
       simp -implicitDefEqProofs only [go_sem]
      ·simp -implicitDefEqProofs only [go_sem]
       refine callR (HCy) (by simp -implicitDefEqProofs only [go_sem]) ?_
       simp -implicitDefEqProofs only [go_sem]
       refine callF (HH2) (by simp -implicitDefEqProofs only [go_sem]) ?_
       simp -implicitDefEqProofs only [go_sem]
       refine zaa ?_
       simp -implicitDefEqProofs only [go_sem]
      ·simp -implicitDefEqProofs only [go_sem, zf7, zf9, zf2, List.contains_cons, List.contains_nil, Nat.reduceBEq, Bool.or_false, Bool.false_or, Bool.or_true, Bool.true_or]
      ·intro σ' hσ'
       rw [zbv]
       refine za4.wkS hσ' ?_
       clear hσ'
       cases hyc : yc.contains ((a.length : Int) + 1)
       ·rw [if_pos rfl]
        refine za4.condT (by simp -implicitDefEqProofs only [go_sem, Bool.not_false]) ?_
        refine za4.ofEx (by kernel_rfl) ?_
        simp -implicitDefEqProofs only [go_sem]
       ·rw [if_neg (by simp)]
        refine za4.cond (b := false) (by simp -implicitDefEqProofs only [go_sem, Bool.not_true]) (fun h => by cases h) fun _ => ?_
        refine za4.ofEx (by kernel_rfl) ?_
        simp -implicitDefEqProofs only [go_sem]
        obtain ⟨ext, hext⟩ : ∃ e, ys = xs ++ e := Y.ext
        have hclx : clA S ys xn = xc := by
         rw [hext, zbr (by omega)]; exact X.cl
        have hxy : xs.length <= ys.length := by rw [hext, List.length_append]; exact Nat.le_add_right _ _
        have hxn : ((xn : Nat) : Int) < (S.length : Int) + (ys.length : Int) := by
         have := Nat.lt_of_lt_of_le xt (Nat.add_le_add_left hxy _)
         exact Int.lt_of_lt_of_le (Int.ofNat_lt.2 this) (Int.le_of_eq (Int.natCast_add _ _))
        have HCx := zkk S ys xn (by omega) (by omega) (by omega) hxn
        rw [hclx] at HCx
        have hyl := zcn Y.pc
        have hxl := zcn X.pc
        simp only at hyl hxl
        have HR := zlv yc xc ((a.length : Int) + 1) (zgf Y.pc) (zgf X.pc) hvv (Nat.le_trans (Nat.add_le_add hyl hxl) (by decide))
        generalize zdb yc xc ((a.length : Int) + 1) = z at HR ⊢
        obtain ⟨zc, zb⟩ := z
        simp only at HR ⊢
        have hol2 : ys.length <= 4294967295 := by omega
        refine za4.seq (za4.lendA [56, 57, 58, 59, 60, 61, 62, 63, 55, 64, 65, 10, 11] rfl [(0, .one (.t (.ptr [zav S, psS ys]))), (2, vI ((a.length : Int) + 1)), (8, vI xn), (9, vI yn)] [(10, .one (.ow 2016 0))] [(2016, ⟨true, 1, zc.map fun s => [.int .i64 s], 0, true⟩)] ?_ (fun e h => ?_) rfl rfl (zdz.ofEx (by kernel_rfl) (fun d h => h) ?_) (l := [(0, .one (.bx 1000000 0)), (2, vI ((a.length : Int) + 1)), (8, vI xn), (9, vI yn), (10, .one (.ow 2016 0)), (1000000, .one (.bx 1000000 0))]) (bl := [(1000000, [.rn (zav S), .ow 1506 0])]) (el := [(1506, ⟨true, 4, ys.map psC, 0, true⟩), (2016, ⟨true, 1, zc.map fun s => [.int .i64 s], 0, true⟩)]) (zaa ?_) ?_)
        ·refine Wk.fzO 1506 ?_
         simp -implicitDefEqProofs only [go_sem]
         refine Wk.fbO 1000000 ?_
         simp -implicitDefEqProofs only [go_sem]
         refine Wk.elP 0 (cs := [zav S, psS ys]) (by simp -implicitDefEqProofs only [go_sem]) (zaa ?_)
         simp -implicitDefEqProofs only [go_sem]
        ·by_cases he : e = 2016
         ·subst he; simp -implicitDefEqProofs only [go_sem]
         ·exact absurd (by simp [tbl, he]) h
        ·simp -implicitDefEqProofs only [go_sem]
         refine callR (HCy) (by simp -implicitDefEqProofs only [go_sem]) ?_
         simp -implicitDefEqProofs only [go_sem]
         refine callR (HCx) (by simp -implicitDefEqProofs only [go_sem]) ?_
         simp -implicitDefEqProofs only [go_sem]
         refine callF (HR) (by simp -implicitDefEqProofs only [go_sem]) ?_
         simp -implicitDefEqProofs only [go_sem]
         refine zaa ?_
         simp -implicitDefEqProofs only [go_sem]
        ·simp -implicitDefEqProofs only [go_sem, zf7, zf9, zf2, List.contains_cons, List.contains_nil, Nat.reduceBEq, Bool.or_false, Bool.false_or, Bool.or_true, Bool.true_or]
        ·intro σ' hσ'
         rw [zbv]
         refine za4.wkS hσ' ?_
         clear hσ'
         refine za4.ofEx (by kernel_rfl) ?_
         simp -implicitDefEqProofs only [go_sem]
         refine zan (by simp -implicitDefEqProofs only [go_sem]) ?_
         simp -implicitDefEqProofs only [go_sem]
         refine apD true (by simp -implicitDefEqProofs only [go_sem, ne_eq, List.length_map, hol2]) ?_
         simp -implicitDefEqProofs only [go_sem, ne_eq, List.length_map, hol2]
         refine drawn (by kernel_rfl) ?_
         simp -implicitDefEqProofs only [go_sem]
         refine ⟨by kernel_rfl, ?_⟩
         exact Or.inl ⟨zqs (hwe _ (Nat.le_of_succ_le (Nat.le_trans yl' hxs2))), Or.inl (by rw [List.map_append]; rfl)⟩
end Go.Proofs.Yteeaofpphmhjdaa
namespace Go.Proofs.Yteeaofpphmhjdaa
set_option linter.unusedSimpArgs false
set_option linter.unusedVariables false
set_option linter.unusedSectionVars false
set_option maxRecDepth 4000
open Go.RowKit
theorem qbx (c m : List Int) : FC Try.prog 109 [.one (zas c), .one (.ptr [zas m])] [bD (!sat m c)] := by
 have H := zi8 c m
 refine zay Try.call109 Try.func109 rfl (by kernel_rfl) (zbb (by kernel_rfl)) ?_
 simp -implicitDefEqProofs only [go_sem, Try.results109]
 refine callF (H) (by simp -implicitDefEqProofs only [go_sem]) ?_
 simp -implicitDefEqProofs only [go_sem]
theorem isM_eq (S : List (List Int)) (m : List Int) : isM S m = !(S.any fun c => !sat m c) := by
 unfold isM
 rw [List.not_any_eq_all_not]; simp
theorem zxh (S : List (List Int)) (m : List Int) : FC Try.prog 69 [.one (zav S), .one (zas m)] [bD (isM S m)] := by
 have H := zcl S (fun c => !sat m c) 109 [.ptr [zas m]] fun c _ => qbx c m
 rw [isM_eq]
 refine zay Try.call69 Try.func69 rfl (by kernel_rfl) (zbb (by kernel_rfl)) ?_
 simp -implicitDefEqProofs only [go_sem, Try.results69]
 refine frzX 3 rfl rfl ?_
 simp -implicitDefEqProofs only [go_sem]
 refine callF (H) (by simp -implicitDefEqProofs only [go_sem]) ?_
 simp -implicitDefEqProofs only [go_sem]
def zsa (n k v : Nat) : List Int := List.replicate v 0 ++ asg ((v : Int) + 1) (n - v) k
theorem zz6 (n k v : Nat) (h : v <= n) : (zsa n k v).length = n := by
 unfold zsa
 rw [List.length_append, List.length_replicate, (show (asg ((v : Int) + 1) (n - v) k).length = n - v from ?_)]
 ·omega
 ·generalize n - v = m
  generalize (v : Int) + 1 = u
  induction m generalizing u with
  | zero => rfl
  | succ m ih => unfold asg; rw [List.length_cons, ih]
theorem qcd {n k v : Nat} (h : v + 1 <= n) : (zsa n k (v + 1)).set v (if k / 2 ^ (n - (v + 1)) % 2 = 1 then -((v : Int) + 1) else (v : Int) + 1) = zsa n k v := by
 unfold zsa
 rw [List.set_append_left _ _ (by rw [List.length_replicate]; omega), List.replicate_succ', List.set_append_right _ _ (by rw [List.length_replicate]; omega), List.length_replicate, Nat.sub_self, List.set_cons_zero, List.append_assoc]
 congr 1
 rw [show n - v = (n - (v + 1)) + 1 by omega, asg, List.singleton_append]
 congr 1
theorem zxg (n k : Nat) : zsa n k n = List.replicate n 0 := by unfold zsa; rw [Nat.sub_self, asg, List.append_nil]
theorem zy7 (n k : Nat) : zsa n k 0 = asg 1 n k := by unfold zsa; simp
theorem qf8 {x : Nat} (h : x <= 1099511627776) : IntKind.i64.wrap (((BitVec.ofInt 64 (x : Int) &&& BitVec.ofInt 64 1).toNat : Nat) : Int) = ((x % 2 : Nat) : Int) := by
 have e1 : BitVec.ofInt 64 (x : Int) = BitVec.ofNat 64 x := by simp
 have e2 : BitVec.ofInt 64 1 = BitVec.ofNat 64 1 := by rfl
 rw [e1, e2, BitVec.toNat_and, BitVec.toNat_ofNat, BitVec.toNat_ofNat, Nat.mod_eq_of_lt (by omega), Nat.mod_eq_of_lt (a := 1) (by omega), Nat.and_one_is_mod]
 exact zam (by omega) (by omega)
theorem qa5 (x : Nat) : (x : Int).fdiv (2 ^ min 1 64) = ((x / 2 : Nat) : Int) := by
 rw [show ((2 : Int) ^ min 1 64) = ((2 : Nat) : Int) from rfl, Int.fdiv_eq_ediv_of_nonneg _ (by omega)]
 exact (Int.natCast_ediv _ _).symm
set_option maxHeartbeats 1000000 in
theorem zh8 (k n : Nat) (hn : n <= 12) (hk : k <= 1048576) : FC Try.prog 68 [iD k, iD n] [.one (zas (asg 1 n k))] := by
 refine zay Try.call68 Try.func68 rfl (by kernel_rfl) (zbb (by kernel_rfl)) ?_
 simp -implicitDefEqProofs only [go_sem, Try.results68]
 refine qcm (by simp -implicitDefEqProofs only [go_sem]; omega) ?_
 simp -implicitDefEqProofs only [go_sem]
 refine zak (fun v : Nat => hd [(0, vI (k / 2 ^ (n - v) : Nat)), (5, .one (.ow 256 0)), (6, vI v)] [] [(256, ⟨true, 1, (zsa n k v).map fun s => [.int .i64 s], 0, true⟩)]) (fun v => v <= n) (fun v => v) n (zaa ?_) (Nat.le_refl _) ?_
 ·simp -implicitDefEqProofs only [go_sem]
  rw [zxg, List.map_replicate, Nat.sub_self, Nat.pow_zero, Nat.div_one]
  exact ⟨rfl, rfl⟩
 ·intro v hv
  cases v with
  | zero =>
   simp -implicitDefEqProofs only [go_sem]
   rw [zy7]
  | succ v =>
   have hwv : IntKind.i64.wrap (((v + 1 : Nat) : Int) - 1) = (v : Int) := by rw [zam (by omega) (by omega)]; omega
   have hlen := zz6 n k (v + 1) hv
   have hst := qcd (n := n) (k := k) (v := v) hv
   have h1v : (1 <= ((v + 1 : Nat) : Int)) = True := by simp; omega
   have hlv : v < (zsa n k (v + 1)).length := by omega
   have hst0 := zkg (zsa n k (v + 1)) v ((v : Int) + 1) hlv
   have hst1 := zkg ((zsa n k (v + 1)).set v ((v : Int) + 1)) v (-((v : Int) + 1)) (by rw [List.length_set]; exact hlv)
   rw [List.set_set] at hst1
   have hkv : k / 2 ^ (n - v) = k / 2 ^ (n - (v + 1)) / 2 := by rw [show n - v = (n - (v + 1)) + 1 by omega, Nat.pow_succ, Nat.div_div_eq_div_mul]
   have hXk : k / 2 ^ (n - (v + 1)) <= k := Nat.div_le_self _ _
   generalize k / 2 ^ (n - (v + 1)) = X at hst hkv hXk ⊢
   have hbx : -9223372036854775808 <= ((X / 2 : Nat) : Int) /\ ((X / 2 : Nat) : Int) <= 9223372036854775807 := by omega
   have hwv2 : IntKind.i64.wrap ((v : Int) + 1 - 1) = (v : Int) := by rw [zam (by omega) (by omega)]; omega
   have ha := qf8 (x := X) (by omega)
   have hd2 := qa5 X
   have hvn : ((v + 1 : Nat) : Int) = (v : Int) + 1 := by omega
   have hneg : IntKind.i64.wrap (0 - ((v : Int) + 1)) = -((v : Int) + 1) := by rw [zam (by omega) (by omega)]; omega
   simp -implicitDefEqProofs only [go_sem, h1v]
   rw [hwv]
   simp -implicitDefEqProofs only [go_sem, hlv]
   refine zeu (by simp -implicitDefEqProofs only [go_sem]; simp) ?_
   simp -implicitDefEqProofs only [go_sem]
   rw [hwv, hvn, hst0]
   refine ⟨fun h => ?_, fun h => ?_⟩
   ·have h' : (IntKind.i64.wrap (((BitVec.ofInt 64 (X : Int) &&& BitVec.ofInt 64 1).toNat : Nat) : Int) == 1) = true := h
    rw [ha] at h'
    have hx : X % 2 = 1 := by simp at h'; omega
    rw [if_pos hx] at hst
    rw [hneg]
    simp -implicitDefEqProofs only [go_sem, List.length_set, hlv]
    refine zeu (by simp -implicitDefEqProofs only [go_sem]; simp) ?_
    simp -implicitDefEqProofs only [go_sem]
    rw [hst1, hst, hd2]
    refine ⟨hbx, v, Nat.le_of_succ_le hv, Nat.lt_succ_self v, zaa ?_⟩
    simp -implicitDefEqProofs only [go_sem]
    rw [hkv, hwv2]
    exact ⟨rfl, rfl⟩
   ·have h' : (IntKind.i64.wrap (((BitVec.ofInt 64 (X : Int) &&& BitVec.ofInt 64 1).toNat : Nat) : Int) == 1) = false := h
    rw [ha] at h'
    have hx : ¬ X % 2 = 1 := by simp at h'; omega
    rw [if_neg hx] at hst
    rw [hd2]
    refine ⟨hbx, v, Nat.le_of_succ_le hv, Nat.lt_succ_self v, zaa ?_⟩
    simp -implicitDefEqProofs only [go_sem]
    rw [hkv, hst]
    exact ⟨rfl, rfl⟩
end Go.Proofs.Yteeaofpphmhjdaa
namespace Go.Proofs.Yteeaofpphmhjdaa
set_option linter.unusedSimpArgs false
set_option linter.unusedVariables false
set_option linter.unusedSectionVars false
set_option maxRecDepth 4000
open Go.RowKit
abbrev zzf (q : Cu) : Bxs := [[(false, zrb q.code), (false, .int .i64 q.pos), (false, .int .u64 q.seed)]]
theorem qe5 (b : UInt8) : IntKind.i64.wrap (b.toNat : Int) = b.toNat := by
 have := b.toNat_lt
 exact zam (by omega) (by omega)
theorem qbn (x : Int) : 0 <= (IntKind.u64.wrap x).fdiv (2 ^ 40) /\ (IntKind.u64.wrap x).fdiv (2 ^ 40) <= 18446744073709551615 := by
 have h : 0 <= IntKind.u64.wrap x /\ IntKind.u64.wrap x <= 18446744073709551615 := by
  have := I64.wrap .u64 x
  have m1 : IntKind.min .u64 = 0 := by decide
  have m2 : IntKind.max .u64 = 18446744073709551615 := by decide
  rw [m1, m2] at this; exact this
 generalize IntKind.u64.wrap x = y at h
 rw [Int.fdiv_eq_ediv_of_nonneg _ (by decide)]
 omega
theorem next_c (q : Cu) (hp : q.pos <= 1099511627776) : PC Try.prog 95 (zzf q) [.p 0] (zzf q.nx) [(true, iD q.v)] := by
 obtain ⟨code, pos, seed⟩ := q
 have hpw : IntKind.i64.wrap ((pos : Int) + 1) = ((pos + 1 : Nat) : Int) := zaw (by dsimp only at hp; omega)
 unfold Cu.v Cu.nx Cu.sd Cu.b
 dsimp only at hp ⊢
 by_cases hlt : pos < code.length
 ·have hli : ((pos : Int) < code.length) = True := by simp; omega
  have hle : (((pos + 1 : Nat) : Int) <= code.length) = True := by simp; omega
  have hg : code.getD pos 0 = code[pos] := by rw [List.getD_eq_getElem?_getD, List.getElem?_eq_getElem hlt]; rfl
  rw [if_pos hlt, if_pos (by omega), hg]
  refine zfb Try.call95 Try.func95 rfl (by kernel_rfl) (by simp only [List.length_cons, List.length_nil, Try.ntmps95]; omega) (by simp only [Try.ntmps95]; omega) rfl rfl (by simp [za8, T.isPin, AF.ds, bxA]) (by simp [gFS, T.fs, T.flat, AF.ds, bxA]) rfl ?_
  simp -implicitDefEqProofs only [go_sem, Try.results95]
  refine drawn (by kernel_rfl) ?_
  simp -implicitDefEqProofs only [go_sem, hli]
  refine ⟨by kernel_rfl, ?_⟩
  refine drawn (by kernel_rfl) ?_
  simp -implicitDefEqProofs only [go_sem, hlt, zag, qe5]
  refine ⟨by kernel_rfl, ?_⟩
  rw [hpw]
  refine drawn (by kernel_rfl) ?_
  simp -implicitDefEqProofs only [go_sem, hle]
  kernel_rfl
 ·have hli : ((pos : Int) < code.length) = False := by simp; omega
  have hle : (((pos + 1 : Nat) : Int) <= code.length) = False := by simp; omega
  rw [if_neg hlt, if_neg (by omega)]
  refine zfb Try.call95 Try.func95 rfl (by kernel_rfl) (by simp only [List.length_cons, List.length_nil, Try.ntmps95]; omega) (by simp only [Try.ntmps95]; omega) rfl rfl (by simp [za8, T.isPin, AF.ds, bxA]) (by simp [gFS, T.fs, T.flat, AF.ds, bxA]) rfl ?_
  simp -implicitDefEqProofs only [go_sem, Try.results95]
  refine drawn (by kernel_rfl) ?_
  simp -implicitDefEqProofs only [go_sem, hli]
  refine ⟨by kernel_rfl, ?_⟩
  rw [hpw]
  refine drawn (by kernel_rfl) ?_
  simp -implicitDefEqProofs only [go_sem, hle]
  refine ⟨by kernel_rfl, ?_⟩
  rw [show min 40 64 = 40 from rfl]
  exact ⟨qbn _, Or.inl rfl⟩
theorem qej (q : Cu) (hp : q.pos <= 1099511627776) (n : Int) (hn : n <= 200) : PC Try.prog 45 (zzf q) [.p 0, .d false (iD n)] (zzf (q.pick n).1) [(true, iD (q.pick n).2)] := by
 have HN := next_c q hp
 have hv := q.v_bd
 unfold Cu.pick
 by_cases h1 : n <= 1
 ·rw [if_pos h1]
  refine zfb Try.call45 Try.func45 rfl (by kernel_rfl) (by simp only [List.length_cons, List.length_nil, Try.ntmps45]; omega) (by simp only [Try.ntmps45]; omega) rfl rfl (by simp [za8, T.isPin, AF.ds, bxA]) (by simp [gFS, T.fs, T.flat, AF.ds, bxA]) rfl ?_
  simp -implicitDefEqProofs only [go_sem, Try.results45, h1]
 ·have h2 : (200 < n) = False := by simp; omega
  rw [if_neg h1]
  refine zfb Try.call45 Try.func45 rfl (by kernel_rfl) (by simp only [List.length_cons, List.length_nil, Try.ntmps45]; omega) (by simp only [Try.ntmps45]; omega) rfl rfl (by simp [za8, T.isPin, AF.ds, bxA]) (by simp [gFS, T.fs, T.flat, AF.ds, bxA]) rfl ?_
  simp -implicitDefEqProofs only [go_sem, Try.results45, h1]
  refine za1 [1, 1000000] [8] [1000000] [] (HN) (by decide) rfl (by simp -implicitDefEqProofs only [go_sem, h2]) (by simp -implicitDefEqProofs only [go_sem, h2]) (by simp -implicitDefEqProofs only [go_sem, h2]) (by simp -implicitDefEqProofs only [go_sem, h2]) ?_
  simp -implicitDefEqProofs only [go_sem, h2]
  have ht : 0 <= q.v.tmod n /\ q.v.tmod n < n := by
   rw [Int.tmod_eq_emod_of_nonneg hv.1]
   exact ⟨Int.emod_nonneg _ (by omega), Int.emod_lt_of_pos _ (by omega)⟩
  exact ⟨by omega, by omega, by omega⟩
theorem one_c (q : Cu) (hp : q.pos <= 1099511627776) (n : Int) (hn : n <= 200) : PC Try.prog 52 (zzf q) [.p 0, .d false (iD n)] (zzf (q.pick n).1) [(true, bD ((q.pick n).2 == 0))] := by
 have HN := qej q hp n hn
 refine zfb Try.call52 Try.func52 rfl (by kernel_rfl) (by simp only [List.length_cons, List.length_nil, Try.ntmps52]; omega) (by simp only [Try.ntmps52]; omega) rfl rfl (by simp [za8, T.isPin, AF.ds, bxA]) (by simp [gFS, T.fs, T.flat, AF.ds, bxA]) rfl ?_
 simp -implicitDefEqProofs only [go_sem, Try.results52]
 refine za1 [1000000] [5, 6] [1000000] [] (HN) (by decide) rfl (by simp -implicitDefEqProofs only [go_sem]) (by simp -implicitDefEqProofs only [go_sem]) (by simp -implicitDefEqProofs only [go_sem]) (by simp -implicitDefEqProofs only [go_sem]) ?_
 simp -implicitDefEqProofs only [go_sem]
abbrev zie (code : List UInt8) (q : Cu) : Bxs := [[(false, zrb code), (false, .int .i64 q.pos), (false, .int .u64 q.seed)]]
theorem zev {code : List UInt8} {q : Cu} (hc : q.code = code) (hp : q.pos <= 1099511627776) (n : Int) (hn : n <= 200) : PC Try.prog 45 (zie code q) [.p 0, .d false (iD n)] (zie code (q.pick n).1) [(true, iD (q.pick n).2)] := by
 subst hc
 have h := qej q hp n hn
 rw [show zzf (q.pick n).1 = zie q.code (q.pick n).1 by unfold zzf; rw [q.pick_code]] at h
 exact h
theorem qcw {code : List UInt8} {q : Cu} (hc : q.code = code) (hp : q.pos <= 1099511627776) (n : Int) (hn : n <= 200) : PC Try.prog 52 (zie code q) [.p 0, .d false (iD n)] (zie code (q.pick n).1) [(true, bD ((q.pick n).2 == 0))] := by
 subst hc
 have h := one_c q hp n hn
 rw [show zzf (q.pick n).1 = zie q.code (q.pick n).1 by unfold zzf; rw [q.pick_code]] at h
 exact h
theorem zp8 (q : Cu) (k : Nat) : clR q (k + 1) = if ((clR q k).1.pick 3).2 = 0 then ((((clR q k).1.pick 3).1.pick 2).1, (clR q k).2 ++ [qdf ((k : Int) + 1) ((((clR q k).1.pick 3).1.pick 2).2)]) else (((clR q k).1.pick 3).1, (clR q k).2) := rfl
theorem zjt {v x : Int} (hv : 0 <= v /\ v <= 1000) (hx : 0 <= x /\ x < 2) : IntKind.i64.wrap (v - IntKind.i64.wrap (IntKind.i64.wrap (2 * v) * x)) = qdf v x := by
 unfold qdf
 have : x = 0 \/ x = 1 := by omega
 rcases this with rfl | rfl
 ·rw [zam (n := 2 * v) (by omega) (by omega), Int.mul_zero, zam (n := 0) (by omega) (by omega), zam (by omega) (by omega)]
 ·rw [zam (n := 2 * v) (by omega) (by omega), Int.mul_one, zam (n := 2 * v) (by omega) (by omega), zam (by omega) (by omega)]
def clE (x : Cu × List Int) (n : Nat) : Cu × List Int := if x.2.take 3 = [] then
  if (x.1.pick 20).2 = 0 then ((x.1.pick 20).1, [])
  else (((((x.1.pick 20).1.pick n).1.pick 2).1), [qdf (1 + ((x.1.pick 20).1.pick n).2) (((x.1.pick 20).1.pick n).1.pick 2).2])
 else (x.1, x.2.take 3)
set_option maxHeartbeats 1000000 in
theorem zm5 (code : List UInt8) (q : Cu) (hcd : q.code = code) (n : Nat) (hp : q.pos <= 549755813888) (h1 : 1 <= n) (hn : n <= 100) (h3 : (clR q n).2.length <= 3) : PC Try.prog 53 (zie code q) [.p 0, .d false (iD n)] (zie code (clD q n).1) [(true, .one (zas (clD q n).2))] := by
 obtain ⟨R, hR⟩ : ∃ R, clD q n = R := ⟨_, rfl⟩
 have hE : clE (clR q n) n = R := hR
 rw [hR]
 refine zfb Try.call53 Try.func53 rfl (by kernel_rfl) (by simp only [List.length_cons, List.length_nil, Try.ntmps53]; omega) (by simp only [Try.ntmps53]; omega) rfl rfl (by simp [za8, T.isPin, AF.ds, bxA]) (by simp [gFS, T.fs, T.flat, AF.ds, bxA]) rfl ?_
 simp -implicitDefEqProofs only [go_sem, Try.results53]
 refine zan (by simp -implicitDefEqProofs only [go_sem]) ?_
 simp -implicitDefEqProofs only [go_sem]
 refine zak (fun k : Nat => hd [(0, .one (.bx 1000000 0)), (1, vI n), (5, .one (.ow 256 (clR q k).2.length)), (6, vI ((k : Int) + 1)), (1000000, .one (.bx 1000000 0))] [(1000000, [.rn (zrb code), .t (.int .i64 (clR q k).1.pos), .t (.int .u64 (clR q k).1.seed)])] [(256, ⟨true, 1, (clR q k).2.map fun s => [.int .i64 s], (clR q k).2.length, true⟩)]) (fun k => k <= n) (fun k => n - k) 0 (zaa ?_) (Nat.zero_le _) ?_
 ·simp -implicitDefEqProofs only [go_sem]
  exact ⟨⟨rfl, rfl⟩, rfl⟩
 ·intro k hk
  obtain ⟨g1, g2, g3, g4⟩ := zj2 q k
  rw [hcd] at g3
  have hs := zp8 q k
  by_cases hlt : k < n
  ·have hle : ((k : Int) + 1 <= n) = True := by simp; omega
   generalize clR q k = x at g1 g2 g3 g4 hs
   obtain ⟨Q, o⟩ := x
   simp only at g1 g2 g3 g4 hs
   have H1 := qcw g3 (by omega) 3 (by omega)
   have hpk := Q.pick_pos 3
   have hck := (Q.pick_code 3).trans g3
   have hwk : IntKind.i64.wrap ((k : Int) + 1 + 1) = ((k + 1 : Nat) : Int) + 1 := by rw [zam (by omega) (by omega)]; omega
   by_cases h0 : (Q.pick 3).2 = 0
   ·rw [if_pos h0] at hs
    rw [show ((Q.pick 3).2 == 0) = true by simpa using h0] at H1
    have H2 := zev hck (by omega) 2 (by omega)
    have hb2 := (Q.pick 3).1.pick_bd (n := 2) (by omega)
    have hlw := zjt (v := (k : Int) + 1) (by omega) hb2
    have hol : o.length <= 4294967295 := by omega
    simp -implicitDefEqProofs only [go_sem, hle]
    refine za1 [0, 1, 5, 6, 1000000] [14] [1000000] [] (H1) (by decide) rfl (by simp -implicitDefEqProofs only [go_sem]) (by simp -implicitDefEqProofs only [go_sem]) (by simp -implicitDefEqProofs only [go_sem]) (by simp -implicitDefEqProofs only [go_sem]) ?_
    simp -implicitDefEqProofs only [go_sem]
    refine za1 [0, 1, 5, 6, 16, 17, 19, 1000000] [20] [1000000] [] (H2) (by decide) rfl (by simp -implicitDefEqProofs only [go_sem]) (by simp -implicitDefEqProofs only [go_sem]) (by simp -implicitDefEqProofs only [go_sem]) (by simp -implicitDefEqProofs only [go_sem]) ?_
    simp -implicitDefEqProofs only [go_sem]
    rw [hlw]
    refine zan (by simp -implicitDefEqProofs only [go_sem]) ?_
    simp -implicitDefEqProofs only [go_sem]
    refine apD true (by simp -implicitDefEqProofs only [go_sem, ne_eq, List.length_map, hol]) ?_
    simp -implicitDefEqProofs only [go_sem, ne_eq, List.length_map, hol]
    refine ⟨k + 1, hlt, by omega, zaa ?_⟩
    simp -implicitDefEqProofs only [go_sem]
    rw [hwk, hs]
    exact ⟨rfl, ⟨rfl, rfl⟩, by rw [List.map_append]; rfl⟩
   ·rw [if_neg h0] at hs
    rw [show ((Q.pick 3).2 == 0) = false by simpa using h0] at H1
    simp -implicitDefEqProofs only [go_sem, hle]
    refine za1 [0, 1, 5, 6, 1000000] [14] [1000000] [] (H1) (by decide) rfl (by simp -implicitDefEqProofs only [go_sem]) (by simp -implicitDefEqProofs only [go_sem]) (by simp -implicitDefEqProofs only [go_sem]) (by simp -implicitDefEqProofs only [go_sem]) ?_
    simp -implicitDefEqProofs only [go_sem]
    refine ⟨k + 1, hlt, by omega, zaa ?_⟩
    simp -implicitDefEqProofs only [go_sem]
    rw [hwk, hs]
    exact ⟨rfl, ⟨rfl, rfl⟩, rfl⟩
  ·have hle : ((k : Int) + 1 <= n) = False := by simp; omega
   have hkn : k = n := by omega
   subst hkn
   generalize clR q k = x at g1 g2 g3 g4 h3 hE
   obtain ⟨Q, o⟩ := x
   simp only at g1 g2 g3 g4 h3 hE
   have ht3 : o.take 3 = o := List.take_of_length_le h3
   unfold clE at hE
   simp only [ht3] at hE
   have hl3 : ((3 : Int) < o.length) = False := by simp; omega
   by_cases hnil : o = []
   ·subst hnil
    rw [if_pos rfl] at hE
    have H1 := qcw g3 (by omega) 20 (by omega)
    have hpk := Q.pick_pos 20
    have hck := (Q.pick_code 20).trans g3
    by_cases h0 : (Q.pick 20).2 = 0
    ·rw [if_pos h0] at hE
     subst hE
     rw [show ((Q.pick 20).2 == 0) = true by simpa using h0] at H1
     simp -implicitDefEqProofs only [go_sem, hle, hl3]
     refine za1 [0, 1, 5, 34, 1000000] [35] [1000000] [] (H1) (by decide) rfl (by simp -implicitDefEqProofs only [go_sem]) (by simp -implicitDefEqProofs only [go_sem]) (by simp -implicitDefEqProofs only [go_sem]) (by simp -implicitDefEqProofs only [go_sem]) ?_
     simp -implicitDefEqProofs only [go_sem]
    ·rw [if_neg h0] at hE
     subst hE
     rw [show ((Q.pick 20).2 == 0) = false by simpa using h0] at H1
     have H2 := zev hck (by omega) k (by omega)
     have hb2 := (Q.pick 20).1.pick_bd (n := k) (by omega)
     have hpk2 := (Q.pick 20).1.pick_pos k
     have hck2 := ((Q.pick 20).1.pick_code k).trans hck
     have H3 := zev hck2 (by omega) 2 (by omega)
     have hb3 := ((Q.pick 20).1.pick k).1.pick_bd (n := 2) (by omega)
     have hlw := zjt (v := 1 + ((Q.pick 20).1.pick k).2) (by omega) hb3
     have hw1 : IntKind.i64.wrap (1 + ((Q.pick 20).1.pick k).2) = 1 + ((Q.pick 20).1.pick k).2 := zam (by omega) (by omega)
     simp -implicitDefEqProofs only [go_sem, hle, hl3]
     refine za1 [0, 1, 5, 34, 1000000] [35] [1000000] [] (H1) (by decide) rfl (by simp -implicitDefEqProofs only [go_sem]) (by simp -implicitDefEqProofs only [go_sem]) (by simp -implicitDefEqProofs only [go_sem]) (by simp -implicitDefEqProofs only [go_sem]) ?_
     simp -implicitDefEqProofs only [go_sem]
     refine za1 [0, 1, 5, 1000000] [39, 40] [1000000] [] (H2) (by decide) rfl (by simp -implicitDefEqProofs only [go_sem]) (by simp -implicitDefEqProofs only [go_sem]) (by simp -implicitDefEqProofs only [go_sem]) (by simp -implicitDefEqProofs only [go_sem]) ?_
     simp -implicitDefEqProofs only [go_sem]
     rw [hw1]
     refine za1 [0, 1, 5, 43, 44, 46, 1000000] [47] [1000000] [] (H3) (by decide) rfl (by simp -implicitDefEqProofs only [go_sem]) (by simp -implicitDefEqProofs only [go_sem]) (by simp -implicitDefEqProofs only [go_sem]) (by simp -implicitDefEqProofs only [go_sem]) ?_
     simp -implicitDefEqProofs only [go_sem]
     rw [hlw]
     refine zan (by simp -implicitDefEqProofs only [go_sem]) ?_
     simp -implicitDefEqProofs only [go_sem]
     refine apD true (by simp -implicitDefEqProofs only [go_sem, ne_eq]) ?_
     simp -implicitDefEqProofs only [go_sem, ne_eq]
   ·rw [if_neg hnil] at hE
    subst hE
    have hl0 : ((o.length : Int) == 0) = false := by
     rw [beq_eq_false_iff_ne]
     have : o.length ≠ 0 := fun e => hnil (List.length_eq_zero_iff.1 e)
     omega
    simp -implicitDefEqProofs only [go_sem, hle, hl3, hl0]
set_option maxHeartbeats 1000000 in
theorem zmb (code : List UInt8) (q : Cu) (hcd : q.code = code) (n : Nat) (hp : q.pos <= 549755813888) (h1 : 1 <= n) (hn : n <= 100) (h3 : 3 < (clR q n).2.length) : PC Try.prog 53 (zie code q) [.p 0, .d false (iD n)] (zie code (clD q n).1) [(true, .one (zas (clD q n).2))] := by
 obtain ⟨R, hR⟩ : ∃ R, clD q n = R := ⟨_, rfl⟩
 have hE : clE (clR q n) n = R := hR
 rw [hR]
 refine zpn Try.call53 Try.func53 rfl (by simp only [List.length_cons, List.length_nil, Try.ntmps53]; omega) (by simp only [Try.ntmps53]; omega) rfl rfl (by simp [za8, T.isPin, AF.ds, bxA]) (by simp [gFS, T.fs, T.flat, AF.ds, bxA]) rfl ?_
 refine za4.cut 2 rfl (by kernel_rfl) ?_
 simp -implicitDefEqProofs only [go_sem, Try.results53]
 refine zan (by simp -implicitDefEqProofs only [go_sem]) ?_
 simp -implicitDefEqProofs only [go_sem]
 refine zak (fun k : Nat => hd [(0, .one (.bx 1000000 0)), (1, vI n), (5, .one (.ow 256 (clR q k).2.length)), (6, vI ((k : Int) + 1)), (1000000, .one (.bx 1000000 0))] [(1000000, [.rn (zrb code), .t (.int .i64 (clR q k).1.pos), .t (.int .u64 (clR q k).1.seed)])] [(256, ⟨true, 1, (clR q k).2.map fun s => [.int .i64 s], (clR q k).2.length, true⟩)]) (fun k => k <= n) (fun k => n - k) 0 (zaa ?_) (Nat.zero_le _) ?_
 ·simp -implicitDefEqProofs only [go_sem]
  exact ⟨⟨rfl, rfl⟩, rfl⟩
 ·intro k hk
  obtain ⟨g1, g2, g3, g4⟩ := zj2 q k
  rw [hcd] at g3
  have hs := zp8 q k
  by_cases hlt : k < n
  ·have hle : ((k : Int) + 1 <= n) = True := by simp; omega
   generalize clR q k = x at g1 g2 g3 g4 hs
   obtain ⟨Q, o⟩ := x
   simp only at g1 g2 g3 g4 hs
   have H1 := qcw g3 (by omega) 3 (by omega)
   have hpk := Q.pick_pos 3
   have hck := (Q.pick_code 3).trans g3
   have hwk : IntKind.i64.wrap ((k : Int) + 1 + 1) = ((k + 1 : Nat) : Int) + 1 := by rw [zam (by omega) (by omega)]; omega
   by_cases h0 : (Q.pick 3).2 = 0
   ·rw [if_pos h0] at hs
    rw [show ((Q.pick 3).2 == 0) = true by simpa using h0] at H1
    have H2 := zev hck (by omega) 2 (by omega)
    have hb2 := (Q.pick 3).1.pick_bd (n := 2) (by omega)
    have hlw := zjt (v := (k : Int) + 1) (by omega) hb2
    have hol : o.length <= 4294967295 := by omega
    simp -implicitDefEqProofs only [go_sem, hle]
    refine za1 [0, 1, 5, 6, 1000000] [14] [1000000] [] (H1) (by decide) rfl (by simp -implicitDefEqProofs only [go_sem]) (by simp -implicitDefEqProofs only [go_sem]) (by simp -implicitDefEqProofs only [go_sem]) (by simp -implicitDefEqProofs only [go_sem]) ?_
    simp -implicitDefEqProofs only [go_sem]
    refine za1 [0, 1, 5, 6, 16, 17, 19, 1000000] [20] [1000000] [] (H2) (by decide) rfl (by simp -implicitDefEqProofs only [go_sem]) (by simp -implicitDefEqProofs only [go_sem]) (by simp -implicitDefEqProofs only [go_sem]) (by simp -implicitDefEqProofs only [go_sem]) ?_
    simp -implicitDefEqProofs only [go_sem]
    rw [hlw]
    refine zan (by simp -implicitDefEqProofs only [go_sem]) ?_
    simp -implicitDefEqProofs only [go_sem]
    refine apD true (by simp -implicitDefEqProofs only [go_sem, ne_eq, List.length_map, hol]) ?_
    simp -implicitDefEqProofs only [go_sem, ne_eq, List.length_map, hol]
    refine ⟨k + 1, hlt, by omega, zaa ?_⟩
    simp -implicitDefEqProofs only [go_sem]
    rw [hwk, hs]
    exact ⟨rfl, ⟨rfl, rfl⟩, by rw [List.map_append]; rfl⟩
   ·rw [if_neg h0] at hs
    rw [show ((Q.pick 3).2 == 0) = false by simpa using h0] at H1
    simp -implicitDefEqProofs only [go_sem, hle]
    refine za1 [0, 1, 5, 6, 1000000] [14] [1000000] [] (H1) (by decide) rfl (by simp -implicitDefEqProofs only [go_sem]) (by simp -implicitDefEqProofs only [go_sem]) (by simp -implicitDefEqProofs only [go_sem]) (by simp -implicitDefEqProofs only [go_sem]) ?_
    simp -implicitDefEqProofs only [go_sem]
    refine ⟨k + 1, hlt, by omega, zaa ?_⟩
    simp -implicitDefEqProofs only [go_sem]
    rw [hwk, hs]
    exact ⟨rfl, ⟨rfl, rfl⟩, rfl⟩
  ·have hle : ((k : Int) + 1 <= n) = False := by simp; omega
   have hkn : k = n := by omega
   subst hkn
   generalize clR q k = x at g1 g2 g3 g4 h3 hE
   obtain ⟨Q, o⟩ := x
   simp only at g1 g2 g3 g4 h3 hE
   unfold clE at hE
   have hl3 : ((3 : Int) < o.length) = True := by simp; omega
   have hne : (o.take 3).length = 3 := by rw [List.length_take]; omega
   rw [if_neg (fun e => by simp only at e; rw [e] at hne; cases hne)] at hE
   subst hE
   have hdt : decide ((3 : Int) < (o.length : Int)) = true := by rw [decide_eq_true_eq]; omega
   simp -implicitDefEqProofs only [go_sem, hle]
   refine za4.seq ?_
   refine za4.cut 0 rfl (by kernel_rfl) ?_
   simp -implicitDefEqProofs only [go_sem, hl3]
   refine za4.condT (by simp -implicitDefEqProofs only [go_sem, hdt]) ?_
   refine za4.cutO 1 rfl rfl rfl rfl (by kernel_rfl) (by simp only [Try.ntmps53]; omega) (el := 3) (by kernel_rfl) (by kernel_rfl) ?_
   simp -implicitDefEqProofs only [go_sem, List.take_succ_cons, List.take_zero]
   refine ⟨by omega, ?_⟩
   have hl0 : ((List.length (List.take 3 o) : Int) == 0) = false := by rw [hne]; rfl
   rw [<- List.map_take]
   refine za4.ofEx (by kernel_rfl) ?_
   simp -implicitDefEqProofs only [go_sem, List.length_map, hl0]
   skip
end Go.Proofs.Yteeaofpphmhjdaa
namespace Go.Proofs.Yteeaofpphmhjdaa
set_option linter.unusedSimpArgs false
set_option linter.unusedVariables false
set_option linter.unusedSectionVars false
set_option maxRecDepth 4000
open Go.RowKit
theorem zc6 {code : List UInt8} {q : Cu} (hc : q.code = code) (n : Nat) (hp : q.pos <= 549755813888) (h1 : 1 <= n) (hn : n <= 100) : PC Try.prog 53 (zie code q) [.p 0, .d false (iD n)] (zie code (clD q n).1) [(true, .one (zas (clD q n).2))] := by
 by_cases h3 : (clR q n).2.length <= 3
 ·exact zm5 code q hc n hp h1 hn h3
 ·exact zmb code q hc n hp h1 hn (by omega)
structure DrS (code : List UInt8) (b m k : Nat) (x : Cu × List (List Int)) : Prop where
 code : x.1.code = code
 pos : x.1.pos + k * b <= 274877910000
 len : x.2.length + k * m <= 2000
theorem DrS.put {code : List UInt8} {b m k n : Nat} {x : Cu × List (List Int)} (h : DrS code b m (k + 1) x) (hb : 2 * n + 3 <= b) (hm : 1 <= m) : DrS code b m k ((clD x.1 n).1, x.2 ++ [(clD x.1 n).2]) := by
 obtain ⟨p1, p2, p3, p4⟩ := zhy x.1 n
 have h1 := h.pos
 have h2 := h.len
 rw [Nat.add_mul] at h1 h2
 exact ⟨p3.trans h.code, by dsimp only; omega, by simp; omega⟩
set_option maxHeartbeats 1000000 in
theorem zwx {code : List UInt8} {q : Cu} (hc : q.code = code) (hp : q.pos <= 274877906944) : PC Try.prog 94 (zie code q) [.p 0] (zie code (zc1 q).1) [(true, .one (zav (zc1 q).2))] := by
 have H1 := zev hc (by omega) 4 (by omega)
 have b1 := q.pick_bd (n := 4) (by omega)
 have p1 := q.pick_pos 4
 have c1 := (q.pick_code 4).trans hc
 have H2 := zev c1 (by omega) 7 (by omega)
 have b2 := (q.pick 4).1.pick_bd (n := 7) (by omega)
 have p2 := (q.pick 4).1.pick_pos 7
 have c2 := ((q.pick 4).1.pick_code 7).trans c1
 have hS : zc1 q = zn1 (2 + (q.pick 4).2.toNat) ((ze1 (2 + (q.pick 4).2.toNat) (1 + ((q.pick 4).1.pick 7).2.toNat) (((q.pick 4).1.pick 7).1, [])).1.pick 14).2.toNat
  (((ze1 (2 + (q.pick 4).2.toNat) (1 + ((q.pick 4).1.pick 7).2.toNat) (((q.pick 4).1.pick 7).1, [])).1.pick 14).1, (ze1 (2 + (q.pick 4).2.toNat) (1 + ((q.pick 4).1.pick 7).2.toNat) (((q.pick 4).1.pick 7).1, [])).2) := rfl
 generalize (q.pick 4).1.pick 7 = a2 at H2 b2 p2 c2 hS
 obtain ⟨Q2, y⟩ := a2
 generalize hn : 2 + (q.pick 4).2.toNat = n at hS
 have hw1 : IntKind.i64.wrap (2 + (q.pick 4).2) = (n : Int) := by rw [zam (by omega) (by omega)]; omega
 simp only at b2 p2 c2 hS H2
 generalize hK : 1 + y.toNat = K at hS
 have hw2 : IntKind.i64.wrap (1 + y) = (K : Int) := by rw [zam (by omega) (by omega)]; omega
 generalize zc1 q = R at hS ⊢
 generalize hR1 : ze1 n K (Q2, []) = R1 at hS
 refine zfb Try.call94 Try.func94 rfl (by kernel_rfl) (by simp only [List.length_cons, List.length_nil, Try.ntmps94]; omega) (by simp only [Try.ntmps94]; omega) rfl rfl (by simp [za8, T.isPin, AF.ds, bxA]) (by simp [gFS, T.fs, T.flat, AF.ds, bxA]) rfl ?_
 simp -implicitDefEqProofs only [go_sem, Try.results94]
 refine zan (by simp -implicitDefEqProofs only [go_sem]) ?_
 simp -implicitDefEqProofs only [go_sem]
 refine za1 [0, 3, 1000000] [8] [1000000] [] (H1) (by decide) rfl (by simp -implicitDefEqProofs only [go_sem]) (by simp -implicitDefEqProofs only [go_sem]) (by simp -implicitDefEqProofs only [go_sem]) (by simp -implicitDefEqProofs only [go_sem]) ?_
 simp -implicitDefEqProofs only [go_sem]
 rw [hw1]
 refine za1 [0, 3, 4, 1000000] [11] [1000000] [] (H2) (by decide) rfl (by simp -implicitDefEqProofs only [go_sem]) (by simp -implicitDefEqProofs only [go_sem]) (by simp -implicitDefEqProofs only [go_sem]) (by simp -implicitDefEqProofs only [go_sem]) ?_
 simp -implicitDefEqProofs only [go_sem]
 rw [hw2]
 refine zak (fun x : Nat × (Cu × List (List Int)) => hd [(0, .one (.bx 1000000 0)), (3, .one (.ow 224 x.2.2.length)), (4, vI n), (5, vI x.1), (1000000, .one (.bx 1000000 0))] [(1000000, [.rn (zrb code), .t (.int .i64 x.2.1.pos), .t (.int .u64 x.2.1.seed)])] [(224, ⟨true, 1, x.2.2.map fun s => [zas s], x.2.2.length, true⟩)]) (fun x => ze1 n x.1 x.2 = R1 /\ DrS code 30 2 (x.1 + 50) x.2) (fun x => x.1) (K, (Q2, [])) (zaa ?_) ?_ ?_
 ·simp -implicitDefEqProofs only [go_sem]
 ·exact ⟨hR1, c2, by dsimp only; omega, by simp; omega⟩
 ·rintro ⟨k, x⟩ ⟨hr, hD⟩
  simp only at hr hD
  cases k with
  | succ k =>
   rw [ze1] at hr
   have hgt : ((0 : Int) < ((k + 1 : Nat) : Int)) = True := by simp
   have hwk : IntKind.i64.wrap (((k + 1 : Nat) : Int) - 1) = (k : Int) := by have := hD.len; rw [zam (by omega) (by omega)]; omega
   have hD' := hD.put (n := n) (k := k + 50) (by omega) (by omega)
   have HC := zc6 hD.code n (by have := hD.pos; omega) (by omega) (by omega)
   have hol : x.2.length <= 4294967295 := by have := hD.len; omega
   obtain ⟨Q, S⟩ := x
   simp only at hr hD hD' HC hol
   simp -implicitDefEqProofs only [go_sem, hgt]
   refine za1 [0, 3, 4, 5, 18, 1000000] [19, 20] [1000000] [] (HC) (by decide) rfl (by simp -implicitDefEqProofs only [go_sem]) (by simp -implicitDefEqProofs only [go_sem]) (by simp -implicitDefEqProofs only [go_sem]) (by simp -implicitDefEqProofs only [go_sem]) ?_
   simp -implicitDefEqProofs only [go_sem]
   refine zan (by simp -implicitDefEqProofs only [go_sem]) ?_
   simp -implicitDefEqProofs only [go_sem]
   refine apD true (by simp -implicitDefEqProofs only [go_sem, ne_eq, List.length_map, hol]) ?_
   simp -implicitDefEqProofs only [go_sem, ne_eq, List.length_map, hol]
   refine ⟨(k, ((clD Q n).1, S ++ [(clD Q n).2])), ⟨hr, hD'⟩, by simp only; omega, zaa ?_⟩
   simp -implicitDefEqProofs only [go_sem]
   rw [hwk, List.map_append]
   exact ⟨rfl, rfl⟩
  | zero =>
   have hr : x = R1 := hr
   subst hr
   have hgt : ((0 : Int) < ((0 : Nat) : Int)) = False := by simp
   have H3 := zev hD.code (by have := hD.pos; omega) 14 (by omega)
   have b3 := x.1.pick_bd (n := 14) (by omega)
   have p3 := x.1.pick_pos 14
   have c3 := (x.1.pick_code 14).trans hD.code
   obtain ⟨z, hz⟩ : ∃ z : Nat, (x.1.pick 14).2 = z := ⟨(x.1.pick 14).2.toNat, by omega⟩
   rw [hz] at H3 b3 hS
   rw [Int.toNat_natCast] at hS
   have hd0 := hD.pos
   have hd1 := hD.len
   obtain ⟨Q, S⟩ := x
   simp only at H3 p3 c3 hz hS hd0 hd1
   generalize (Q.pick 14).1 = Q3 at H3 p3 c3 hS
   simp -implicitDefEqProofs only [go_sem, hgt]
   refine za1 [0, 3, 4, 1000000] [24] [1000000] [] (H3) (by decide) rfl (by simp -implicitDefEqProofs only [go_sem]) (by simp -implicitDefEqProofs only [go_sem]) (by simp -implicitDefEqProofs only [go_sem]) (by simp -implicitDefEqProofs only [go_sem]) ?_
   simp -implicitDefEqProofs only [go_sem]
   refine zak (fun x : Nat × (Cu × List (List Int)) => hd [(0, .one (.bx 1000000 0)), (3, .one (.ow 224 x.2.2.length)), (4, vI n), (6, vI x.1), (1000000, .one (.bx 1000000 0))] [(1000000, [.rn (zrb code), .t (.int .i64 x.2.1.pos), .t (.int .u64 x.2.1.seed)])] [(224, ⟨true, 1, x.2.2.map fun s => [zas s], x.2.2.length, true⟩)]) (fun x => zn1 n x.1 x.2 = R /\ DrS code 40 2 (x.1 + 10) x.2) (fun x => x.1) (z, (Q3, S)) (zaa ?_) ?_ ?_
   ·simp -implicitDefEqProofs only [go_sem]
   ·exact ⟨hS.symm, c3, by dsimp only; omega, by dsimp only; omega⟩
   ·rintro ⟨k, x⟩ ⟨hr, hD⟩
    simp only at hr hD
    cases k with
    | succ k =>
     rw [zn1] at hr
     have hgt : ((0 : Int) < ((k + 1 : Nat) : Int)) = True := by simp
     have hwk : IntKind.i64.wrap (((k + 1 : Nat) : Int) - 1) = (k : Int) := by have := hD.len; rw [zam (by omega) (by omega)]; omega
     have H4 := qcw hD.code (by have := hD.pos; omega) 2 (by omega)
     have p4 := x.1.pick_pos 2
     have c4 := (x.1.pick_code 2).trans hD.code
     have e0 := hD.pos
     have e1 := hD.len
     obtain ⟨Q, S⟩ := x
     simp only at hr H4 p4 c4 e0 e1
     by_cases h0 : (Q.pick 2).2 = 0
     ·rw [if_pos h0] at hr
      rw [show ((Q.pick 2).2 == 0) = true by simpa using h0] at H4
      generalize (Q.pick 2).1 = Q4 at H4 p4 c4 hr
      have HC := zc6 c4 n (by omega) (by omega) (by omega)
      obtain ⟨u1, u2, u3, u4⟩ := zhy Q4 n
      have HD := zc6 (u3.trans c4) 2 (by omega) (by omega) (by omega)
      obtain ⟨v1, v2, v3, v4⟩ := zhy (clD Q4 n).1 2
      have hol : S.length <= 4294967294 := by omega
      have hol1 : S.length <= 4294967295 := by omega
      have hol2 : S.length + 1 <= 4294967295 := by omega
      generalize clD Q4 n = C1 at HC u1 u2 u3 u4 HD v1 v2 v3 v4 hr
      obtain ⟨Q5, s1⟩ := C1
      simp only at HC u1 u2 u3 u4 HD v1 v2 v3 v4 hr
      generalize clD Q5 2 = C2 at HD v1 v2 v3 v4 hr
      obtain ⟨Q6, s2⟩ := C2
      simp only at HD v1 v2 v3 v4 hr
      simp -implicitDefEqProofs only [go_sem, hgt]
      refine za1 [0, 3, 4, 6, 28, 1000000] [29] [1000000] [] (H4) (by decide) rfl (by simp -implicitDefEqProofs only [go_sem]) (by simp -implicitDefEqProofs only [go_sem]) (by simp -implicitDefEqProofs only [go_sem]) (by simp -implicitDefEqProofs only [go_sem]) ?_
      simp -implicitDefEqProofs only [go_sem]
      refine za1 [0, 3, 4, 6, 34, 1000000] [35, 36] [1000000] [] (HC) (by decide) rfl (by simp -implicitDefEqProofs only [go_sem]) (by simp -implicitDefEqProofs only [go_sem]) (by simp -implicitDefEqProofs only [go_sem]) (by simp -implicitDefEqProofs only [go_sem]) ?_
      simp -implicitDefEqProofs only [go_sem]
      refine zan (by simp -implicitDefEqProofs only [go_sem]) ?_
      simp -implicitDefEqProofs only [go_sem]
      refine apD true (by simp -implicitDefEqProofs only [go_sem, ne_eq, List.length_map, hol1]) ?_
      simp -implicitDefEqProofs only [go_sem, ne_eq, List.length_map, hol1]
      refine za1 [0, 3, 4, 6, 40, 1000000] [41] [1000000] [] (HD) (by decide) rfl (by simp -implicitDefEqProofs only [go_sem]) (by simp -implicitDefEqProofs only [go_sem]) (by simp -implicitDefEqProofs only [go_sem]) (by simp -implicitDefEqProofs only [go_sem]) ?_
      simp -implicitDefEqProofs only [go_sem]
      refine zan (by simp -implicitDefEqProofs only [go_sem]) ?_
      simp -implicitDefEqProofs only [go_sem]
      refine apD true (by simp -implicitDefEqProofs only [go_sem, ne_eq, List.length_map, List.length_append, List.length_cons, List.length_nil, hol2]) ?_
      simp -implicitDefEqProofs only [go_sem, ne_eq, List.length_map, List.length_append, List.length_cons, List.length_nil, hol2]
      refine ⟨(k, (Q6, S ++ [s1] ++ [s2])), ⟨hr, v3.trans (u3.trans c4), ?_, ?_⟩, by simp only; omega, zaa ?_⟩
      ·dsimp only; rw [Nat.add_mul] at e0 ⊢; omega
      ·simp; omega
      ·simp -implicitDefEqProofs only [go_sem]
       rw [hwk, List.map_append, List.map_append]
       exact ⟨rfl, rfl⟩
     ·rw [if_neg h0] at hr
      subst hr
      rw [show ((Q.pick 2).2 == 0) = false by simpa using h0] at H4
      simp -implicitDefEqProofs only [go_sem, hgt]
      refine za1 [0, 3, 4, 6, 28, 1000000] [29] [1000000] [] (H4) (by decide) rfl (by simp -implicitDefEqProofs only [go_sem]) (by simp -implicitDefEqProofs only [go_sem]) (by simp -implicitDefEqProofs only [go_sem]) (by simp -implicitDefEqProofs only [go_sem]) ?_
      simp -implicitDefEqProofs only [go_sem]
    | zero =>
     have hr : x = R := hr
     subst hr
     have hgt : ((0 : Int) < ((0 : Nat) : Int)) = False := by simp
     simp -implicitDefEqProofs only [go_sem, hgt]
end Go.Proofs.Yteeaofpphmhjdaa
namespace Go.Proofs.Yteeaofpphmhjdaa
set_option linter.unusedSimpArgs false
set_option linter.unusedVariables false
set_option linter.unusedSectionVars false
set_option maxRecDepth 4000
open Go.RowKit
theorem qge {code : List UInt8} {q : Cu} (hc : q.code = code) (hp : q.pos <= 1099511627776) (l : List Int) (hl : 1 <= l.length) (hn : l.length <= 200) : PC Try.prog 70 (zie code q) [.p 0, .d true (.one (zas l))] (zie code (zs4 q l).1) [(true, iD (zs4 q l).2)] := by
 have HN := zev hc hp l.length (by omega)
 have hb := q.pick_bd (n := l.length) (by omega)
 unfold zs4
 obtain ⟨j, hj⟩ : ∃ j : Nat, (q.pick l.length).2 = j := ⟨(q.pick l.length).2.toNat, by omega⟩
 have hjl : j < l.length := by omega
 rw [hj] at HN ⊢
 refine zfb Try.call70 Try.func70 rfl (by kernel_rfl) (by simp only [List.length_cons, List.length_nil, Try.ntmps70]; omega) (by simp only [Try.ntmps70]; omega) rfl rfl (by simp [za8, T.isPin, AF.ds, bxA]) (by simp [gFS, T.fs, T.flat, AF.ds, bxA]) rfl ?_
 simp -implicitDefEqProofs only [go_sem, Try.results70]
 refine za1 [5, 1000000] [6, 8] [1000000] [] (HN) (by decide) rfl (by simp -implicitDefEqProofs only [go_sem, hjl, zag]) (by simp -implicitDefEqProofs only [go_sem, hjl, zag]) (by simp -implicitDefEqProofs only [go_sem, hjl, zag]) (by simp -implicitDefEqProofs only [go_sem, hjl, zag]) ?_
 simp -implicitDefEqProofs only [go_sem, hjl, zag]
 exact Or.inl (by rw [List.getD_eq_getElem?_getD, List.getElem?_eq_getElem hjl]; rfl)
def anyE (y : Cu × Int) (S : List (List Int)) : Cu × List (List Int) :=
 if y.2 = 0 then ((zs4 y.1 [0, 13, -13]).1, S ++ [[(zs4 y.1 [0, 13, -13]).2]])
 else if y.2 = 1 then (y.1, S ++ [[2, 1]])
 else if y.2 = 2 then (y.1, S ++ [[1, -1]])
 else if y.2 = 3 then zo9 (42 - S.length) (y.1, S)
 else if y.2 = 4 then (y.1, S ++ [[12], [-12, 7]])
 else (y.1, S)
theorem qg8 (q : Cu) : zzj q = anyE ((zc1 q).1.pick 30) (zc1 q).2 := rfl
set_option maxHeartbeats 1000000 in
theorem qah {code : List UInt8} {q : Cu} (hc : q.code = code) (hp : q.pos <= 137438953472) : PC Try.prog 44 (zie code q) [.p 0] (zie code (zzj q).1) [(true, .one (zav (zzj q).2))] := by
 have H0 := zwx hc (by omega)
 have hg := zwb q
 have hpos := hg.pos
 have hcd := hg.code.trans hc
 have hlen := hg.len
 have hA := qg8 q
 generalize zzj q = R at hA ⊢
 generalize zc1 q = x at H0 hpos hcd hlen hA
 obtain ⟨Q, S⟩ := x
 simp only at H0 hpos hcd hlen hA
 have H1 := zev hcd (by omega) 30 (by omega)
 have b1 := Q.pick_bd (n := 30) (by omega)
 have p1 := Q.pick_pos 30
 have c1 := (Q.pick_code 30).trans hcd
 generalize Q.pick 30 = y at H1 b1 p1 c1 hA
 obtain ⟨Q1, z⟩ := y
 simp only at H1 b1 p1 c1
 unfold anyE at hA
 simp only at hA
 have hol : S.length <= 4294967295 := by omega
 have hol2 : S.length <= 4294967294 := by omega
 have hg0 : ¬ S.length = 4294967295 := by omega
 by_cases h0 : z = 0
 ·rw [if_pos h0] at hA
  subst h0 hA
  have H2 : PC Try.prog 70 (zie code Q1) [.p 0, .d true (.one (.sl 1 [[.int .i64 0], [.int .i64 13], [.int .i64 (-13)]]))] (zie code (zs4 Q1 [0, 13, -13]).1) [(true, iD (zs4 Q1 [0, 13, -13]).2)] := qge c1 (by omega) [0, 13, -13] (by simp) (by simp)
  generalize zs4 Q1 [0, 13, -13] = v at H2 ⊢
  obtain ⟨Q2, u⟩ := v
  simp only at H2 ⊢
  refine zfb Try.call44 Try.func44 rfl (by kernel_rfl) (by simp only [List.length_cons, List.length_nil, Try.ntmps44]; omega) (by simp only [Try.ntmps44]; omega) rfl rfl (by simp [za8, T.isPin, AF.ds, bxA]) (by simp [gFS, T.fs, T.flat, AF.ds, bxA]) rfl ?_
  simp -implicitDefEqProofs only [go_sem, Try.results44]
  refine za1 [0, 1000000] [4] [1000000] [] (H0) (by decide) rfl (by simp -implicitDefEqProofs only [go_sem]) (by simp -implicitDefEqProofs only [go_sem]) (by simp -implicitDefEqProofs only [go_sem]) (by simp -implicitDefEqProofs only [go_sem]) ?_
  simp -implicitDefEqProofs only [go_sem]
  refine za1 [0, 3, 1000000] [6] [1000000] [] (H1) (by decide) rfl (by simp -implicitDefEqProofs only [go_sem]) (by simp -implicitDefEqProofs only [go_sem]) (by simp -implicitDefEqProofs only [go_sem]) (by simp -implicitDefEqProofs only [go_sem]) ?_
  simp -implicitDefEqProofs only [go_sem]
  refine zan (by simp -implicitDefEqProofs only [go_sem]) ?_
  simp -implicitDefEqProofs only [go_sem]
  refine za1 [10, 1000000] [11, 12] [1000000] [] (H2) (by decide) rfl (by simp -implicitDefEqProofs only [go_sem]) (by simp -implicitDefEqProofs only [go_sem]) (by simp -implicitDefEqProofs only [go_sem]) (by simp -implicitDefEqProofs only [go_sem]) ?_
  simp -implicitDefEqProofs only [go_sem]
  refine zan (by simp -implicitDefEqProofs only [go_sem]) ?_
  simp -implicitDefEqProofs only [go_sem]
  refine zan (by simp -implicitDefEqProofs only [go_sem]) ?_
  simp -implicitDefEqProofs only [go_sem]
  refine apD true (by simp -implicitDefEqProofs only [go_sem, ne_eq, List.length_map, hol]) ?_
  simp -implicitDefEqProofs only [go_sem, ne_eq, List.length_map, hol]
  rw [List.map_append]
  exact Or.inl (Or.inl rfl)
 ·rw [if_neg h0] at hA
  have n0 : (z == (0 : Int)) = false := by simpa using h0
  by_cases h1 : z = 1
  ·rw [if_pos h1] at hA
   subst h1 hA
   refine zfb Try.call44 Try.func44 rfl (by kernel_rfl) (by simp only [List.length_cons, List.length_nil, Try.ntmps44]; omega) (by simp only [Try.ntmps44]; omega) rfl rfl (by simp [za8, T.isPin, AF.ds, bxA]) (by simp [gFS, T.fs, T.flat, AF.ds, bxA]) rfl ?_
   simp -implicitDefEqProofs only [go_sem, Try.results44]
   refine za1 [0, 1000000] [4] [1000000] [] (H0) (by decide) rfl (by simp -implicitDefEqProofs only [go_sem]) (by simp -implicitDefEqProofs only [go_sem]) (by simp -implicitDefEqProofs only [go_sem]) (by simp -implicitDefEqProofs only [go_sem]) ?_
   simp -implicitDefEqProofs only [go_sem]
   refine za1 [0, 3, 1000000] [6] [1000000] [] (H1) (by decide) rfl (by simp -implicitDefEqProofs only [go_sem]) (by simp -implicitDefEqProofs only [go_sem]) (by simp -implicitDefEqProofs only [go_sem]) (by simp -implicitDefEqProofs only [go_sem]) ?_
   simp -implicitDefEqProofs only [go_sem]
   refine zan (by simp -implicitDefEqProofs only [go_sem]) ?_
   simp -implicitDefEqProofs only [go_sem]
   refine zan (by simp -implicitDefEqProofs only [go_sem]) ?_
   simp -implicitDefEqProofs only [go_sem]
   refine apD true (by simp -implicitDefEqProofs only [go_sem, ne_eq, List.length_map, hol]) ?_
   simp -implicitDefEqProofs only [go_sem, ne_eq, List.length_map, hol]
   rw [List.map_append]
   exact Or.inl (Or.inl rfl)
  ·rw [if_neg h1] at hA
   have n1 : (z == (1 : Int)) = false := by simpa using h1
   by_cases h2 : z = 2
   ·rw [if_pos h2] at hA
    subst h2 hA
    refine zfb Try.call44 Try.func44 rfl (by kernel_rfl) (by simp only [List.length_cons, List.length_nil, Try.ntmps44]; omega) (by simp only [Try.ntmps44]; omega) rfl rfl (by simp [za8, T.isPin, AF.ds, bxA]) (by simp [gFS, T.fs, T.flat, AF.ds, bxA]) rfl ?_
    simp -implicitDefEqProofs only [go_sem, Try.results44]
    refine za1 [0, 1000000] [4] [1000000] [] (H0) (by decide) rfl (by simp -implicitDefEqProofs only [go_sem]) (by simp -implicitDefEqProofs only [go_sem]) (by simp -implicitDefEqProofs only [go_sem]) (by simp -implicitDefEqProofs only [go_sem]) ?_
    simp -implicitDefEqProofs only [go_sem]
    refine za1 [0, 3, 1000000] [6] [1000000] [] (H1) (by decide) rfl (by simp -implicitDefEqProofs only [go_sem]) (by simp -implicitDefEqProofs only [go_sem]) (by simp -implicitDefEqProofs only [go_sem]) (by simp -implicitDefEqProofs only [go_sem]) ?_
    simp -implicitDefEqProofs only [go_sem]
    refine zan (by simp -implicitDefEqProofs only [go_sem]) ?_
    simp -implicitDefEqProofs only [go_sem]
    refine zan (by simp -implicitDefEqProofs only [go_sem]) ?_
    simp -implicitDefEqProofs only [go_sem]
    refine apD true (by simp -implicitDefEqProofs only [go_sem, ne_eq, List.length_map, hol]) ?_
    simp -implicitDefEqProofs only [go_sem, ne_eq, List.length_map, hol]
    rw [List.map_append]
    exact Or.inl (Or.inl rfl)
   ·rw [if_neg h2] at hA
    have n2 : (z == (2 : Int)) = false := by simpa using h2
    by_cases h3 : z = 3
    ·rw [if_pos h3] at hA
     subst h3
     refine zfb Try.call44 Try.func44 rfl (by kernel_rfl) (by simp only [List.length_cons, List.length_nil, Try.ntmps44]; omega) (by simp only [Try.ntmps44]; omega) rfl rfl (by simp [za8, T.isPin, AF.ds, bxA]) (by simp [gFS, T.fs, T.flat, AF.ds, bxA]) rfl ?_
     simp -implicitDefEqProofs only [go_sem, Try.results44]
     refine za1 [0, 1000000] [4] [1000000] [] (H0) (by decide) rfl (by simp -implicitDefEqProofs only [go_sem]) (by simp -implicitDefEqProofs only [go_sem]) (by simp -implicitDefEqProofs only [go_sem]) (by simp -implicitDefEqProofs only [go_sem]) ?_
     simp -implicitDefEqProofs only [go_sem]
     refine za1 [0, 3, 1000000] [6] [1000000] [] (H1) (by decide) rfl (by simp -implicitDefEqProofs only [go_sem]) (by simp -implicitDefEqProofs only [go_sem]) (by simp -implicitDefEqProofs only [go_sem]) (by simp -implicitDefEqProofs only [go_sem]) ?_
     simp -implicitDefEqProofs only [go_sem]
     refine zak (fun x : Nat × (Cu × List (List Int)) => hd [(0, .one (.bx 1000000 0)), (3, .one (.ow 160 (42 - S.length - x.1))), (7, vI 3), (1000000, .one (.bx 1000000 0))] [(1000000, [.rn (zrb code), .t (.int .i64 x.2.1.pos), .t (.int .u64 x.2.1.seed)])] [(160, ⟨true, 1, x.2.2.map fun s => [zas s], 42 - S.length - x.1, true⟩)]) (fun x => zo9 x.1 x.2 = R /\ (1 <= x.1 /\ x.1 + x.2.2.length = 42 /\ S.length <= x.2.2.length) /\ DrS code 40 2 (x.1 + 10) x.2) (fun x => x.1) (42 - S.length, (Q1, S)) (zaa ?_) ?_ ?_
     ·simp -implicitDefEqProofs only [go_sem]
      skip
     ·exact ⟨hA.symm, ⟨by simp only; omega, by simp only; omega, Nat.le_refl _⟩, c1, by dsimp only; omega, by dsimp only; omega⟩
     ·rintro ⟨k, x⟩ ⟨hr, hk, hD⟩
      simp only at hr hk hD
      cases k with
      | zero => exact absurd hk.1 (by omega)
      | succ k =>
       rw [zo9] at hr
       have H4 := zev hD.code (by have := hD.pos; omega) 2 (by omega)
       have b4 := x.1.pick_bd (n := 2) (by omega)
       have p4 := x.1.pick_pos 2
       have c4 := (x.1.pick_code 2).trans hD.code
       have e0 := hD.pos
       have e1 := hD.len
       obtain ⟨Q, U⟩ := x
       simp only at hr H4 p4 c4 e0 e1 b4 hk
       generalize Q.pick 2 = y at H4 p4 c4 b4 hr
       obtain ⟨Q4, u⟩ := y
       simp only at hr H4 p4 c4 b4
       have hw : IntKind.i64.wrap (40 + u) = 40 + u := zam (by omega) (by omega)
       have hgen : 42 - S.length - k = 42 - S.length - (k + 1) + 1 := by omega
       by_cases hlt : (U.length : Int) < 40 + u
       ·rw [if_pos hlt] at hr
        have hlt' : ((U.length : Int) < 40 + u) = True := by simpa using hlt
        have HC := zc6 c4 6 (by omega) (by omega) (by omega)
        obtain ⟨u1, u2, u3, u4⟩ := zhy Q4 6
        have hol1 : U.length <= 4294967295 := by omega
        generalize clD Q4 6 = C1 at HC u1 u2 u3 u4 hr
        obtain ⟨Q5, s1⟩ := C1
        simp only at HC u1 u2 u3 u4 hr
        simp -implicitDefEqProofs only [go_sem]
        refine za1 [0, 3, 7, 32, 1000000] [33] [1000000] [] (H4) (by decide) rfl (by simp -implicitDefEqProofs only [go_sem]) (by simp -implicitDefEqProofs only [go_sem]) (by simp -implicitDefEqProofs only [go_sem]) (by simp -implicitDefEqProofs only [go_sem]) ?_
        simp -implicitDefEqProofs only [go_sem]
        rw [hw]
        simp -implicitDefEqProofs only [go_sem, hlt']
        refine za1 [0, 7, 37, 1000000] [38] [1000000] [] (HC) (by decide) rfl (by simp -implicitDefEqProofs only [go_sem]) (by simp -implicitDefEqProofs only [go_sem]) (by simp -implicitDefEqProofs only [go_sem]) (by simp -implicitDefEqProofs only [go_sem]) ?_
        simp -implicitDefEqProofs only [go_sem]
        refine zan (by simp -implicitDefEqProofs only [go_sem]) ?_
        simp -implicitDefEqProofs only [go_sem]
        refine apD true (by simp -implicitDefEqProofs only [go_sem, ne_eq, List.length_map, hol1]) ?_
        simp -implicitDefEqProofs only [go_sem, ne_eq, List.length_map, hol1]
        refine ⟨(k, (Q5, U ++ [s1])), ⟨hr, ⟨by simp only; omega, by simp; omega, by simp; omega⟩, u3.trans c4, ?_, ?_⟩, by simp only; omega, zaa ?_⟩
        ·dsimp only; rw [Nat.add_mul] at e0 ⊢; omega
        ·simp; omega
        ·simp -implicitDefEqProofs only [go_sem]
         rw [hgen, List.map_append]
         rfl
       ·rw [if_neg hlt] at hr
        subst hr
        have hlt' : ((U.length : Int) < 40 + u) = False := by simpa using hlt
        simp -implicitDefEqProofs only [go_sem]
        refine za1 [0, 3, 7, 32, 1000000] [33] [1000000] [] (H4) (by decide) rfl (by simp -implicitDefEqProofs only [go_sem]) (by simp -implicitDefEqProofs only [go_sem]) (by simp -implicitDefEqProofs only [go_sem]) (by simp -implicitDefEqProofs only [go_sem]) ?_
        simp -implicitDefEqProofs only [go_sem]
        rw [hw]
        simp -implicitDefEqProofs only [go_sem, hlt']
        skip
    ·rw [if_neg h3] at hA
     have n3 : (z == (3 : Int)) = false := by simpa using h3
     by_cases h4 : z = 4
     ·rw [if_pos h4] at hA
      subst h4 hA
      refine zfb Try.call44 Try.func44 rfl (by kernel_rfl) (by simp only [List.length_cons, List.length_nil, Try.ntmps44]; omega) (by simp only [Try.ntmps44]; omega) rfl rfl (by simp [za8, T.isPin, AF.ds, bxA]) (by simp [gFS, T.fs, T.flat, AF.ds, bxA]) rfl ?_
      simp -implicitDefEqProofs only [go_sem, Try.results44]
      refine za1 [0, 1000000] [4] [1000000] [] (H0) (by decide) rfl (by simp -implicitDefEqProofs only [go_sem]) (by simp -implicitDefEqProofs only [go_sem]) (by simp -implicitDefEqProofs only [go_sem]) (by simp -implicitDefEqProofs only [go_sem]) ?_
      simp -implicitDefEqProofs only [go_sem]
      refine za1 [0, 3, 1000000] [6] [1000000] [] (H1) (by decide) rfl (by simp -implicitDefEqProofs only [go_sem]) (by simp -implicitDefEqProofs only [go_sem]) (by simp -implicitDefEqProofs only [go_sem]) (by simp -implicitDefEqProofs only [go_sem]) ?_
      simp -implicitDefEqProofs only [go_sem]
      refine zan (by simp -implicitDefEqProofs only [go_sem]) ?_
      simp -implicitDefEqProofs only [go_sem]
      refine zan (by simp -implicitDefEqProofs only [go_sem]) ?_
      simp -implicitDefEqProofs only [go_sem]
      refine zan (by simp -implicitDefEqProofs only [go_sem]) ?_
      simp -implicitDefEqProofs only [go_sem]
      refine apD true (by simp -implicitDefEqProofs only [go_sem, ne_eq, List.length_map, hol2]) ?_
      simp -implicitDefEqProofs only [go_sem, ne_eq, List.length_map, hol2]
      rw [List.map_append]
      exact Or.inl (Or.inl rfl)
     ·rw [if_neg h4] at hA
      have n4 : (z == (4 : Int)) = false := by simpa using h4
      subst hA
      refine zfb Try.call44 Try.func44 rfl (by kernel_rfl) (by simp only [List.length_cons, List.length_nil, Try.ntmps44]; omega) (by simp only [Try.ntmps44]; omega) rfl rfl (by simp [za8, T.isPin, AF.ds, bxA]) (by simp [gFS, T.fs, T.flat, AF.ds, bxA]) rfl ?_
      simp -implicitDefEqProofs only [go_sem, Try.results44]
      refine za1 [0, 1000000] [4] [1000000] [] (H0) (by decide) rfl (by simp -implicitDefEqProofs only [go_sem]) (by simp -implicitDefEqProofs only [go_sem]) (by simp -implicitDefEqProofs only [go_sem]) (by simp -implicitDefEqProofs only [go_sem]) ?_
      simp -implicitDefEqProofs only [go_sem]
      refine za1 [0, 3, 1000000] [6] [1000000] [] (H1) (by decide) rfl (by simp -implicitDefEqProofs only [go_sem, n0, n1, n2, n3, n4]) (by simp -implicitDefEqProofs only [go_sem, n0, n1, n2, n3, n4]) (by simp -implicitDefEqProofs only [go_sem, n0, n1, n2, n3, n4]) (by simp -implicitDefEqProofs only [go_sem, n0, n1, n2, n3, n4]) ?_
      simp -implicitDefEqProofs only [go_sem, n0, n1, n2, n3, n4]
      skip
end Go.Proofs.Yteeaofpphmhjdaa
namespace Go.Proofs.Yteeaofpphmhjdaa
set_option linter.unusedSimpArgs false
set_option linter.unusedVariables false
set_option linter.unusedSectionVars false
set_option maxRecDepth 4000
open Go.RowKit
theorem vBig_c (code : List UInt8) : FC Try.prog 10 [.one (zrb code)] [bD (decide (65536 < (code.length : Int)))] := by
 refine zay Try.call10 Try.func10 rfl (by kernel_rfl) (zbb (by kernel_rfl)) ?_
 simp -implicitDefEqProofs only [go_sem, Try.results10]
def q0 (code : List UInt8) : Cu := ⟨code, 0, 0⟩
end Go.Proofs.Yteeaofpphmhjdaa
namespace Go.Proofs.Yteeaofpphmhjdaa
set_option linter.unusedSimpArgs false
set_option linter.unusedVariables false
set_option linter.unusedSectionVars false
set_option maxRecDepth 4000
open Go.RowKit
def fmR (S : List (List Int)) : (List Int × Bool) × Bool := if zgw S = true then ((match zk9 S with | some m => (m, true) | none => ([], false)), true) else (([], false), false)
theorem qgu {S : List (List Int)} {n k : Nat} (hn : zea S = n) (hk : k < 2 ^ n) (hno : ∀ j, j < k -> isM S (asg 1 n j) = false) (hy : isM S (asg 1 n k) = true) : zk9 S = some (asg 1 n k) := by
 rw [zyv, hn, Int.toNat_natCast]
 rw [show (List.range (2 ^ n)).find? (fun k => isM S (asg 1 n k)) = some k from List.find?_range_eq_some.2 ⟨hy, by simpa using hk, fun j hj => by rw [hno j hj]; rfl⟩]
 rfl
theorem qgg {S : List (List Int)} {n : Nat} (hn : zea S = n) (hno : ∀ j, j < 2 ^ n -> isM S (asg 1 n j) = false) : zk9 S = none := by
 rw [zyv, hn, Int.toNat_natCast]
 rw [show (List.range (2 ^ n)).find? (fun k => isM S (asg 1 n k)) = none from List.find?_range_eq_none.2 fun j hj => by rw [hno j hj]; rfl]
 rfl
set_option maxHeartbeats 1000000 in
theorem zgp (S : List (List Int)) : FC Try.prog 18 [.one (zav S)] [.one (zas (fmR S).1.1), bD (fmR S).1.2, bD (fmR S).2] := by
 have H1 := zdx S
 unfold fmR
 cases h1 : zgw S
 ·rw [h1] at H1
  rw [if_neg (by simp)]
  refine zay Try.call18 Try.func18 rfl (by kernel_rfl) (zbb (by kernel_rfl)) ?_
  simp -implicitDefEqProofs only [go_sem, Try.results18]
  refine callF (H1) (by simp -implicitDefEqProofs only [go_sem]) ?_
  simp -implicitDefEqProofs only [go_sem]
 ·rw [h1] at H1
  rw [if_pos rfl]
  have hm := zj1 S
  have hm2 := zk6 fun c hc => zb2 h1 hc
  obtain ⟨n, hn⟩ : ∃ n : Nat, zea S = n := ⟨(zea S).toNat, by omega⟩
  have HG := zr9 S fun c hc => zgf (zb2 h1 hc)
  rw [hn] at HG
  have hn12 : n <= 12 := by omega
  have hp : 2 ^ n <= 4096 := Nat.pow_le_pow_right (n := 2) (by omega) hn12
  refine zay Try.call18 Try.func18 rfl (by kernel_rfl) (zbb (by kernel_rfl)) ?_
  simp -implicitDefEqProofs only [go_sem, Try.results18]
  refine callF (H1) (by simp -implicitDefEqProofs only [go_sem]) ?_
  simp -implicitDefEqProofs only [go_sem]
  refine callF (HG) (by simp -implicitDefEqProofs only [go_sem]) ?_
  simp -implicitDefEqProofs only [go_sem]
  have hs : IntKind.i64.wrap (1 * 2 ^ min n 64) = ((2 ^ n : Nat) : Int) := by
   rw [Nat.min_eq_left (by omega), Int.one_mul, show ((2 : Int) ^ n) = ((2 ^ n : Nat) : Int) by simp]
   generalize 2 ^ n = N at hp
   exact zam (by omega) (by omega)
  refine zak (fun k : Nat => hd [(0, vT (zav S)), (5, vI n), (14, vI (2 ^ n : Nat)), (15, vI k)] [] []) (fun k => k <= 2 ^ n /\ ∀ j, j < k -> isM S (asg 1 n j) = false) (fun k => 2 ^ n - k) 0 (zaa ?_) ⟨Nat.zero_le _, fun j hj => absurd hj (by omega)⟩ ?_
  ·simp -implicitDefEqProofs only [go_sem]
   rw [hs]
  ·intro k ⟨hk, hno⟩
   by_cases hkl : k < 2 ^ n
   ·have HA := zh8 k n hn12 (by omega)
    have HM := zxh S (asg 1 n k)
    have hwk : IntKind.i64.wrap ((k : Int) + 1) = ((k + 1 : Nat) : Int) := zaw (by omega)
    have hkl' : ((k : Int) < ((2 ^ n : Nat) : Int)) = True := by simpa using (by omega : (k : Int) < ((2 ^ n : Nat) : Int))
    cases hy : isM S (asg 1 n k)
    ·rw [hy] at HM
     simp -implicitDefEqProofs only [go_sem, hkl']
     refine callF (HA) (by simp -implicitDefEqProofs only [go_sem]) ?_
     simp -implicitDefEqProofs only [go_sem]
     refine callF (HM) (by simp -implicitDefEqProofs only [go_sem]) ?_
     simp -implicitDefEqProofs only [go_sem]
     rw [hwk]
     exact ⟨k + 1, ⟨hkl, fun j hj => by rcases Nat.lt_succ_iff_lt_or_eq.1 hj with h | h; exact hno j h; rw [h]; exact hy⟩, by omega, zaa (by simp -implicitDefEqProofs only [go_sem])⟩
    ·rw [hy] at HM
     rw [qgu hn hkl hno hy]
     simp -implicitDefEqProofs only [go_sem, hkl']
     refine callF (HA) (by simp -implicitDefEqProofs only [go_sem]) ?_
     simp -implicitDefEqProofs only [go_sem]
     refine callF (HM) (by simp -implicitDefEqProofs only [go_sem]) ?_
     simp -implicitDefEqProofs only [go_sem]
     skip
   ·have hkl' : ((k : Int) < ((2 ^ n : Nat) : Int)) = False := by simpa using (by omega : ¬ (k : Int) < ((2 ^ n : Nat) : Int))
    rw [qgg hn fun j hj => hno j (by omega)]
    simp -implicitDefEqProofs only [go_sem, hkl']
    skip
end Go.Proofs.Yteeaofpphmhjdaa
namespace Go.Proofs.Yteeaofpphmhjdaa
set_option linter.unusedSimpArgs false
set_option linter.unusedVariables false
set_option linter.unusedSectionVars false
set_option maxRecDepth 4000
open Go.RowKit
theorem zjy (S : List (List Int)) : ∀ (n : Nat) (a : List Int) (v : Int), zyh S n a v <= 2 ^ n
 | 0, a, v => by
  unfold zyh
  split <;> simp
 | n + 1, a, v => by
  have h1 := zjy S n (a ++ [v]) (v + 1)
  have h2 := zjy S n (a ++ [-v]) (v + 1)
  unfold zyh
  split
  ·exact Nat.zero_le _
  ·rw [Nat.pow_succ]
   dsimp only
   omega
theorem zra {S : List (List Int)} {a : List Int} (ha : zzh a) : (0 <= zzs S a) = ((S.any fun c => fal a c) = true) := by
 rw [znv S ha, <- List.findIdx?_isSome]
 cases S.findIdx? (fal a) with
 | none => simp
 | some i => simp
set_option maxHeartbeats 1000000 in
theorem ziz (S : List (List Int)) (hS : ∀ c ∈ S, Sm c) : ∀ (n : Nat) (a : List Int) (v last : Int), n <= 12 -> Pre a v -> v + n <= 100 -> last = v + n - 1 -> a.length + n <= 1000 -> FC Try.prog 73 [.one (zav S), .one (zas a), iD v, iD last] [iD (zyh S n a v : Nat)]
 | n, a, v, last, hn, hp, hv, hlast, hal => by
  have HF := zep S a hS
  have hfn := zra (S := S) hp.cons
  have hvp := hp.pos
  unfold zyh
  by_cases hf : (S.any fun c => fal a c) = true
  ·rw [if_pos hf]
   have h0 : (0 <= zzs S a) = True := by rw [hfn]; simpa using hf
   refine zay Try.call73 Try.func73 rfl (by kernel_rfl) (zbb (by kernel_rfl)) ?_
   simp -implicitDefEqProofs only [go_sem, Try.results73]
   refine callF (HF) (by simp -implicitDefEqProofs only [go_sem, h0]) ?_
   simp -implicitDefEqProofs only [go_sem, h0]
   skip
  ·rw [if_neg hf]
   have h0 : (0 <= zzs S a) = False := by rw [hfn]; simpa using hf
   cases n with
   | zero =>
    have hgt : (last < v) = True := by simpa using (by omega : last < v)
    refine zay Try.call73 Try.func73 rfl (by kernel_rfl) (zbb (by kernel_rfl)) ?_
    simp -implicitDefEqProofs only [go_sem, Try.results73]
    refine callF (HF) (by simp -implicitDefEqProofs only [go_sem, h0, hgt]) ?_
    simp -implicitDefEqProofs only [go_sem, h0, hgt]
    skip
   | succ n =>
    have hgt : (last < v) = False := by simpa using (by omega : ¬ last < v)
    have HO := zoe a (by omega)
    have HC1 := ziz S hS n (a ++ [v]) (v + 1) last (by omega) (hp.put (zcj (by omega))) (by omega) (by omega) (by simp; omega)
    have HC2 := ziz S hS n (a ++ [-v]) (v + 1) last (by omega) (hp.put (by rw [zc3, zcj (by omega)])) (by omega) (by omega) (by simp; omega)
    have hl1 := zjy S n (a ++ [v]) (v + 1)
    have hl2 := zjy S n (a ++ [-v]) (v + 1)
    have hpw : 2 ^ n <= 4096 := Nat.le_trans (Nat.pow_le_pow_right (n := 2) (by omega) (show n <= 12 by omega)) (by decide)
    have hw1 : IntKind.i64.wrap (v + 1) = v + 1 := zam (by omega) (by omega)
    have hw2 : IntKind.i64.wrap (0 - v) = -v := by rw [zam (by omega) (by omega)]; omega
    have hal1 : a.length <= 4294967295 := by omega
    have hwc : IntKind.i64.wrap ((zyh S n (a ++ [v]) (v + 1) : Nat) + (zyh S n (a ++ [-v]) (v + 1) : Nat) : Int) = ((zyh S n (a ++ [v]) (v + 1) + zyh S n (a ++ [-v]) (v + 1) : Nat) : Int) := by rw [zam (by omega) (by omega)]; omega
    refine zay Try.call73 Try.func73 rfl (by kernel_rfl) (zbb (by kernel_rfl)) ?_
    simp -implicitDefEqProofs only [go_sem, Try.results73]
    refine callF (HF) (by simp -implicitDefEqProofs only [go_sem, h0, hgt]) ?_
    simp -implicitDefEqProofs only [go_sem, h0, hgt]
    refine callF (HO) (by simp -implicitDefEqProofs only [go_sem]) ?_
    simp -implicitDefEqProofs only [go_sem]
    refine zan (by simp -implicitDefEqProofs only [go_sem]) ?_
    simp -implicitDefEqProofs only [go_sem]
    refine apD true (by simp -implicitDefEqProofs only [go_sem, ne_eq, List.length_map, hal1]) ?_
    simp -implicitDefEqProofs only [go_sem, ne_eq, List.length_map, hal1]
    have hm1 : (a.map fun s => [T.int .i64 s]) ++ [[T.int .i64 v]] = (a ++ [v]).map fun s => [T.int .i64 s] := by rw [List.map_append]; rfl
    have hm2 : (a.map fun s => [T.int .i64 s]) ++ [[T.int .i64 (-v)]] = (a ++ [-v]).map fun s => [T.int .i64 s] := by rw [List.map_append]; rfl
    rw [hw1, hm1]
    refine callF (HC1) (by simp -implicitDefEqProofs only [go_sem]) ?_
    simp -implicitDefEqProofs only [go_sem]
    refine callF (HO) (by simp -implicitDefEqProofs only [go_sem]) ?_
    simp -implicitDefEqProofs only [go_sem]
    rw [hw2]
    refine zan (by simp -implicitDefEqProofs only [go_sem]) ?_
    simp -implicitDefEqProofs only [go_sem]
    refine apD true (by simp -implicitDefEqProofs only [go_sem, ne_eq, List.length_map, hal1]) ?_
    simp -implicitDefEqProofs only [go_sem, ne_eq, List.length_map, hal1]
    rw [hw1, hm2]
    refine callF (HC2) (by simp -implicitDefEqProofs only [go_sem]) ?_
    simp -implicitDefEqProofs only [go_sem]
    rw [hwc]
    skip
set_option maxHeartbeats 1000000 in
theorem ze6 (S : List (List Int)) (hS : ∀ c ∈ S, Sm c) : ∀ (n : Nat) (a : List Int) (v last : Int), n <= 12 -> Pre a v -> v + n <= 100 -> last = v + n - 1 -> a.length + n <= 1000 -> FC Try.prog 74 [.one (zav S), .one (zas a), iD v, iD last] [.one (zas ((qap S n a v).getD [])), bD (qap S n a v).isSome]
 | n, a, v, last, hn, hp, hv, hlast, hal => by
  have HF := zep S a hS
  have hfn := zra (S := S) hp.cons
  have hvp := hp.pos
  have HO := zoe a (by omega)
  unfold qap
  by_cases hf : (S.any fun c => fal a c) = true
  ·rw [if_pos hf]
   have h0 : (0 <= zzs S a) = True := by rw [hfn]; simpa using hf
   refine zay Try.call74 Try.func74 rfl (by kernel_rfl) (zbb (by kernel_rfl)) ?_
   simp -implicitDefEqProofs only [go_sem, Try.results74]
   refine callF (HF) (by simp -implicitDefEqProofs only [go_sem, h0]) ?_
   simp -implicitDefEqProofs only [go_sem, h0]
   refine zan (by simp -implicitDefEqProofs only [go_sem]) ?_
   simp -implicitDefEqProofs only [go_sem]
   exact ⟨rfl, rfl⟩
  ·rw [if_neg hf]
   have h0 : (0 <= zzs S a) = False := by rw [hfn]; simpa using hf
   cases n with
   | zero =>
    have hgt : (last < v) = True := by simpa using (by omega : last < v)
    refine zay Try.call74 Try.func74 rfl (by kernel_rfl) (zbb (by kernel_rfl)) ?_
    simp -implicitDefEqProofs only [go_sem, Try.results74]
    refine callF (HF) (by simp -implicitDefEqProofs only [go_sem, h0, hgt]) ?_
    simp -implicitDefEqProofs only [go_sem, h0, hgt]
    refine callF (HO) (by simp -implicitDefEqProofs only [go_sem]) ?_
    simp -implicitDefEqProofs only [go_sem]
    skip
   | succ n =>
    have hgt : (last < v) = False := by simpa using (by omega : ¬ last < v)
    have HC1 := ze6 S hS n (a ++ [v]) (v + 1) last (by omega) (hp.put (zcj (by omega))) (by omega) (by omega) (by simp; omega)
    have HC2 := ze6 S hS n (a ++ [-v]) (v + 1) last (by omega) (hp.put (by rw [zc3, zcj (by omega)])) (by omega) (by omega) (by simp; omega)
    have hw1 : IntKind.i64.wrap (v + 1) = v + 1 := zam (by omega) (by omega)
    have hw2 : IntKind.i64.wrap (0 - v) = -v := by rw [zam (by omega) (by omega)]; omega
    have hal1 : a.length <= 4294967295 := by omega
    have hm1 : (a.map fun s => [T.int .i64 s]) ++ [[T.int .i64 v]] = (a ++ [v]).map fun s => [T.int .i64 s] := by rw [List.map_append]; rfl
    have hm2 : (a.map fun s => [T.int .i64 s]) ++ [[T.int .i64 (-v)]] = (a ++ [-v]).map fun s => [T.int .i64 s] := by rw [List.map_append]; rfl
    cases h1 : qap S n (a ++ [v]) (v + 1) with
    | some m =>
     rw [h1] at HC1
     have HC1 : FC Try.prog 74 [.one (zav S), .one (zas (a ++ [v])), iD (v + 1), iD last] [.one (zas m), bD true] := HC1
     refine zay Try.call74 Try.func74 rfl (by kernel_rfl) (zbb (by kernel_rfl)) ?_
     simp -implicitDefEqProofs only [go_sem, Try.results74]
     refine callF (HF) (by simp -implicitDefEqProofs only [go_sem, h0, hgt]) ?_
     simp -implicitDefEqProofs only [go_sem, h0, hgt]
     refine callF (HO) (by simp -implicitDefEqProofs only [go_sem]) ?_
     simp -implicitDefEqProofs only [go_sem]
     refine zan (by simp -implicitDefEqProofs only [go_sem]) ?_
     simp -implicitDefEqProofs only [go_sem]
     refine apD true (by simp -implicitDefEqProofs only [go_sem, ne_eq, List.length_map, hal1]) ?_
     simp -implicitDefEqProofs only [go_sem, ne_eq, List.length_map, hal1]
     rw [hw1, hm1]
     refine callF (HC1) (by simp -implicitDefEqProofs only [go_sem]) ?_
     simp -implicitDefEqProofs only [go_sem]
     rw [h1]
     exact ⟨rfl, rfl⟩
    | none =>
     rw [h1] at HC1
     have HC1 : FC Try.prog 74 [.one (zav S), .one (zas (a ++ [v])), iD (v + 1), iD last] [.one (zas []), bD false] := HC1
     refine zay Try.call74 Try.func74 rfl (by kernel_rfl) (zbb (by kernel_rfl)) ?_
     simp -implicitDefEqProofs only [go_sem, Try.results74]
     refine callF (HF) (by simp -implicitDefEqProofs only [go_sem, h0, hgt]) ?_
     simp -implicitDefEqProofs only [go_sem, h0, hgt]
     refine callF (HO) (by simp -implicitDefEqProofs only [go_sem]) ?_
     simp -implicitDefEqProofs only [go_sem]
     refine zan (by simp -implicitDefEqProofs only [go_sem]) ?_
     simp -implicitDefEqProofs only [go_sem]
     refine apD true (by simp -implicitDefEqProofs only [go_sem, ne_eq, List.length_map, hal1]) ?_
     simp -implicitDefEqProofs only [go_sem, ne_eq, List.length_map, hal1]
     rw [hw1, hm1]
     refine callF (HC1) (by simp -implicitDefEqProofs only [go_sem]) ?_
     simp -implicitDefEqProofs only [go_sem]
     refine callF (HO) (by simp -implicitDefEqProofs only [go_sem]) ?_
     simp -implicitDefEqProofs only [go_sem]
     rw [hw2]
     refine zan (by simp -implicitDefEqProofs only [go_sem]) ?_
     simp -implicitDefEqProofs only [go_sem]
     refine apD true (by simp -implicitDefEqProofs only [go_sem, ne_eq, List.length_map, hal1]) ?_
     simp -implicitDefEqProofs only [go_sem, ne_eq, List.length_map, hal1]
     rw [hw1, hm2]
     refine callF (HC2) (by simp -implicitDefEqProofs only [go_sem]) ?_
     simp -implicitDefEqProofs only [go_sem]
     rw [h1]
     exact ⟨rfl, rfl⟩
end Go.Proofs.Yteeaofpphmhjdaa
namespace Go.Proofs.Yteeaofpphmhjdaa
set_option linter.unusedSimpArgs false
set_option linter.unusedVariables false
set_option linter.unusedSectionVars false
set_option maxRecDepth 4000
open Go.RowKit
def rfS (S : List (List Int)) : List Ps := (yl S (zea S).toNat [] []).2
def rfO (S : List (List Int)) : Bool := zgw S && ((S.findIdx? (fal [])).isNone && ((zk9 S).isNone && decide ((rfS S).length <= 200)))
def rfR (S : List (List Int)) : List Ps × Bool := if rfO S = true then (rfS S, true) else ([], false)
set_option maxHeartbeats 2000000 in
theorem zpi (S : List (List Int)) : FC Try.prog 26 [.one (zav S)] [.one (psS (rfR S).1), bD (rfR S).2] := by
 have H1 := qaj S
 unfold rfR rfO
 cases h1 : zgw S
 ·rw [h1] at H1
  rw [Bool.false_and, if_neg (by simp)]
  refine zde Try.call26 Try.func26 rfl (by kernel_rfl) (zbb (by kernel_rfl)) ?_
  simp -implicitDefEqProofs only [go_sem, Try.results26]
  refine callF (H1) (by simp -implicitDefEqProofs only [go_sem]) ?_
  simp -implicitDefEqProofs only [go_sem]
  refine zan (by simp -implicitDefEqProofs only [go_sem]) ?_
  simp -implicitDefEqProofs only [go_sem]
 ·rw [h1] at H1
  have hS : ∀ c ∈ S, pcl c = true := fun c hc => zb2 h1 hc
  have hSm : ∀ c ∈ S, Sm c := fun c hc => zgf (hS c hc)
  have hSl := zer h1
  have HF := zep S [] hSm
  rw [znv S Pre.nil.cons] at HF
  cases hf : S.findIdx? (fal []) with
  | some i =>
   rw [hf] at HF
   have HF : FC Try.prog 79 [.one (zav S), .one (zas [])] [iD i] := HF
   rw [show (true && ((some i).isNone && ((zk9 S).isNone && decide ((rfS S).length <= 200)))) = false from rfl, if_neg (by simp)]
   refine zde Try.call26 Try.func26 rfl (by kernel_rfl) (zbb (by kernel_rfl)) ?_
   simp -implicitDefEqProofs only [go_sem, Try.results26]
   refine callF (H1) (by simp -implicitDefEqProofs only [go_sem]) ?_
   simp -implicitDefEqProofs only [go_sem]
   refine zan (by simp -implicitDefEqProofs only [go_sem]) ?_
   simp -implicitDefEqProofs only [go_sem]
   refine callF (HF) (by simp -implicitDefEqProofs only [go_sem]) ?_
   simp -implicitDefEqProofs only [go_sem]
   refine zan (by simp -implicitDefEqProofs only [go_sem]) ?_
   simp -implicitDefEqProofs only [go_sem]
  | none =>
   rw [hf] at HF
   have HF : FC Try.prog 79 [.one (zav S), .one (zas [])] [iD (-1)] := HF
   have HM := zxl S hSm
   have hm := zj1 S
   have hm2 := zk6 hS
   have HC := ze6 S hSm (zea S).toNat [] 1 (zea S) (by omega) Pre.nil (by omega) (by omega) (by simp; omega)
   rw [zw4 hS] at HC
   cases hfm : zk9 S with
   | some m =>
    rw [hfm] at HC
    have HC : FC Try.prog 74 [.one (zav S), .one (zas []), iD 1, iD (zea S)] [.one (zas m), bD true] := HC
    rw [show (true && ((none : Option Nat).isNone && ((some m).isNone && decide ((rfS S).length <= 200)))) = false from rfl, if_neg (by simp)]
    refine zde Try.call26 Try.func26 rfl (by kernel_rfl) (zbb (by kernel_rfl)) ?_
    simp -implicitDefEqProofs only [go_sem, Try.results26]
    refine callF (H1) (by simp -implicitDefEqProofs only [go_sem]) ?_
    simp -implicitDefEqProofs only [go_sem]
    refine zan (by simp -implicitDefEqProofs only [go_sem]) ?_
    simp -implicitDefEqProofs only [go_sem]
    refine callF (HF) (by simp -implicitDefEqProofs only [go_sem]) ?_
    simp -implicitDefEqProofs only [go_sem]
    refine zan (by simp -implicitDefEqProofs only [go_sem]) ?_
    simp -implicitDefEqProofs only [go_sem]
    refine callF (HM) (by simp -implicitDefEqProofs only [go_sem]) ?_
    simp -implicitDefEqProofs only [go_sem]
    refine callF (HC) (by simp -implicitDefEqProofs only [go_sem]) ?_
    simp -implicitDefEqProofs only [go_sem]
    refine zan (by simp -implicitDefEqProofs only [go_sem]) ?_
    simp -implicitDefEqProofs only [go_sem]
   | none =>
    rw [hfm] at HC
    have HC : FC Try.prog 74 [.one (zav S), .one (zas []), iD 1, iD (zea S)] [.one (zas []), bD false] := HC
    have hno := zfu hfm
    have hvv : ∀ c ∈ S, ∀ l ∈ c, 0 < ab l /\ ab l < ((([] : List Int).length : Nat) : Int) + 1 + ((zea S).toNat : Nat) := fun c hc l hl => by
     have := (zcx (hS c hc) hl).1
     have := zh4 hc hl
     simp only [List.length_nil]; omega
    have HQ := zkj S hS hSl (zea S).toNat [] [] (by omega) Pre.nil (by simp; omega) hvv (fun t ht => by rw [List.nil_append]; exact hno t (by simpa using ht)) (by simp) (by
     have : 2 ^ (zea S).toNat <= 4096 := Nat.le_trans (Nat.pow_le_pow_right (n := 2) (by omega) (show (zea S).toNat <= 12 by omega)) (by decide)
     simp only [List.length_nil]; omega)
    rw [show (true && ((none : Option Nat).isNone && ((none : Option (List Int)).isNone && decide ((rfS S).length <= 200)))) = decide ((rfS S).length <= 200) from rfl]
    unfold rfS
    generalize yl S (zea S).toNat [] [] = y at HQ ⊢
    obtain ⟨⟨yn, yc⟩, ys⟩ := y
    simp only at HQ ⊢
    have HQ : PC Try.prog 80 (bxP S []) [.p 0, .d true (.one (zas [])), .d false (iD 1)] (bxP S ys) [(true, iD yn)] := HQ
    by_cases hl : ys.length <= 200
    ·have hg : ((200 : Int) < (ys.length : Int)) = False := by simp; omega
     rw [show decide (ys.length <= 200) = true by simpa using hl, if_pos rfl]
     refine zde Try.call26 Try.func26 rfl (by kernel_rfl) (zbb (by kernel_rfl)) ?_
     simp -implicitDefEqProofs only [go_sem, Try.results26]
     refine callF (H1) (by simp -implicitDefEqProofs only [go_sem]) ?_
     simp -implicitDefEqProofs only [go_sem]
     refine zan (by simp -implicitDefEqProofs only [go_sem]) ?_
     simp -implicitDefEqProofs only [go_sem]
     refine callF (HF) (by simp -implicitDefEqProofs only [go_sem]) ?_
     simp -implicitDefEqProofs only [go_sem]
     refine zan (by simp -implicitDefEqProofs only [go_sem]) ?_
     simp -implicitDefEqProofs only [go_sem]
     refine callF (HM) (by simp -implicitDefEqProofs only [go_sem]) ?_
     simp -implicitDefEqProofs only [go_sem]
     refine callF (HC) (by simp -implicitDefEqProofs only [go_sem]) ?_
     simp -implicitDefEqProofs only [go_sem]
     refine zan (by simp -implicitDefEqProofs only [go_sem]) ?_
     simp -implicitDefEqProofs only [go_sem]
     refine za1 [6] [30, 31] [29] [] (HQ) (by decide) rfl (by simp -implicitDefEqProofs only [go_sem, hg]) (by simp -implicitDefEqProofs only [go_sem, hg]) (by simp -implicitDefEqProofs only [go_sem, hg]) (by simp -implicitDefEqProofs only [go_sem, hg]) ?_
     simp -implicitDefEqProofs only [go_sem, hg]
    ·have hg : ((200 : Int) < (ys.length : Int)) = True := by simp; omega
     rw [show decide (ys.length <= 200) = false by simpa using hl, if_neg (by simp)]
     refine zde Try.call26 Try.func26 rfl (by kernel_rfl) (zbb (by kernel_rfl)) ?_
     simp -implicitDefEqProofs only [go_sem, Try.results26]
     refine callF (H1) (by simp -implicitDefEqProofs only [go_sem]) ?_
     simp -implicitDefEqProofs only [go_sem]
     refine zan (by simp -implicitDefEqProofs only [go_sem]) ?_
     simp -implicitDefEqProofs only [go_sem]
     refine callF (HF) (by simp -implicitDefEqProofs only [go_sem]) ?_
     simp -implicitDefEqProofs only [go_sem]
     refine zan (by simp -implicitDefEqProofs only [go_sem]) ?_
     simp -implicitDefEqProofs only [go_sem]
     refine callF (HM) (by simp -implicitDefEqProofs only [go_sem]) ?_
     simp -implicitDefEqProofs only [go_sem]
     refine callF (HC) (by simp -implicitDefEqProofs only [go_sem]) ?_
     simp -implicitDefEqProofs only [go_sem]
     refine zan (by simp -implicitDefEqProofs only [go_sem]) ?_
     simp -implicitDefEqProofs only [go_sem]
     refine za1 [6] [30, 31] [29] [] (HQ) (by decide) rfl (by simp -implicitDefEqProofs only [go_sem, hg]) (by simp -implicitDefEqProofs only [go_sem, hg]) (by simp -implicitDefEqProofs only [go_sem, hg]) (by simp -implicitDefEqProofs only [go_sem, hg]) ?_
     simp -implicitDefEqProofs only [go_sem, hg]
     refine zan (by simp -implicitDefEqProofs only [go_sem]) ?_
     simp -implicitDefEqProofs only [go_sem]
end Go.Proofs.Yteeaofpphmhjdaa
namespace Go.Proofs.Yteeaofpphmhjdaa
set_option linter.unusedSimpArgs false
set_option linter.unusedVariables false
set_option linter.unusedSectionVars false
set_option maxRecDepth 4000
open Go.RowKit
theorem zjj (c : List Int) : FC Try.prog 77 [.one (zas c)] [bD (fal [] c)] := by
 have e : fal [] c = ((c.length : Int) == 0) := by
  unfold fal opn
  rw [List.filter_eq_self.2 (by simp)]
  cases c with
  | nil => rfl
  | cons x xs => simp [List.isEmpty]; omega
 rw [e]
 refine zay Try.call77 Try.func77 rfl (by kernel_rfl) (zbb (by kernel_rfl)) ?_
 simp -implicitDefEqProofs only [go_sem, Try.results77]
theorem zvr (a b : List Int) (v : Int) (ha : pcl a = true) (hb : pcl b = true) (h1 : 1 <= v) (h2 : v <= 12) : FC Try.prog 82 [.one (zas a), .one (zas b), iD v] [.one (zas (zdb a b v).1), bD (zdb a b v).2] := by
 have la := zcn ha
 have lb := zcn hb
 have H := zhk a b v (Nat.le_trans (Nat.add_le_add la lb) (by decide))
 have e : rsO a b v = zdb a b v := by
  unfold rsO
  rw [if_pos (by rw [ha, hb]; unfold inB; simp; omega)]
 rw [e] at H
 exact H
theorem zm4 : ∀ (st : List Ps) (V : List Cv), V.length = st.length -> zdj (zij st V) = st.map psC
 | [], _, _ => rfl
 | s :: st, [], h => by simp at h
 | s :: st, v :: V, h => by
  have ih := zm4 st V (by simpa using h)
  unfold zdj zij at ih ⊢
  rw [List.zipWith_cons_cons, List.map_cons, List.map_cons, ih]
  rfl
set_option maxHeartbeats 4000000 in
theorem zef (S : List (List Int)) : FC Try.prog 25 [.one (zav S)] [.one (psS (rfR S).1), bD (rfR S).2] := by
 have HM := zgp S
 have HF := zcl S (fal []) 77 [] fun x _ => zjj x
 unfold rfR rfO
 unfold fmR at HM
 cases h1 : zgw S
 ·rw [h1] at HM
  rw [Bool.false_and, if_neg (by simp)]
  have HM : FC Try.prog 18 [.one (zav S)] [.one (zas []), bD false, bD false] := HM
  refine zde Try.call25 Try.func25 rfl (by kernel_rfl) (zbb (by kernel_rfl)) ?_
  simp -implicitDefEqProofs only [go_sem, Try.results25]
  refine callF (HM) (by simp -implicitDefEqProofs only [go_sem]) ?_
  simp -implicitDefEqProofs only [go_sem]
 ·rw [h1, if_pos rfl] at HM
  have hS : ∀ c ∈ S, pcl c = true := fun c hc => zb2 h1 hc
  have hSl := zer h1
  have hm2 := zk6 hS
  cases hfm : zk9 S with
  | some m =>
   rw [hfm] at HM
   have HM : FC Try.prog 18 [.one (zav S)] [.one (zas m), bD true, bD true] := HM
   rw [show (true && ((S.findIdx? (fal [])).isNone && ((some m).isNone && decide ((rfS S).length <= 200)))) = false by simp, if_neg (by simp)]
   refine zde Try.call25 Try.func25 rfl (by kernel_rfl) (zbb (by kernel_rfl)) ?_
   simp -implicitDefEqProofs only [go_sem, Try.results25]
   refine callF (HM) (by simp -implicitDefEqProofs only [go_sem]) ?_
   simp -implicitDefEqProofs only [go_sem]
  | none =>
   rw [hfm] at HM
   have HM : FC Try.prog 18 [.one (zav S)] [.one (zas []), bD false, bD true] := HM
   cases hf : S.findIdx? (fal []) with
   | some i =>
    have ha : S.any (fal []) = true := by
     rw [<- List.findIdx?_isSome, hf]; rfl
    rw [ha] at HF
    rw [show (true && ((some i).isNone && ((none : Option (List Int)).isNone && decide ((rfS S).length <= 200)))) = false from rfl, if_neg (by simp)]
    refine zde Try.call25 Try.func25 rfl (by kernel_rfl) (zbb (by kernel_rfl)) ?_
    simp -implicitDefEqProofs only [go_sem, Try.results25]
    refine callF (HM) (by simp -implicitDefEqProofs only [go_sem]) ?_
    simp -implicitDefEqProofs only [go_sem]
    refine callF (HF) (by simp -implicitDefEqProofs only [go_sem]) ?_
    simp -implicitDefEqProofs only [go_sem]
   | none =>
    have ha : S.any (fal []) = false := by
     rw [<- List.findIdx?_isSome, hf]; rfl
    rw [ha] at HF
    have hno := zfu hfm
    have hvv : ∀ c ∈ S, ∀ l ∈ c, 0 < ab l /\ ab l < ((([] : List Int).length : Nat) : Int) + 1 + ((zea S).toNat : Nat) := fun c hc l hl => by
     have := (zcx (hS c hc) hl).1
     have := zh4 hc hl
     simp only [List.length_nil]; omega
    rw [show (true && ((none : Option Nat).isNone && ((none : Option (List Int)).isNone && decide ((rfS S).length <= 200)))) = decide ((rfS S).length <= 200) from rfl]
    refine zot Try.call25 Try.func25 rfl (zbb (by kernel_rfl)) ?_
    refine za4.cut 2 rfl (by kernel_rfl) ?_
    simp -implicitDefEqProofs only [go_sem, Try.results25]
    refine callF (HM) (by simp -implicitDefEqProofs only [go_sem]) ?_
    simp -implicitDefEqProofs only [go_sem]
    refine callF (HF) (by simp -implicitDefEqProofs only [go_sem]) ?_
    simp -implicitDefEqProofs only [go_sem]
    refine za4.preX (WkX.pins 0 (ts := S.map fun c => zas c) (fun t ht => ?_) ?_ fun SV hSV => ?_)
    ·obtain ⟨c, _, rfl⟩ := List.mem_map.1 ht
     exact ⟨_, _, rfl⟩
    ·rw [List.map_map]
     simp -implicitDefEqProofs only [go_sem]
     rfl
    ·have hSV : SV.length = S.length := by simpa using hSV
     have HQ := znl zvr S SV hSV hS hSl (zea S).toNat [] [] [] rfl (by omega) Pre.nil (by simp; omega) hvv (fun t ht => by rw [List.nil_append]; exact hno t (by simpa using ht)) (by simp) (by
      have : 2 ^ (zea S).toNat <= 4096 := Nat.le_trans (Nat.pow_le_pow_right (n := 2) (by omega) (show (zea S).toNat <= 12 by omega)) (by decide)
      simp only [List.length_nil]; omega)
     unfold rfS
     generalize yl S (zea S).toNat [] [] = y at HQ ⊢
     obtain ⟨⟨yn, yc⟩, ys⟩ := y
     simp only at HQ ⊢
     have e0 : zij [] [] = [] := rfl
     have e1 : List.zipWith (fun t (v : Option Addr × Nat × Nat) => [T.pin (.slice v.1 v.2.1 v.2.2) t]) (S.map fun c => zas c) SV = zjl S SV := rfl
     rw [e1]
     refine za4.ofEx (by kernel_rfl) ?_
     simp -implicitDefEqProofs only [go_sem]
     refine zov [7] [26] [25] [] HQ (by decide) (fun _ _ => rfl) (by simp -implicitDefEqProofs only [go_sem, e0]) (fun x hx => by simp -implicitDefEqProofs only [go_sem, e0]) (by simp -implicitDefEqProofs only [go_sem, e0]) (fun x hx => by simp -implicitDefEqProofs only [go_sem, e0]) fun x hx => ?_
     obtain ⟨W1, v1⟩ := x
     obtain ⟨hW1, _, _⟩ := hx
     simp only at hW1
     have hwl := zjx hW1
     have hup := zm4 ys W1 hW1
     by_cases hl : ys.length <= 200
     ·have hg : ((200 : Int) < (ys.length : Int)) = False := by simp; omega
      rw [show decide (ys.length <= 200) = true by simpa using hl, if_pos rfl]
      simp -implicitDefEqProofs only [go_sem, hwl, hg]
      refine Or.inr ⟨[], ?_⟩
      simp -implicitDefEqProofs only [go_sem]
      exact Or.inr hup
     ·have hg : ((200 : Int) < (ys.length : Int)) = True := by simp; omega
      rw [show decide (ys.length <= 200) = false by simpa using hl, if_neg (by simp)]
      simp -implicitDefEqProofs only [go_sem, hwl, hg]
      skip
end Go.Proofs.Yteeaofpphmhjdaa
namespace Go.Proofs.Yteeaofpphmhjdaa
set_option linter.unusedSimpArgs false
set_option linter.unusedVariables false
set_option linter.unusedSectionVars false
set_option maxRecDepth 4000
open Go.RowKit
theorem qep : pcl [] = true := rfl
theorem st_pcl {S : List (List Int)} {st : List Ps} (hS : ∀ c ∈ S, pcl c = true) (h : ∀ j < st.length, zbe S st j = true) : ∀ j, j < st.length -> pcl (st.getD j ps0).c = true := by
 intro j
 induction j using Nat.strongRecOn with
 | ind j ih =>
  intro hj
  have hk := h j hj
  unfold zbe at hk
  simp only [Bool.and_eq_true, beq_iff_eq] at hk
  obtain ⟨⟨⟨h1, h2⟩, _⟩, _, h4⟩ := hk
  have key : ∀ i : Int, inR i (S.length + j - 1) = true -> pcl (clA S st i) = true := fun i hi => by
   unfold inR at hi
   simp only [Bool.and_eq_true, decide_eq_true_eq] at hi
   unfold clA
   split
   ·next hlt =>
    rw [List.getD_eq_getElem?_getD]
    cases hg : S[i.toNat]? with
    | none => exact qep
    | some c => exact hS c (List.mem_of_getElem? hg)
   ·next hlt => exact ih _ (by omega) (by omega)
  rw [<- h4]
  exact zhb (key _ h1) (key _ h2) _
theorem qgq {S : List (List Int)} (h1 : zgw S = true) (hfm : zk9 S = none) : YlOk S (zea S).toNat [] [] (yl S (zea S).toNat [] []) := by
 have hS : ∀ c ∈ S, pcl c = true := fun c hc => zb2 h1 hc
 have hno := zfu hfm
 exact zsx S hS _ _ _ Pre.nil (fun c hc l hl => by
  have := (zcx (hS c hc) hl).1
  have := zh4 hc hl
  simp only [List.length_nil]; omega) (fun t ht => by rw [List.nil_append]; exact hno t (by simpa using ht)) (by simp)
theorem zum {S : List (List Int)} (h : rfO S = true) : zgw S = true /\ S.findIdx? (fal []) = none /\ zk9 S = none /\ (rfS S).length <= 200 := by
 unfold rfO at h
 simp only [Bool.and_eq_true, decide_eq_true_eq, Option.isNone_iff_eq_none] at h
 exact ⟨h.1, h.2.1, h.2.2.1, h.2.2.2⟩
theorem zvq {S : List (List Int)} (h1 : zgw S = true) (hfm : zk9 S = none) : ∀ s ∈ rfS S, pcl s.c = true := fun s hs => by
 obtain ⟨j, hj, rfl⟩ := List.getElem_of_mem hs
 have := st_pcl (fun c hc => zb2 h1 hc) (qgq h1 hfm).val j hj
 unfold rfS
 rw [List.getD_eq_getElem?_getD, List.getElem?_eq_getElem (show j < (yl S (zea S).toNat [] []).2.length from hj)] at this
 exact this
theorem rfR_W (S : List (List Int)) : (rfR S).1.length <= 200 /\ zbw (rfR S).1 <= 2600 := by
 unfold rfR
 split
 ·next h =>
  obtain ⟨h1, _, h3, h4⟩ := zum h
  have hw := W_len (xs := rfS S) (M := 12) fun s hs => zcn (zvq h1 h3 s hs)
  exact ⟨h4, show zbw (rfS S) <= 2600 by have := Nat.mul_le_mul_right (12 + 1) h4; omega⟩
 ·exact ⟨Nat.zero_le _, by simp [zbw]⟩
set_option maxHeartbeats 2000000 in
theorem qg2 (S : List (List Int)) : FC Try.prog 9 [.one (zav S)] [bD true] := by
 have HZ := zte S 1048576 (by omega) (by omega)
 refine zde Try.call9 Try.func9 rfl (by kernel_rfl) (zbb (by kernel_rfl)) ?_
 simp -implicitDefEqProofs only [go_sem, Try.results9]
 refine callF (HZ) (by simp -implicitDefEqProofs only [go_sem]) ?_
 simp -implicitDefEqProofs only [go_sem]
 refine ⟨fun h => trivial, fun h => ?_⟩
 obtain ⟨hw1, hw2⟩ := zvl (show ¬ szR (zed S) 1048576 < 0 by simpa using h)
 have hw : zed S <= 1048576 := by omega
 have HS := zpi S
 have HI := zef S
 have HT := zvk S hw
 have HE := zyj S S
 have hRl := (rfR_W S).2
 generalize rfR S = x at HS HI hRl
 obtain ⟨R, G⟩ := x
 simp only at HS HI hRl
 have HF := zjn R R
 have n2 : ∀ b : Bool, (b != b) = false := by decide
 refine callF (HT) (by simp -implicitDefEqProofs only [go_sem]) ?_
 simp -implicitDefEqProofs only [go_sem]
 refine callF (HS) (by simp -implicitDefEqProofs only [go_sem]) ?_
 simp -implicitDefEqProofs only [go_sem]
 refine callF (HT) (by simp -implicitDefEqProofs only [go_sem]) ?_
 simp -implicitDefEqProofs only [go_sem]
 refine callF (HI) (by simp -implicitDefEqProofs only [go_sem]) ?_
 simp -implicitDefEqProofs only [go_sem]
 refine callF (HF) (by simp -implicitDefEqProofs only [go_sem, zbi, beq_self_eq_true, bne_self_eq_false, Bool.not_true, n2]) ?_
 simp -implicitDefEqProofs only [go_sem, zbi, beq_self_eq_true, bne_self_eq_false, Bool.not_true, n2]
 refine callF (HT) (by simp -implicitDefEqProofs only [go_sem]) ?_
 simp -implicitDefEqProofs only [go_sem]
 refine callF (HE) (by simp -implicitDefEqProofs only [go_sem, zbi]) ?_
 simp -implicitDefEqProofs only [go_sem, zbi]
 have hc1 := zuq S
 have hcR := ztl R
 have HM := znp S 1 (by omega) (by omega)
 have HM2 := zh3 R 1 (by omega) (by omega)
 have HL := zh5 R 1 (by omega) (by omega)
 have hm := zqp S 1
 have hmR := (zpr R 1).1
 generalize (zeb S 1).2 = k1 at HM hm
 generalize (zeb S 1).1 = f2 at HM
 generalize (zb5 R 1).2 = k2 at HM2 HL hmR
 generalize (zb5 R 1).1 = r1 at HM2 HL
 skip
 refine zth [0, 4, 5, 7, 8, 46, 47] (HM) (by simp -implicitDefEqProofs only [go_sem]) (by simp -implicitDefEqProofs only [go_sem]) (by simp -implicitDefEqProofs only [go_sem]) (by simp -implicitDefEqProofs only [go_sem]) (by simp -implicitDefEqProofs only [go_sem]) rfl ?_
 simp -implicitDefEqProofs only [go_sem]
 refine callF (HF) (by simp -implicitDefEqProofs only [go_sem, zbi, beq_self_eq_true, bne_self_eq_false, Bool.not_true]) ?_
 simp -implicitDefEqProofs only [go_sem, zbi, beq_self_eq_true, bne_self_eq_false, Bool.not_true]
 refine zth [0, 4, 5, 7, 8, 62, 63] (HM2) (by simp -implicitDefEqProofs only [go_sem]) (by simp -implicitDefEqProofs only [go_sem]) (by simp -implicitDefEqProofs only [go_sem]) (by simp -implicitDefEqProofs only [go_sem]) (by simp -implicitDefEqProofs only [go_sem]) rfl ?_
 simp -implicitDefEqProofs only [go_sem]
 refine callF (HL) (by simp -implicitDefEqProofs only [go_sem]) ?_
 simp -implicitDefEqProofs only [go_sem]
 refine ⟨fun h => by simp at h, fun _ => ?_⟩
 refine callF (HT) (by simp -implicitDefEqProofs only [go_sem]) ?_
 simp -implicitDefEqProofs only [go_sem]
 refine callF (HI) (by simp -implicitDefEqProofs only [go_sem]) ?_
 simp -implicitDefEqProofs only [go_sem]
 refine callF (HF) (by simp -implicitDefEqProofs only [go_sem, zbi, beq_self_eq_true, bne_self_eq_false, Bool.not_true, n2]) ?_
 simp -implicitDefEqProofs only [go_sem, zbi, beq_self_eq_true, bne_self_eq_false, Bool.not_true, n2]
 refine callF (HL) (by simp -implicitDefEqProofs only [go_sem]) ?_
 simp -implicitDefEqProofs only [go_sem]
 refine ⟨fun h => by simp at h, fun _ => trivial⟩
end Go.Proofs.Yteeaofpphmhjdaa
namespace Go.Proofs.Yteeaofpphmhjdaa
set_option linter.unusedSimpArgs false
set_option linter.unusedVariables false
set_option linter.unusedSectionVars false
set_option maxRecDepth 4000
open Go.RowKit
theorem zz0 (code : List UInt8) : FC Try.prog 75 [.one (zrb code)] [.one (zav (zzj (q0 code)).2)] := by
 have H := qah (q := q0 code) (code := code) rfl (by unfold q0; simp)
 have hg := qez (q0 code)
 have h00 : (q0 code).pos = 0 := rfl
 have h01 : (q0 code).seed = 0 := rfl
 generalize zzj (q0 code) = x at H hg ⊢
 obtain ⟨Q, S⟩ := x
 simp only at H ⊢
 rw [show zie code (q0 code) = [[(false, zrb code), (false, .int .i64 0), (false, .int .u64 0)]] from rfl] at H
 refine zde Try.call75 Try.func75 rfl (by kernel_rfl) (zbb (by kernel_rfl)) ?_
 simp -implicitDefEqProofs only [go_sem, Try.results75]
 refine za1 [] [7] [6] [] (H) (by decide) rfl (by simp -implicitDefEqProofs only [go_sem]) (by simp -implicitDefEqProofs only [go_sem]) (by simp -implicitDefEqProofs only [go_sem]) (by simp -implicitDefEqProofs only [go_sem]) ?_
 simp -implicitDefEqProofs only [go_sem]
theorem zz5 (code : List UInt8) : FC Try.prog 24 [.one (zrb code)] [.one (zav (zzj (q0 code)).2)] := by
 have H := zz0 code
 refine zay Try.call24 Try.func24 rfl (by kernel_rfl) (zbb (by kernel_rfl)) ?_
 simp -implicitDefEqProofs only [go_sem, Try.results24]
 refine callF (H) (by simp -implicitDefEqProofs only [go_sem]) ?_
 simp -implicitDefEqProofs only [go_sem]
end Go.Proofs.Yteeaofpphmhjdaa
namespace Go.Proofs.Yteeaofpphmhjdaa
set_option linter.unusedSimpArgs false
set_option linter.unusedVariables false
set_option linter.unusedSectionVars false
set_option maxRecDepth 4000
open Go.RowKit
theorem qfj {S : List (List Int)} (h : rfO S = true) : rfS S ≠ [] /\ chk S (rfS S) = -1 := by
 obtain ⟨h1, h2, h3, h4⟩ := zum h
 have hm2 := zk6 fun c hc => zb2 h1 hc
 refine yl_chk (m := (zea S).toNat) (fun c hc => zb2 h1 hc) (fun c hc l hl => ?_) (zfu h3) fun c hc e => ?_
 ·have := zh4 hc hl
  omega
 ·have := List.findIdx?_eq_none_iff.1 h2 c hc
  rw [e] at this
  cases this
theorem zy3 {B : List Bool} : ∀ {k : Nat} {x : Int}, x ∈ usP B k -> 0 <= x /\ x < k
 | 0, x, h => by simp [usP] at h
 | k + 1, x, h => by
  unfold usP at h
  rcases List.mem_append.1 h with h | h
  ·have := zy3 h; omega
  ·split at h
   ·rw [List.mem_singleton] at h; subst h; omega
   ·simp at h
theorem qem {B : List Bool} {i : Nat} (hB : B.getD i false = true) : ∀ {k : Nat}, i < k -> (i : Int) ∈ usP B k
 | 0, h => by omega
 | k + 1, h => by
  unfold usP
  by_cases hi : i < k
  ·exact List.mem_append_left _ (qem hB hi)
  ·have e : i = k := by omega
   subst e
   rw [if_pos hB]
   exact List.mem_append_right _ (by simp)
def usL (S : List (List Int)) (U : List Int) : List (List Int) := U.map fun i => S.getD i.toNat []
theorem usL_ok {S : List (List Int)} {st : List Ps} (hp : zgw S = true) (h0 : st ≠ []) (h : chk S st = -1) : zgw (usL S (usP (nd S.length st) S.length)) = true /\ zk9 (usL S (usP (nd S.length st) S.length)) = none := by
 have hl := zer hp
 have hul := zk2 (nd S.length st) S.length
 refine ⟨?_, ?_⟩
 ·unfold zgw
  rw [Bool.and_eq_true, List.all_eq_true, decide_eq_true_eq]
  refine ⟨by unfold usL; rw [List.length_map]; omega, fun c hc => ?_⟩
  unfold usL at hc
  obtain ⟨i, hi, rfl⟩ := List.mem_map.1 hc
  have := zy3 hi
  rw [List.getD_eq_getElem?_getD, List.getElem?_eq_getElem (by omega)]
  exact zb2 hp (List.getElem_mem _)
 ·cases hf : zk9 (usL S (usP (nd S.length st) S.length)) with
  | none => rfl
  | some m =>
   exfalso
   obtain ⟨k1, k2⟩ := zzd hf
   refine zrm h0 h (qbt k2) fun i hi hn => ?_
   have hmem : (S.getD i []) ∈ usL S (usP (nd S.length st) S.length) := by
    unfold usL
    exact List.mem_map.2 ⟨(i : Int), qem hn hi, by simp⟩
   unfold isM at k1
   exact List.all_eq_true.1 k1 _ hmem
theorem qav {S : List (List Int)} {U : List Int} {k : Nat} (h : k < U.length) : usL S (U.take (k + 1)) = usL S (U.take k) ++ [S.getD U[k].toNat []] := by
 unfold usL
 rw [List.take_succ_eq_append_getElem h, List.map_append]; rfl
set_option maxHeartbeats 4000000 in
theorem zgx (code : List UInt8) : FC Try.prog 6 [.one (zrb code)] [bD true] := by
 have HB := vBig_c code
 have HD := zz5 code
 by_cases hbig : (65536 : Int) < code.length
 ·rw [show decide ((65536 : Int) < code.length) = true by simpa using hbig] at HB
  refine zay Try.call6 Try.func6 rfl (by kernel_rfl) (zbb (by kernel_rfl)) ?_
  simp -implicitDefEqProofs only [go_sem, Try.results6]
  refine callF (HB) (by simp -implicitDefEqProofs only [go_sem]) ?_
  simp -implicitDefEqProofs only [go_sem]
 ·rw [show decide ((65536 : Int) < code.length) = false by simpa using hbig] at HB
  generalize (zzj (q0 code)).2 = S at HD
  have H1 := zef S
  have H2 := zpi S
  unfold rfR at H1 H2
  cases hok : rfO S
  ·rw [hok] at H1 H2
   have H1 : FC Try.prog 25 [.one (zav S)] [.one (psS []), bD false] := H1
   have H2 : FC Try.prog 26 [.one (zav S)] [.one (psS []), bD false] := H2
   refine zde Try.call6 Try.func6 rfl (by kernel_rfl) (zbb (by kernel_rfl)) ?_
   simp -implicitDefEqProofs only [go_sem, Try.results6]
   refine callF (HB) (by simp -implicitDefEqProofs only [go_sem]) ?_
   simp -implicitDefEqProofs only [go_sem]
   refine callF (HD) (by simp -implicitDefEqProofs only [go_sem]) ?_
   simp -implicitDefEqProofs only [go_sem]
   refine callF (H1) (by simp -implicitDefEqProofs only [go_sem]) ?_
   simp -implicitDefEqProofs only [go_sem]
   refine callF (H2) (by simp -implicitDefEqProofs only [go_sem, bne_self_eq_false, beq_self_eq_true, Bool.not_false]) ?_
   simp -implicitDefEqProofs only [go_sem, bne_self_eq_false, beq_self_eq_true, Bool.not_false]
   skip
  ·rw [hok, if_pos rfl] at H1 H2
   obtain ⟨hp, h2, h3, hlen⟩ := zum hok
   obtain ⟨hne, hck⟩ := qfj hok
   have hpc := zvq hp h3
   have hSl := zer hp
   generalize rfS S = st at H1 H2 hlen hne hck hpc
   have hpos : 1 <= st.length := List.length_pos_iff.2 hne
   have hsz : SzR S st := ⟨by omega, by omega, fun c hc => by have := zcn (zb2 hp hc); omega, fun s hs => by have := zcn (hpc s hs); omega⟩
   have hcr : zzk S st = true := by unfold zzk inB; rw [hp]; simp; omega
   have hrf : zid S st = true := by unfold zid; rw [hcr, hck]; rfl
   have H3 := zce S st hsz.s hsz.st hsz.sc hsz.tc
   rw [hcr, hck] at H3
   have H4 := zg2 hsz
   have H5 := zke hsz
   unfold trR at H4
   unfold usR at H5
   rw [hrf, if_pos rfl] at H4 H5
   obtain ⟨htn, htc⟩ := qgd hne hck
   have htl := qe2 S st
   have htp : ∀ s ∈ trm S st, s.c.length <= 1048576 := fun s hs => by
    unfold trm at hs
    obtain ⟨t, ht, e⟩ := trF_c (Nat.le_refl _) hs
    rw [e]; exact hsz.tc t ht
   generalize trm S st = sh at H4 htn htc htl htp
   have hshp : 1 <= sh.length := List.length_pos_iff.2 htn
   have hcr2 : zzk S sh = true := by unfold zzk inB; rw [hp]; simp; omega
   have H6 := zce S sh hsz.s (by omega) hsz.sc htp
   rw [hcr2, htc] at H6
   obtain ⟨hup, huf⟩ := usL_ok hp hne hck
   have hum := fun (x : Int) (hx : x ∈ usP (nd S.length st) S.length) => zy3 hx
   have hul := zk2 (nd S.length st) S.length
   generalize usP (nd S.length st) S.length = U at H5 hup huf hum hul
   have H7 := zgp (usL S U)
   unfold fmR at H7
   rw [hup, if_pos rfl, huf] at H7
   have H3 : FC Try.prog 27 [.one (zav S), .one (psS st)] [iD (-1), bD true] := H3
   have H4 : FC Try.prog 28 [.one (zav S), .one (psS st)] [.one (psS sh), bD true] := H4
   have H5 : FC Try.prog 29 [.one (zav S), .one (psS st)] [.one (zas U), bD true] := H5
   have H6 : FC Try.prog 27 [.one (zav S), .one (psS sh)] [iD (-1), bD true] := H6
   have H7 : FC Try.prog 18 [.one (zav (usL S U))] [.one (zas []), bD false, bD true] := H7
   have n2 : ∀ b : Bool, (b != b) = false := by decide
   have hgt : ((st.length : Int) < (sh.length : Int)) = False := by simp; omega
   refine zde Try.call6 Try.func6 rfl (by kernel_rfl) (zbb (by kernel_rfl)) ?_
   simp -implicitDefEqProofs only [go_sem, Try.results6]
   refine callF (HB) (by simp -implicitDefEqProofs only [go_sem]) ?_
   simp -implicitDefEqProofs only [go_sem]
   refine callF (HD) (by simp -implicitDefEqProofs only [go_sem]) ?_
   simp -implicitDefEqProofs only [go_sem]
   refine frzO 768 rfl rfl ?_
   simp -implicitDefEqProofs only [go_sem]
   refine callF (H1) (by simp -implicitDefEqProofs only [go_sem]) ?_
   simp -implicitDefEqProofs only [go_sem]
   refine callF (H2) (by simp -implicitDefEqProofs only [go_sem, n2, beq_self_eq_true, bne_self_eq_false, Bool.not_true]) ?_
   simp -implicitDefEqProofs only [go_sem, n2, beq_self_eq_true, bne_self_eq_false, Bool.not_true]
   refine callF (H3) (by simp -implicitDefEqProofs only [go_sem]) ?_
   simp -implicitDefEqProofs only [go_sem]
   refine callF (H4) (by simp -implicitDefEqProofs only [go_sem]) ?_
   simp -implicitDefEqProofs only [go_sem]
   refine callF (H5) (by simp -implicitDefEqProofs only [go_sem, n2, beq_self_eq_true, bne_self_eq_false, Bool.not_true, hgt]) ?_
   simp -implicitDefEqProofs only [go_sem, n2, beq_self_eq_true, bne_self_eq_false, Bool.not_true, hgt]
   refine callF (H6) (by simp -implicitDefEqProofs only [go_sem, n2, beq_self_eq_true, bne_self_eq_false, Bool.not_true]) ?_
   simp -implicitDefEqProofs only [go_sem, n2, beq_self_eq_true, bne_self_eq_false, Bool.not_true]
   refine zos (by simp -implicitDefEqProofs only [go_sem]) ?_
   simp -implicitDefEqProofs only [go_sem]
   refine zak (fun k : Nat => hd [(3, vT (zav S)), (12, .one (.ow 2080 0)), (16, .one (.ow 3232 k)), (17, vI k)] [] [(2080, ⟨true, 1, U.map fun s => [.int .i64 s], 0, true⟩), (3232, ⟨false, 1, (usL S (U.take k)).map fun c => [zas c], k, true⟩)]) (fun k => k <= U.length) (fun k => U.length - k) 0 (zaa ?_) (Nat.zero_le _) ?_
   ·have h0 : usL S (U.take 0) = [] := rfl
    simp -implicitDefEqProofs only [go_sem, h0, List.take_zero, List.map_nil]
    rfl
   ·intro k hk
    by_cases hlt : k < U.length
    ·obtain ⟨hx0, hx1⟩ := hum U[k] (List.getElem_mem hlt)
     have hsu := qav (S := S) hlt
     have hll : (usL S (U.take k)).length <= 40 := by unfold usL; simp; omega
     obtain ⟨j, hkj⟩ : ∃ j : Nat, U[k] = (j : Int) := ⟨U[k].toNat, by omega⟩
     have hj : j < S.length := by omega
     have hsj : S.getD (U[k].toNat) [] = S[j] := by rw [hkj, Int.toNat_natCast, List.getD_eq_getElem?_getD, List.getElem?_eq_getElem hj]; rfl
     rw [hsj] at hsu
     generalize usL S (U.take k) = L0 at hsu hll ⊢
     have hneg : ((j : Int) < 0) = False := by simp
     have hge : ((S.length : Int) <= (j : Int)) = False := by simp; omega
     have hol : L0.length <= 4294967295 := by omega
     simp -implicitDefEqProofs only [go_sem, hlt, zag, hkj, hneg, hge, hj]
     refine zos (by simp -implicitDefEqProofs only [go_sem]) ?_
     simp -implicitDefEqProofs only [go_sem]
     refine apD false (by simp -implicitDefEqProofs only [go_sem, ne_eq, List.length_map, hol]) ?_
     simp -implicitDefEqProofs only [go_sem, ne_eq, List.length_map, hol]
     rw [show IntKind.i64.wrap ((k : Int) + 1) = ((k + 1 : Nat) : Int) from zaw (by omega)]
     refine ⟨k + 1, by omega, by omega, zaa ?_⟩
     simp -implicitDefEqProofs only [go_sem, hsu, List.map_append, List.map_cons, List.map_nil]
     skip
    ·have hek : k = U.length := by omega
     subst hek
     rw [List.take_length]
     simp -implicitDefEqProofs only [go_sem, Int.lt_irrefl]
     refine callF (H7) (by simp -implicitDefEqProofs only [go_sem]) ?_
     simp -implicitDefEqProofs only [go_sem]
     skip
end Go.Proofs.Yteeaofpphmhjdaa
