import Derived.Test.YtgfjbbbkploonaaQ6
import Derived.Test.YtgfjbbbkploonaaQ5
import Derived.Test.YtgfjbbbkploonaaQ1
import Derived.ProofKit
import Derived.Test.YtgfjbbbkploonaaRows
import Derived.OpenShut
import Derived.ShutString
import Derived.ChangeOld
/-
  SequentFormula: the program's and the reference's.
  Conditions: those that each theorem names.
-/
namespace Go.Proofs.Ytgfjbbbkploonaa
set_option linter.unusedSimpArgs false
set_option linter.unusedVariables false
set_option maxRecDepth 4000
open Go.RowKit
theorem ifFormula_c (f : Fm) (hs : f.wt ≤ 1099511627776) : GC Try.prog 35 [(true, fmD f)] [fmD (if f.good = true then f else mkF 0 []), bD f.good] := by
  cases h : f.good
  · rw [if_neg (by simp)]
    simp only [fmD, fmC_eq f, fmC_mkF, List.map_nil]
    refine GC_of Try.call35 Try.func35 rfl (by kernel_rfl) (by simp only [List.length_cons, List.length_nil, Try.ntmps35]; omega) (by simp [smallG, T.isPin]) ?_
    simp -implicitDefEqProofs only [go_sem, Try.results35]
    refine callF (isValidFormula_c f hs) (by simp -implicitDefEqProofs only [go_sem, fmC_eq f, h]) ?_
    simp -implicitDefEqProofs only [go_sem, fmC_eq f, h]
  · rw [if_pos rfl]
    simp only [fmD, fmC_eq f]
    refine GC_of Try.call35 Try.func35 rfl (by kernel_rfl) (by simp only [List.length_cons, List.length_nil, Try.ntmps35]; omega) (by simp [smallG, T.isPin]) ?_
    simp -implicitDefEqProofs only [go_sem, Try.results35]
    refine callF (isValidFormula_c f hs) (by simp -implicitDefEqProofs only [go_sem, fmC_eq f, h]) ?_
    simp -implicitDefEqProofs only [go_sem, fmC_eq f, h]
theorem join_wt (op : Int) (z : Fm) : ∀ xs : List Fm, (joinF op xs z).wt ≤ 2 * xs.length + (xs.map Fm.wt).sum + z.wt
  | [] => by simp [joinF]
  | x :: xs => by
    by_cases h : xs = []
    · subst h; simp [joinF]; omega
    · rw [joinF_cons op x h, wt_mkF]
      have := join_wt op z xs
      simp; omega
noncomputable def sqF (s : Sq) : Fm := mkF 7 [joinF 5 s.left (mkF 1 []), joinF 6 s.right (mkF 2 [])]
theorem sqF_wt (s : Sq) : (sqF s).wt ≤ 2 * s.wt + 2 := by
  have h1 := join_wt 5 (mkF 1 []) s.left
  have h2 := join_wt 6 (mkF 2 []) s.right
  have hW := s.wt_eq
  unfold fmsW at hW
  unfold sqF
  rw [wt_mkF] at h1 h2 ⊢
  simp at h1 h2 ⊢
  omega
noncomputable def sqR (s : Sq) : Fm := if (s.good && (sqF s).good) = true then sqF s else mkF 0 []
theorem sqR_wt (s : Sq) : (sqR s).wt ≤ 2 * s.wt + 2 := by
  unfold sqR
  split
  · exact sqF_wt s
  · rw [wt_mkF]; simp
theorem implSequentFormula_c (s : Sq) (hs : s.wt ≤ 1048576) : FC Try.prog 13 [sqD s] [fmD (sqR s), bD (s.good && (sqF s).good)] := by
  have hW := s.wt_eq
  have hF := sqF_wt s
  unfold sqR
  cases h : s.good
  · rw [Bool.false_and, if_neg (by simp)]
    simp only [fmD, fmC_mkF, List.map_nil, sqD, sqC_eq]
    refine FC_of Try.call13 Try.func13 rfl (by kernel_rfl) (by simp only [rd, List.map_cons, List.map_nil, List.length_cons, List.length_nil, Try.ntmps13]; omega) ?_
    simp -implicitDefEqProofs only [go_sem, Try.results13]
    refine callF (isValidSequent_c s (by omega)) (by simp -implicitDefEqProofs only [go_sem, sqC_eq, h]) ?_
    simp -implicitDefEqProofs only [go_sem, sqC_eq, h]
  · rw [Bool.true_and]
    unfold sqF at hF ⊢
    have HL := combined_c 5 s.left (mkF 1 [])
    have HR := combined_c 6 s.right (mkF 2 [])
    generalize hA : joinF 5 s.left (mkF 1 []) = A at HL hF ⊢
    generalize hB : joinF 6 s.right (mkF 2 []) = B at HR hF ⊢
    have HI := ifFormula_c (mkF 7 [A, B]) (by omega)
    generalize (mkF 7 [A, B]).good = G at HI ⊢
    generalize hC : (if G = true then mkF 7 [A, B] else mkF 0 []) = C at HI ⊢
    have HB := binary_c 7 A B
    simp only [fmD, fmC_mkF, List.map_nil, List.map_cons, fmC_eq A, fmC_eq B, fmC_eq C] at HL HR HI HB
    simp only [fmD, fmC_eq C, sqD, sqC_eq]
    refine FC_ofN Try.call13 Try.func13 rfl (by kernel_rfl) (by simp only [rd, List.map_cons, List.map_nil, List.length_cons, List.length_nil, Try.ntmps13]; omega) ?_
    simp -implicitDefEqProofs only [go_sem, Try.results13]
    refine callF (isValidSequent_c s (by omega)) (by simp -implicitDefEqProofs only [go_sem, sqC_eq, h]) ?_
    simp -implicitDefEqProofs only [go_sem, sqC_eq, h]
    refine callF (copyFormulas_c s.left (by omega)) (by simp -implicitDefEqProofs only [go_sem]) ?_
    simp -implicitDefEqProofs only [go_sem]
    refine callG [(12, .one (.ow 384 0)), (13, .agg [.t (.int .i64 1), .t (.str []), .nl 2, .t (.str []), .nl 5])] [(1, .one (.bx 1 0)), (2, .one (.bx 2 0)), (3, vT (.bool false))] [] [(1, [.rn (fmS s.left), .rn (fmS s.right)]), (2, [.t (.int .i64 0), .t (.str []), .nl 2, .t (.str []), .nl 5])] [(384, ⟨true, 5, s.left.map fmC, 0, true⟩)] [] [] HL (by simp -implicitDefEqProofs only [go_sem, fmS]) (by simp -implicitDefEqProofs only [go_sem]) (by simp -implicitDefEqProofs only [go_sem, fmS]) (by simp -implicitDefEqProofs only [go_sem]) ?_
    simp -implicitDefEqProofs only [go_sem, fmS]
    refine callF (copyFormulas_c s.right (by omega)) (by simp -implicitDefEqProofs only [go_sem, fmS]) ?_
    simp -implicitDefEqProofs only [go_sem, fmS]
    refine callG [(17, .one (.ow 544 0)), (18, .agg [.t (.int .i64 2), .t (.str []), .nl 2, .t (.str []), .nl 5])] [(2, .one (.bx 2 0)), (3, vT (.bool false)), (4, .one (.bx 4 0))] [] [(2, [.t (.int .i64 0), .t (.str []), .nl 2, .t (.str []), .nl 5]), (4, [.t (.int .i64 A.op), .t (.str A.atom.name), .ow 450 0, .t (.str A.var), .ow 452 0])] [(544, ⟨true, 5, s.right.map fmC, 0, true⟩)] [(450, ⟨true, 2, A.atom.args.map tmC, 0, true⟩), (452, ⟨true, 5, A.parts.map fmC, 0, true⟩)] [] HR (by simp -implicitDefEqProofs only [go_sem, fmS]) (by simp -implicitDefEqProofs only [go_sem]) (by simp -implicitDefEqProofs only [go_sem, fmS]) (by simp -implicitDefEqProofs only [go_sem]) ?_
    simp -implicitDefEqProofs only [go_sem, fmS]
    refine callG [(20, .agg [.t (.int .i64 A.op), .t (.str A.atom.name), .ow 450 0, .t (.str A.var), .ow 452 0]), (21, .agg [.t (.int .i64 B.op), .t (.str B.atom.name), .ow 610 0, .t (.str B.var), .ow 612 0])] [(2, .one (.bx 2 0)), (3, vT (.bool false))] [] [(2, [.t (.int .i64 0), .t (.str []), .nl 2, .t (.str []), .nl 5])] [(450, ⟨true, 2, A.atom.args.map tmC, 0, true⟩), (452, ⟨true, 5, A.parts.map fmC, 0, true⟩), (610, ⟨true, 2, B.atom.args.map tmC, 0, true⟩), (612, ⟨true, 5, B.parts.map fmC, 0, true⟩)] [] [] HB (by simp -implicitDefEqProofs only [go_sem]) (by simp -implicitDefEqProofs only [go_sem]) (by simp -implicitDefEqProofs only [go_sem]) (by simp -implicitDefEqProofs only [go_sem]) ?_
    simp -implicitDefEqProofs only [go_sem]
    refine callG [(22, .agg [.t (.int .i64 7), .t (.str []), .ow 706 0, .t (.str []), .ow 708 0])] [(2, .one (.bx 2 0)), (3, vT (.bool false))] [] [(2, [.t (.int .i64 0), .t (.str []), .nl 2, .t (.str []), .nl 5])]
      [(706, ⟨true, 2, [], 0, true⟩), (708, ⟨true, 5, [[.int .i64 A.op, .str A.atom.name, .sl 2 (A.atom.args.map tmC), .str A.var, .sl 5 (A.parts.map fmC)], [.int .i64 B.op, .str B.atom.name, .sl 2 (B.atom.args.map tmC), .str B.var, .sl 5 (B.parts.map fmC)]], 0, true⟩)] [] [] HI (by simp -implicitDefEqProofs only [go_sem]) (by simp -implicitDefEqProofs only [go_sem]) (by simp -implicitDefEqProofs only [go_sem]) (by simp -implicitDefEqProofs only [go_sem]) ?_
    simp -implicitDefEqProofs only [go_sem]
theorem specSequentFormula_c (s : Sq) (hs : s.wt ≤ 1048576) : FC Try.prog 12 [sqD s] [fmD (sqR s), bD (s.good && (sqF s).good)] := by
  have hW := s.wt_eq
  have hF := sqF_wt s
  unfold sqR
  cases h : s.good
  · rw [Bool.false_and, if_neg (by simp)]
    simp only [fmD, fmC_mkF, List.map_nil, sqD, sqC_eq]
    refine FC_of Try.call12 Try.func12 rfl (by kernel_rfl) (by simp only [rd, List.map_cons, List.map_nil, List.length_cons, List.length_nil, Try.ntmps12]; omega) ?_
    simp -implicitDefEqProofs only [go_sem, Try.results12]
    refine callF (l18Good_c s (by omega)) (by simp -implicitDefEqProofs only [go_sem, sqC_eq, h]) ?_
    simp -implicitDefEqProofs only [go_sem, sqC_eq, h]
  · rw [Bool.true_and]
    unfold sqF at hF ⊢
    have HL := l18Joined_c s.left 5 1 (by omega)
    have HR := l18Joined_c s.right 6 2 (by omega)
    generalize joinF 5 s.left (mkF 1 []) = A at HL hF ⊢
    generalize joinF 6 s.right (mkF 2 []) = B at HR hF ⊢
    have HG := l8Good_c (mkF 7 [A, B]) (by omega)
    generalize (mkF 7 [A, B]).good = G at HG ⊢
    simp only [fmD, fmC_mkF, List.map_nil, List.map_cons, fmC_eq A, fmC_eq B] at HL HR HG
    cases G
    · rw [if_neg (by simp)]
      simp only [fmD, fmC_mkF, List.map_nil, sqD, sqC_eq]
      refine FC_of Try.call12 Try.func12 rfl (by kernel_rfl) (by simp only [rd, List.map_cons, List.map_nil, List.length_cons, List.length_nil, Try.ntmps12]; omega) ?_
      simp -implicitDefEqProofs only [go_sem, Try.results12]
      refine callF (l18Good_c s (by omega)) (by simp -implicitDefEqProofs only [go_sem, sqC_eq, h]) ?_
      simp -implicitDefEqProofs only [go_sem, sqC_eq, h]
      refine drawn (by kernel_rfl) ?_
      simp -implicitDefEqProofs only [go_sem]
      refine dCallF (HL) (by simp -implicitDefEqProofs only [go_sem]) ?_
      simp -implicitDefEqProofs only [go_sem]
      refine dCallF (HR) (by simp -implicitDefEqProofs only [go_sem]) ?_
      simp -implicitDefEqProofs only [go_sem]
      refine dBuildDc (by simp -implicitDefEqProofs only [go_sem]) ?_
      simp -implicitDefEqProofs only [go_sem]
      refine ⟨by kernel_rfl, ?_⟩
      refine callF (HG) (by simp -implicitDefEqProofs only [go_sem]) ?_
      simp -implicitDefEqProofs only [go_sem]
    · rw [if_pos rfl]
      simp only [fmD, fmC_mkF, List.map_cons, List.map_nil, fmC_eq A, fmC_eq B, sqD, sqC_eq]
      refine FC_of Try.call12 Try.func12 rfl (by kernel_rfl) (by simp only [rd, List.map_cons, List.map_nil, List.length_cons, List.length_nil, Try.ntmps12]; omega) ?_
      simp -implicitDefEqProofs only [go_sem, Try.results12]
      refine callF (l18Good_c s (by omega)) (by simp -implicitDefEqProofs only [go_sem, sqC_eq, h]) ?_
      simp -implicitDefEqProofs only [go_sem, sqC_eq, h]
      refine drawn (by kernel_rfl) ?_
      simp -implicitDefEqProofs only [go_sem]
      refine dCallF (HL) (by simp -implicitDefEqProofs only [go_sem]) ?_
      simp -implicitDefEqProofs only [go_sem]
      refine dCallF (HR) (by simp -implicitDefEqProofs only [go_sem]) ?_
      simp -implicitDefEqProofs only [go_sem]
      refine dBuildDc (by simp -implicitDefEqProofs only [go_sem]) ?_
      simp -implicitDefEqProofs only [go_sem]
      refine ⟨by kernel_rfl, ?_⟩
      refine callF (HG) (by simp -implicitDefEqProofs only [go_sem]) ?_
      simp -implicitDefEqProofs only [go_sem]
end Go.Proofs.Ytgfjbbbkploonaa
/-
  Contracts of functions of the program and of its laws, over plain data.
  Conditions: those that each theorem names.
-/
namespace Go.Proofs.Ytgfjbbbkploonaa
set_option linter.unusedSimpArgs false
set_option linter.unusedVariables false
set_option maxRecDepth 4000
open Go.RowKit

set_option maxHeartbeats 400000 in
theorem szTermS_of (xs : List Tm) (H : ∀ x ∈ xs, ∀ l : Int, 0 ≤ l → l ≤ 1048576 → FC Try.prog 44 [tmD x, iD l] [iD (szR x.wt l)]) (l : Int) (h0 : 0 ≤ l) (h1 : l ≤ 1048576) :
    FC Try.prog 64 [.one (tmS xs), iD l] [iD (szR (tmsW xs) l)] := by
  refine FC_wf (fun hw => ?_) Try.call64
  have hl : xs.length ≤ 9223372036854775807 := by simpa [wfDs, wfT] using hw.1.1
  refine FC_of Try.call64 Try.func64 rfl (by kernel_rfl) (by simp only [rd, List.map_cons, List.map_nil, List.length_cons, List.length_nil, Try.ntmps64]; omega) ?_
  simp -implicitDefEqProofs only [go_sem, Try.results64]
  rw [wrap_in (by omega) (by omega)]
  have hW : tmsW xs = xs.length + (xs.map Tm.wt).sum := rfl
  refine ⟨fun h => ?_, fun h => ?_⟩
  · rw [szR_big (by simp at h; omega)]
  · have hlen : (xs.length : Int) ≤ l := by simp at h; omega
    refine loop_rule (fun k : Nat => hd [(0, vT (tmS xs)), (1, vI (l - xs.length - psum Tm.wt xs k)), (5, vI k)] [] []) (fun k => k ≤ xs.length ∧ 0 ≤ l - xs.length - psum Tm.wt xs k) (fun k => xs.length - k) 0 (weak_hd ?_) ?_ ?_
    · simp -implicitDefEqProofs only [go_sem]
      simp [psum_zero]
    · simpa [psum_zero] using hlen
    · intro k ⟨hk, hp⟩
      by_cases hlt : k < xs.length
      · have hs := psum_succ Tm.wt xs k hlt
        have hs2 := psum_le Tm.wt xs (k + 1)
        simp -implicitDefEqProofs only [go_sem, List.length_map, getD_at, hlt, tmC_eq]
        refine callF (H xs[k] (List.getElem_mem hlt) (l - xs.length - psum Tm.wt xs k) hp (by omega)) (by simp -implicitDefEqProofs only [go_sem, tmC_eq]) ?_
        simp -implicitDefEqProofs only [go_sem, tmC_eq]
        refine ⟨fun h => ?_, fun h => ?_⟩
        · have := szR_neg hp (by simpa using h)
          rw [szR_big (by omega)]
        · obtain ⟨h2, h3⟩ := szR_pos (by simpa using h)
          rw [wrap_s (by omega)]
          exact ⟨k + 1, ⟨hlt, by omega⟩, by omega, weak_hd (by simp -implicitDefEqProofs only [go_sem]; rw [h3]; congr 1; omega)⟩
      · simp -implicitDefEqProofs only [go_sem, List.length_map, hlt]
        have hall := psum_all Tm.wt xs k (by omega)
        rw [hall, szR_ok (by omega)]; congr 1; omega

set_option maxHeartbeats 400000 in
theorem toTermS_of (xs : List Tm) (H : ∀ x ∈ xs, FC Try.prog 46 [tmD x] [tmD x]) (hs : xs.length ≤ 1048576) :
    FC Try.prog 68 [.one (tmS xs)] [.one (tmS xs)] := by
  refine FC_wf (fun hw => ?_) Try.call68
  refine FC_of Try.call68 Try.func68 rfl (by kernel_rfl) (by simp only [rd, List.map_cons, List.map_nil, List.length_cons, List.length_nil, Try.ntmps68]; omega) ?_
  simp -implicitDefEqProofs only [go_sem, Try.results68]
  refine makeD (by simp -implicitDefEqProofs only [go_sem]; omega) ?_
  simp -implicitDefEqProofs only [go_sem]
  refine loop_rule (fun k : Nat => hd [(0, vT (tmS xs)), (3, .one (.ow 224 0)), (4, vI k)] [] [(224, ⟨true, 2, (xs.take k).map tmC ++ List.replicate (xs.length - k) [T.str [], T.sl 2 []], 0, true⟩)]) (fun k => k ≤ xs.length) (fun k => xs.length - k) 0 (weak_hd ?_) ?_ ?_
  · simp -implicitDefEqProofs only [go_sem]
    simp
  · simp
  · intro k hk
    by_cases hlt : k < xs.length
    · have hlen : ((xs.take k).map tmC ++ List.replicate (xs.length - k) [T.str [], T.sl 2 []]).length = xs.length := by simp; omega
      have hlt2 : k < k + (xs.length - k) := by omega
      simp -implicitDefEqProofs only [go_sem, List.length_map, getD_at, hlt, tmC_eq]
      refine callF (H xs[k] (List.getElem_mem hlt)) (by simp -implicitDefEqProofs only [go_sem, tmC_eq, hlen, hlt, List.length_append, List.length_map, List.length_take, List.length_replicate, Nat.min_eq_left hk, hlt2]) ?_
      simp -implicitDefEqProofs only [go_sem, tmC_eq, hlen, hlt, List.length_append, List.length_map, List.length_take, List.length_replicate, Nat.min_eq_left hk, hlt2]
      refine storeD (by simp -implicitDefEqProofs only [go_sem]; simp) ?_
      simp -implicitDefEqProofs only [go_sem]
      rw [wrap_s (by omega)]
      refine ⟨k + 1, by omega, by omega, weak_hd ?_⟩
      simp -implicitDefEqProofs only [go_sem]
      have hf := fill_next ((xs.take k).map tmC) xs.length k [T.str [], T.sl 2 []] (tmC xs[k]) (by simp; omega) hlt (by simp [tmC_eq])
      simp only [tmC_eq] at hf
      rw [hf, List.take_succ_eq_append_getElem hlt, List.map_append, List.map_singleton]
      simp only [tmC_eq]
    · simp -implicitDefEqProofs only [go_sem, List.length_map, hlt]
      simp [List.take_of_length_le (show xs.length ≤ k by omega), show xs.length - k = 0 by omega]

set_option maxHeartbeats 400000 in
theorem eqTermS_of (xs ys : List Tm) (H : ∀ x ∈ xs, ∀ y, FC Try.prog 37 [tmD x, tmD y] [bD (same x y)]) :
    FC Try.prog 57 [.one (tmS xs), .one (tmS ys)] [bD (same xs ys)] := by
  refine FC_wf (fun hw => ?_) Try.call57
  have hl : xs.length ≤ 9223372036854775807 := by simpa [wfDs, wfT] using hw.1.1
  have hl2 : ys.length ≤ 9223372036854775807 := by simpa [wfDs, wfT] using hw.2.1.1
  refine FC_of Try.call57 Try.func57 rfl (by kernel_rfl) (by simp only [rd, List.map_cons, List.map_nil, List.length_cons, List.length_nil, Try.ntmps57]; omega) ?_
  simp -implicitDefEqProofs only [go_sem, Try.results57]
  refine ⟨fun h => ?_, fun h => ?_⟩
  · rw [same_no.2 (by rintro rfl; simp at h)]
  · have hlen : xs.length = ys.length := by simp at h; omega
    refine loop_rule (fun k : Nat => hd [(0, vT (tmS xs)), (1, vT (tmS ys)), (4, vB false), (5, vI k)] [] []) (fun k => k ≤ xs.length ∧ same xs ys = same (xs.drop k) (ys.drop k)) (fun k => xs.length - k) 0 (weak_hd ?_) ?_ ?_
    · simp -implicitDefEqProofs only [go_sem]
    · simp
    · intro k ⟨hk, hr⟩
      by_cases hlt : k < xs.length
      · have hk2 : k < ys.length := by omega
        simp -implicitDefEqProofs only [go_sem, List.length_map, hlt]
        refine drawn (by kernel_rfl) ?_
        simp -implicitDefEqProofs only [go_sem, List.length_map, getD_at, hlt, hk2, tmC_eq]
        refine dCallF (H xs[k] (List.getElem_mem hlt) ys[k]) (by simp -implicitDefEqProofs only [go_sem, tmC_eq]) ?_
        simp -implicitDefEqProofs only [go_sem, tmC_eq]
        refine ⟨by kernel_rfl, fun h => ?_, fun h => ?_⟩
        · rw [hr, List.drop_eq_getElem_cons hlt, List.drop_eq_getElem_cons hk2, same_cons, show same xs[k] ys[k] = false by simpa using h]; rfl
        · rw [List.drop_eq_getElem_cons hlt, List.drop_eq_getElem_cons hk2, same_cons, show same xs[k] ys[k] = true by simpa using h, Bool.true_and] at hr
          rw [wrap_s (by omega)]
          exact ⟨k + 1, ⟨by omega, hr⟩, by omega, weak_hd (by simp -implicitDefEqProofs only [go_sem])⟩
      · simp -implicitDefEqProofs only [go_sem, List.length_map, hlt]
        rw [hr, List.drop_of_length_le (by omega), List.drop_of_length_le (by omega), same_nil]

set_option maxHeartbeats 400000 in
theorem szTerm_of (a : Tm) (H : ∀ l : Int, 0 ≤ l → l ≤ 1048576 → FC Try.prog 64 [.one (tmS a.args), iD l] [iD (szR (tmsW a.args) l)]) (l : Int) (h0 : 0 ≤ l) (h1 : l ≤ 1048576) :
    FC Try.prog 44 [tmD a, iD l] [iD (szR a.wt l)] := by
  refine FC_wf (fun hw => ?_) Try.call44
  simp only [tmD, tmC_eq] at hw ⊢
  have hW := a.wt_eq
  have hls : a.name.length ≤ 9223372036854775807 ∧ True := by simp [wfDs, wfT, wfTs] at hw; simp [hw]
  refine FC_of Try.call44 Try.func44 rfl (by kernel_rfl) (by simp only [rd, List.map_cons, List.map_nil, List.length_cons, List.length_nil, Try.ntmps44]; omega) ?_
  simp -implicitDefEqProofs only [go_sem, Try.results44]
  rw [wrap_in (by omega) (by omega)]
  refine ⟨fun h1 => ?_, fun h1 => ?_⟩
  · rw [szR_big (by simp at h1; have hu0 : tmsW a.args = a.args.length + (a.args.map Tm.wt).sum := rfl;  omega)]
  have k1 : (a.name.length : Int) ≤ l := by simp at h1; omega
  refine callF (H (l - (a.name.length : Int)) (by omega) (by omega)) (by simp -implicitDefEqProofs only [go_sem, tmC_eq]) ?_
  simp -implicitDefEqProofs only [go_sem, tmC_eq]
  refine ⟨fun h2 => ?_, fun h2 => ?_⟩
  · have := szR_neg (by omega) (show szR (tmsW a.args) (l - (a.name.length : Int)) < 0 by simpa using h2)
    rw [szR_big (by have hu0 : tmsW a.args = a.args.length + (a.args.map Tm.wt).sum := rfl;  omega)]
  obtain ⟨k2, j2⟩ := szR_pos (show ¬ szR (tmsW a.args) (l - (a.name.length : Int)) < 0 by simpa using h2)
  rw [show szR a.wt l = l - a.wt from szR_ok (by have hu0 : tmsW a.args = a.args.length + (a.args.map Tm.wt).sum := rfl;  omega)]; exact int_eq (by have hu0 : tmsW a.args = a.args.length + (a.args.map Tm.wt).sum := rfl;  omega)

set_option maxHeartbeats 400000 in
theorem toTerm_of (a : Tm) (H : FC Try.prog 68 [.one (tmS a.args)] [.one (tmS a.args)]) (hs : a.wt ≤ 1048576) : FC Try.prog 46 [tmD a] [tmD a] := by
  have hW := a.wt_eq
  simp only [tmD, tmC_eq]
  refine FC_of Try.call46 Try.func46 rfl (by kernel_rfl) (by simp only [rd, List.map_cons, List.map_nil, List.length_cons, List.length_nil, Try.ntmps46]; omega) ?_
  simp -implicitDefEqProofs only [go_sem, Try.results46]
  refine callF (H) (by simp -implicitDefEqProofs only [go_sem, tmC_eq]) ?_
  simp -implicitDefEqProofs only [go_sem, tmC_eq]

set_option maxHeartbeats 400000 in
theorem eqTerm_of (a b : Tm) (H : FC Try.prog 57 [.one (tmS a.args), .one (tmS b.args)] [bD (same a.args b.args)]) : FC Try.prog 37 [tmD a, tmD b] [bD (same a b)] := by
  simp only [tmD, tmC_eq]
  refine FC_of Try.call37 Try.func37 rfl (by kernel_rfl) (by simp only [rd, List.map_cons, List.map_nil, List.length_cons, List.length_nil, Try.ntmps37]; omega) ?_
  simp -implicitDefEqProofs only [go_sem, Try.results37]
  refine ⟨fun h1 => ?_, fun h1 => ?_⟩
  · rw [same_no.2 (by rintro rfl; simp [same_self] at h1)]
  refine callF (H) (by simp -implicitDefEqProofs only [go_sem, tmC_eq]) ?_
  simp -implicitDefEqProofs only [go_sem, tmC_eq]
  refine ⟨fun h2 => ?_, fun h2 => ?_⟩
  · rw [same_no.2 (by rintro rfl; simp [same_self] at h2)]
  rw [same_iff.2 (by cases a; cases b; simp [same_iff, Tm.name, Tm.args] at h1 h2 ⊢; simp [h1, h2])]

theorem szTerm_c : ∀ a : Tm, ∀ l : Int, 0 ≤ l → l ≤ 1048576 → FC Try.prog 44 [tmD a, iD l] [iD (szR a.wt l)] :=
  tm_ind fun b0 xs ih l h0 h1 => szTerm_of (.mk b0 xs) (fun l h0 h1 => szTermS_of xs ih l h0 h1) l h0 h1
theorem szTermS_c (xs : List Tm) (l : Int) (h0 : 0 ≤ l) (h1 : l ≤ 1048576) : FC Try.prog 64 [.one (tmS xs), iD l] [iD (szR (tmsW xs) l)] := szTermS_of xs (fun x _ => szTerm_c x) l h0 h1
theorem toTerm_c : ∀ a : Tm, a.wt ≤ 1048576 → FC Try.prog 46 [tmD a] [tmD a] := by
  refine tm_ind fun b0 xs ih hs => ?_
  have hW := Tm.wt_eq (.mk b0 xs)
  simp only [Tm.name, Tm.args] at hW
  refine toTerm_of _ (toTermS_of xs (fun x hx => ih x hx ?_) (by omega)) hs
  have := mem_sum Tm.wt xs x hx
  omega
theorem toTermS_c (xs : List Tm) (hs : tmsW xs ≤ 1048576) : FC Try.prog 68 [.one (tmS xs)] [.one (tmS xs)] :=
  toTermS_of xs (fun x hx => toTerm_c x (by have := mem_sum Tm.wt xs x hx; unfold tmsW at hs; omega)) (by unfold tmsW at hs; omega)
theorem eqTerm_c : ∀ a b : Tm, FC Try.prog 37 [tmD a, tmD b] [bD (same a b)] :=
  tm_ind fun b0 xs ih b => eqTerm_of (.mk b0 xs) b (eqTermS_of xs b.args ih)
theorem eqTermS_c (xs ys : List Tm) : FC Try.prog 57 [.one (tmS xs), .one (tmS ys)] [bD (same xs ys)] := eqTermS_of xs ys fun x _ => eqTerm_c x

end Go.Proofs.Ytgfjbbbkploonaa
/-
  Contracts of functions of the program and of its laws, over plain data.
  Conditions: those that each theorem names.
-/
namespace Go.Proofs.Ytgfjbbbkploonaa
set_option linter.unusedSimpArgs false
set_option linter.unusedVariables false
set_option maxRecDepth 4000
open Go.RowKit

set_option maxHeartbeats 400000 in
theorem szFormulaS_of (xs : List Fm) (H : ∀ x ∈ xs, ∀ l : Int, 0 ≤ l → l ≤ 1048576 → FC Try.prog 20 [fmD x, iD l] [iD (szR x.wt l)]) (l : Int) (h0 : 0 ≤ l) (h1 : l ≤ 1048576) :
    FC Try.prog 24 [.one (fmS xs), iD l] [iD (szR (fmsW xs) l)] := by
  refine FC_wf (fun hw => ?_) Try.call24
  have hl : xs.length ≤ 9223372036854775807 := by simpa [wfDs, wfT] using hw.1.1
  refine FC_of Try.call24 Try.func24 rfl (by kernel_rfl) (by simp only [rd, List.map_cons, List.map_nil, List.length_cons, List.length_nil, Try.ntmps24]; omega) ?_
  simp -implicitDefEqProofs only [go_sem, Try.results24]
  rw [wrap_in (by omega) (by omega)]
  have hW : fmsW xs = xs.length + (xs.map Fm.wt).sum := rfl
  refine ⟨fun h => ?_, fun h => ?_⟩
  · rw [szR_big (by simp at h; omega)]
  · have hlen : (xs.length : Int) ≤ l := by simp at h; omega
    refine loop_rule (fun k : Nat => hd [(0, vT (fmS xs)), (1, vI (l - xs.length - psum Fm.wt xs k)), (5, vI k)] [] []) (fun k => k ≤ xs.length ∧ 0 ≤ l - xs.length - psum Fm.wt xs k) (fun k => xs.length - k) 0 (weak_hd ?_) ?_ ?_
    · simp -implicitDefEqProofs only [go_sem]
      simp [psum_zero]
    · simpa [psum_zero] using hlen
    · intro k ⟨hk, hp⟩
      by_cases hlt : k < xs.length
      · have hs := psum_succ Fm.wt xs k hlt
        have hs2 := psum_le Fm.wt xs (k + 1)
        simp -implicitDefEqProofs only [go_sem, List.length_map, getD_at, hlt, fmC_eq, tmC_eq]
        refine callF (H xs[k] (List.getElem_mem hlt) (l - xs.length - psum Fm.wt xs k) hp (by omega)) (by simp -implicitDefEqProofs only [go_sem, fmC_eq, tmC_eq]) ?_
        simp -implicitDefEqProofs only [go_sem, fmC_eq, tmC_eq]
        refine ⟨fun h => ?_, fun h => ?_⟩
        · have := szR_neg hp (by simpa using h)
          rw [szR_big (by omega)]
        · obtain ⟨h2, h3⟩ := szR_pos (by simpa using h)
          rw [wrap_s (by omega)]
          exact ⟨k + 1, ⟨hlt, by omega⟩, by omega, weak_hd (by simp -implicitDefEqProofs only [go_sem]; rw [h3]; congr 1; omega)⟩
      · simp -implicitDefEqProofs only [go_sem, List.length_map, hlt]
        have hall := psum_all Fm.wt xs k (by omega)
        rw [hall, szR_ok (by omega)]; congr 1; omega

set_option maxHeartbeats 400000 in
theorem toFormulaS_of (xs : List Fm) (H : ∀ x ∈ xs, FC Try.prog 22 [fmD x] [fmD x]) (hs : xs.length ≤ 1048576) :
    FC Try.prog 26 [.one (fmS xs)] [.one (fmS xs)] := by
  refine FC_wf (fun hw => ?_) Try.call26
  refine FC_of Try.call26 Try.func26 rfl (by kernel_rfl) (by simp only [rd, List.map_cons, List.map_nil, List.length_cons, List.length_nil, Try.ntmps26]; omega) ?_
  simp -implicitDefEqProofs only [go_sem, Try.results26]
  refine makeD (by simp -implicitDefEqProofs only [go_sem]; omega) ?_
  simp -implicitDefEqProofs only [go_sem]
  refine loop_rule (fun k : Nat => hd [(0, vT (fmS xs)), (3, .one (.ow 224 0)), (4, vI k)] [] [(224, ⟨true, 5, (xs.take k).map fmC ++ List.replicate (xs.length - k) [T.int .i64 0, T.str [], T.sl 2 [], T.str [], T.sl 5 []], 0, true⟩)]) (fun k => k ≤ xs.length) (fun k => xs.length - k) 0 (weak_hd ?_) ?_ ?_
  · simp -implicitDefEqProofs only [go_sem]
    simp
  · simp
  · intro k hk
    by_cases hlt : k < xs.length
    · have hlen : ((xs.take k).map fmC ++ List.replicate (xs.length - k) [T.int .i64 0, T.str [], T.sl 2 [], T.str [], T.sl 5 []]).length = xs.length := by simp; omega
      have hlt2 : k < k + (xs.length - k) := by omega
      simp -implicitDefEqProofs only [go_sem, List.length_map, getD_at, hlt, fmC_eq, tmC_eq]
      refine callF (H xs[k] (List.getElem_mem hlt)) (by simp -implicitDefEqProofs only [go_sem, fmC_eq, tmC_eq, hlen, hlt, List.length_append, List.length_map, List.length_take, List.length_replicate, Nat.min_eq_left hk, hlt2]) ?_
      simp -implicitDefEqProofs only [go_sem, fmC_eq, tmC_eq, hlen, hlt, List.length_append, List.length_map, List.length_take, List.length_replicate, Nat.min_eq_left hk, hlt2]
      refine storeD (by simp -implicitDefEqProofs only [go_sem]; simp) ?_
      simp -implicitDefEqProofs only [go_sem]
      rw [wrap_s (by omega)]
      refine ⟨k + 1, by omega, by omega, weak_hd ?_⟩
      simp -implicitDefEqProofs only [go_sem]
      have hf := fill_next ((xs.take k).map fmC) xs.length k [T.int .i64 0, T.str [], T.sl 2 [], T.str [], T.sl 5 []] (fmC xs[k]) (by simp; omega) hlt (by simp [fmC_eq, tmC_eq])
      simp only [fmC_eq, tmC_eq] at hf
      rw [hf, List.take_succ_eq_append_getElem hlt, List.map_append, List.map_singleton]
      simp only [fmC_eq, tmC_eq]
    · simp -implicitDefEqProofs only [go_sem, List.length_map, hlt]
      simp [List.take_of_length_le (show xs.length ≤ k by omega), show xs.length - k = 0 by omega]

set_option maxHeartbeats 400000 in
theorem eqFormulaS_of (xs ys : List Fm) (H : ∀ x ∈ xs, ∀ y, FC Try.prog 14 [fmD x, fmD y] [bD (same x y)]) :
    FC Try.prog 30 [.one (fmS xs), .one (fmS ys)] [bD (same xs ys)] := by
  refine FC_wf (fun hw => ?_) Try.call30
  have hl : xs.length ≤ 9223372036854775807 := by simpa [wfDs, wfT] using hw.1.1
  have hl2 : ys.length ≤ 9223372036854775807 := by simpa [wfDs, wfT] using hw.2.1.1
  refine FC_of Try.call30 Try.func30 rfl (by kernel_rfl) (by simp only [rd, List.map_cons, List.map_nil, List.length_cons, List.length_nil, Try.ntmps30]; omega) ?_
  simp -implicitDefEqProofs only [go_sem, Try.results30]
  refine ⟨fun h => ?_, fun h => ?_⟩
  · rw [same_no.2 (by rintro rfl; simp at h)]
  · have hlen : xs.length = ys.length := by simp at h; omega
    refine loop_rule (fun k : Nat => hd [(0, vT (fmS xs)), (1, vT (fmS ys)), (4, vB false), (5, vI k)] [] []) (fun k => k ≤ xs.length ∧ same xs ys = same (xs.drop k) (ys.drop k)) (fun k => xs.length - k) 0 (weak_hd ?_) ?_ ?_
    · simp -implicitDefEqProofs only [go_sem]
    · simp
    · intro k ⟨hk, hr⟩
      by_cases hlt : k < xs.length
      · have hk2 : k < ys.length := by omega
        simp -implicitDefEqProofs only [go_sem, List.length_map, hlt]
        refine drawn (by kernel_rfl) ?_
        simp -implicitDefEqProofs only [go_sem, List.length_map, getD_at, hlt, hk2, fmC_eq, tmC_eq]
        refine dCallF (H xs[k] (List.getElem_mem hlt) ys[k]) (by simp -implicitDefEqProofs only [go_sem, fmC_eq, tmC_eq]) ?_
        simp -implicitDefEqProofs only [go_sem, fmC_eq, tmC_eq]
        refine ⟨by kernel_rfl, fun h => ?_, fun h => ?_⟩
        · rw [hr, List.drop_eq_getElem_cons hlt, List.drop_eq_getElem_cons hk2, same_cons, show same xs[k] ys[k] = false by simpa using h]; rfl
        · rw [List.drop_eq_getElem_cons hlt, List.drop_eq_getElem_cons hk2, same_cons, show same xs[k] ys[k] = true by simpa using h, Bool.true_and] at hr
          rw [wrap_s (by omega)]
          exact ⟨k + 1, ⟨by omega, hr⟩, by omega, weak_hd (by simp -implicitDefEqProofs only [go_sem])⟩
      · simp -implicitDefEqProofs only [go_sem, List.length_map, hlt]
        rw [hr, List.drop_of_length_le (by omega), List.drop_of_length_le (by omega), same_nil]

set_option maxHeartbeats 400000 in
theorem szFormula_of (a : Fm) (H : ∀ l : Int, 0 ≤ l → l ≤ 1048576 → FC Try.prog 24 [.one (fmS a.parts), iD l] [iD (szR (fmsW a.parts) l)]) (l : Int) (h0 : 0 ≤ l) (h1 : l ≤ 1048576) :
    FC Try.prog 20 [fmD a, iD l] [iD (szR a.wt l)] := by
  refine FC_wf (fun hw => ?_) Try.call20
  simp only [fmD, fmC_eq, tmC_eq] at hw ⊢
  have hW := a.wt_eq
  have hls : a.var.length ≤ 9223372036854775807 ∧ True := by simp [wfDs, wfT, wfTs] at hw; simp [hw]
  refine FC_of Try.call20 Try.func20 rfl (by kernel_rfl) (by simp only [rd, List.map_cons, List.map_nil, List.length_cons, List.length_nil, Try.ntmps20]; omega) ?_
  simp -implicitDefEqProofs only [go_sem, Try.results20]
  refine callF (szTerm_c a.atom l (by omega) (by omega)) (by simp -implicitDefEqProofs only [go_sem, fmC_eq, tmC_eq, tmC_eq]) ?_
  simp -implicitDefEqProofs only [go_sem, fmC_eq, tmC_eq, tmC_eq]
  refine ⟨fun h1 => ?_, fun h1 => ?_⟩
  · have := szR_neg (by omega) (show szR a.atom.wt l < 0 by simpa using h1)
    rw [szR_big (by have hu0 : fmsW a.parts = a.parts.length + (a.parts.map Fm.wt).sum := rfl;  omega)]
  obtain ⟨k1, j1⟩ := szR_pos (show ¬ szR a.atom.wt l < 0 by simpa using h1)
  rw [wrap_in (by omega) (by omega)]
  refine ⟨fun h2 => ?_, fun h2 => ?_⟩
  · rw [szR_big (by simp at h2; have hu0 : fmsW a.parts = a.parts.length + (a.parts.map Fm.wt).sum := rfl;  omega)]
  have k2 : (a.var.length : Int) ≤ (szR a.atom.wt l) := by simp at h2; omega
  refine callF (H ((szR a.atom.wt l) - (a.var.length : Int)) (by omega) (by omega)) (by simp -implicitDefEqProofs only [go_sem, fmC_eq, tmC_eq]) ?_
  simp -implicitDefEqProofs only [go_sem, fmC_eq, tmC_eq]
  refine ⟨fun h3 => ?_, fun h3 => ?_⟩
  · have := szR_neg (by omega) (show szR (fmsW a.parts) ((szR a.atom.wt l) - (a.var.length : Int)) < 0 by simpa using h3)
    rw [szR_big (by have hu0 : fmsW a.parts = a.parts.length + (a.parts.map Fm.wt).sum := rfl;  omega)]
  obtain ⟨k3, j3⟩ := szR_pos (show ¬ szR (fmsW a.parts) ((szR a.atom.wt l) - (a.var.length : Int)) < 0 by simpa using h3)
  rw [show szR a.wt l = l - a.wt from szR_ok (by have hu0 : fmsW a.parts = a.parts.length + (a.parts.map Fm.wt).sum := rfl;  omega)]; exact int_eq (by have hu0 : fmsW a.parts = a.parts.length + (a.parts.map Fm.wt).sum := rfl;  omega)

set_option maxHeartbeats 400000 in
theorem toFormula_of (a : Fm) (H : FC Try.prog 26 [.one (fmS a.parts)] [.one (fmS a.parts)]) (hs : a.wt ≤ 1048576) : FC Try.prog 22 [fmD a] [fmD a] := by
  have hW := a.wt_eq
  simp only [fmD, fmC_eq, tmC_eq]
  refine FC_of Try.call22 Try.func22 rfl (by kernel_rfl) (by simp only [rd, List.map_cons, List.map_nil, List.length_cons, List.length_nil, Try.ntmps22]; omega) ?_
  simp -implicitDefEqProofs only [go_sem, Try.results22]
  refine callF (toTerm_c a.atom (by have hu0 : fmsW a.parts = a.parts.length + (a.parts.map Fm.wt).sum := rfl;  omega)) (by simp -implicitDefEqProofs only [go_sem, fmC_eq, tmC_eq, tmC_eq]) ?_
  simp -implicitDefEqProofs only [go_sem, fmC_eq, tmC_eq, tmC_eq]
  refine callF (H) (by simp -implicitDefEqProofs only [go_sem, fmC_eq, tmC_eq]) ?_
  simp -implicitDefEqProofs only [go_sem, fmC_eq, tmC_eq]

set_option maxHeartbeats 400000 in
theorem eqFormula_of (a b : Fm) (H : FC Try.prog 30 [.one (fmS a.parts), .one (fmS b.parts)] [bD (same a.parts b.parts)]) : FC Try.prog 14 [fmD a, fmD b] [bD (same a b)] := by
  simp only [fmD, fmC_eq, tmC_eq]
  refine FC_of Try.call14 Try.func14 rfl (by kernel_rfl) (by simp only [rd, List.map_cons, List.map_nil, List.length_cons, List.length_nil, Try.ntmps14]; omega) ?_
  simp -implicitDefEqProofs only [go_sem, Try.results14]
  refine ⟨fun h1 => ?_, fun h1 => ?_⟩
  · rw [same_no.2 (by rintro rfl; simp [same_self] at h1)]
  refine callF (eqTerm_c a.atom b.atom) (by simp -implicitDefEqProofs only [go_sem, fmC_eq, tmC_eq, tmC_eq]) ?_
  simp -implicitDefEqProofs only [go_sem, fmC_eq, tmC_eq, tmC_eq]
  refine ⟨fun h2 => ?_, fun h2 => ?_⟩
  · rw [same_no.2 (by rintro rfl; simp [same_self] at h2)]
  refine ⟨fun h3 => ?_, fun h3 => ?_⟩
  · rw [same_no.2 (by rintro rfl; simp [same_self] at h3)]
  refine callF (H) (by simp -implicitDefEqProofs only [go_sem, fmC_eq, tmC_eq]) ?_
  simp -implicitDefEqProofs only [go_sem, fmC_eq, tmC_eq]
  refine ⟨fun h4 => ?_, fun h4 => ?_⟩
  · rw [same_no.2 (by rintro rfl; simp [same_self] at h4)]
  rw [same_iff.2 (by cases a; cases b; simp [same_iff, Fm.op, Fm.atom, Fm.var, Fm.parts] at h1 h2 h3 h4 ⊢; simp [h1, h2, h3, h4])]

theorem szFormula_c : ∀ a : Fm, ∀ l : Int, 0 ≤ l → l ≤ 1048576 → FC Try.prog 20 [fmD a, iD l] [iD (szR a.wt l)] :=
  fm_ind fun b0 b1 b2 xs ih l h0 h1 => szFormula_of (.mk b0 b1 b2 xs) (fun l h0 h1 => szFormulaS_of xs ih l h0 h1) l h0 h1
theorem szFormulaS_c (xs : List Fm) (l : Int) (h0 : 0 ≤ l) (h1 : l ≤ 1048576) : FC Try.prog 24 [.one (fmS xs), iD l] [iD (szR (fmsW xs) l)] := szFormulaS_of xs (fun x _ => szFormula_c x) l h0 h1
theorem toFormula_c : ∀ a : Fm, a.wt ≤ 1048576 → FC Try.prog 22 [fmD a] [fmD a] := by
  refine fm_ind fun b0 b1 b2 xs ih hs => ?_
  have hW := Fm.wt_eq (.mk b0 b1 b2 xs)
  simp only [Fm.op, Fm.atom, Fm.var, Fm.parts] at hW
  refine toFormula_of _ (toFormulaS_of xs (fun x hx => ih x hx ?_) (by omega)) hs
  have := mem_sum Fm.wt xs x hx
  omega
theorem toFormulaS_c (xs : List Fm) (hs : fmsW xs ≤ 1048576) : FC Try.prog 26 [.one (fmS xs)] [.one (fmS xs)] :=
  toFormulaS_of xs (fun x hx => toFormula_c x (by have := mem_sum Fm.wt xs x hx; unfold fmsW at hs; omega)) (by unfold fmsW at hs; omega)
theorem eqFormula_c : ∀ a b : Fm, FC Try.prog 14 [fmD a, fmD b] [bD (same a b)] :=
  fm_ind fun b0 b1 b2 xs ih b => eqFormula_of (.mk b0 b1 b2 xs) b (eqFormulaS_of xs b.parts ih)
theorem eqFormulaS_c (xs ys : List Fm) : FC Try.prog 30 [.one (fmS xs), .one (fmS ys)] [bD (same xs ys)] := eqFormulaS_of xs ys fun x _ => eqFormula_c x

set_option maxHeartbeats 400000 in
theorem szSequent_of (a : Sq) (l : Int) (h0 : 0 ≤ l) (h1 : l ≤ 1048576) :
    FC Try.prog 7 [sqD a, iD l] [iD (szR a.wt l)] := by
  refine FC_wf (fun hw => ?_) Try.call7
  simp only [sqD, sqC_eq] at hw ⊢
  have hW := a.wt_eq
  have hls : True := by simp [wfDs, wfT, wfTs] at hw; simp [hw]
  refine FC_of Try.call7 Try.func7 rfl (by kernel_rfl) (by simp only [rd, List.map_cons, List.map_nil, List.length_cons, List.length_nil, Try.ntmps7]; omega) ?_
  simp -implicitDefEqProofs only [go_sem, Try.results7]
  refine callF (szFormulaS_c a.left l (by omega) (by omega)) (by simp -implicitDefEqProofs only [go_sem, sqC_eq]) ?_
  simp -implicitDefEqProofs only [go_sem, sqC_eq]
  refine ⟨fun h1 => ?_, fun h1 => ?_⟩
  · have := szR_neg (by omega) (show szR (fmsW a.left) l < 0 by simpa using h1)
    rw [szR_big (by have hu0 : fmsW a.left = a.left.length + (a.left.map Fm.wt).sum := rfl; have hu1 : fmsW a.right = a.right.length + (a.right.map Fm.wt).sum := rfl;  omega)]
  obtain ⟨k1, j1⟩ := szR_pos (show ¬ szR (fmsW a.left) l < 0 by simpa using h1)
  refine callF (szFormulaS_c a.right (szR (fmsW a.left) l) (by omega) (by omega)) (by simp -implicitDefEqProofs only [go_sem, sqC_eq]) ?_
  simp -implicitDefEqProofs only [go_sem, sqC_eq]
  refine ⟨fun h2 => ?_, fun h2 => ?_⟩
  · have := szR_neg (by omega) (show szR (fmsW a.right) (szR (fmsW a.left) l) < 0 by simpa using h2)
    rw [szR_big (by have hu0 : fmsW a.left = a.left.length + (a.left.map Fm.wt).sum := rfl; have hu1 : fmsW a.right = a.right.length + (a.right.map Fm.wt).sum := rfl;  omega)]
  obtain ⟨k2, j2⟩ := szR_pos (show ¬ szR (fmsW a.right) (szR (fmsW a.left) l) < 0 by simpa using h2)
  rw [show szR a.wt l = l - a.wt from szR_ok (by have hu0 : fmsW a.left = a.left.length + (a.left.map Fm.wt).sum := rfl; have hu1 : fmsW a.right = a.right.length + (a.right.map Fm.wt).sum := rfl;  omega)]; exact int_eq (by have hu0 : fmsW a.left = a.left.length + (a.left.map Fm.wt).sum := rfl; have hu1 : fmsW a.right = a.right.length + (a.right.map Fm.wt).sum := rfl;  omega)

set_option maxHeartbeats 400000 in
theorem toSequent_of (a : Sq) (hs : a.wt ≤ 1048576) : FC Try.prog 9 [sqD a] [sqD a] := by
  have hW := a.wt_eq
  simp only [sqD, sqC_eq]
  refine FC_of Try.call9 Try.func9 rfl (by kernel_rfl) (by simp only [rd, List.map_cons, List.map_nil, List.length_cons, List.length_nil, Try.ntmps9]; omega) ?_
  simp -implicitDefEqProofs only [go_sem, Try.results9]
  refine callF (toFormulaS_c a.left (by have hu0 : fmsW a.left = a.left.length + (a.left.map Fm.wt).sum := rfl; have hu1 : fmsW a.right = a.right.length + (a.right.map Fm.wt).sum := rfl;  omega)) (by simp -implicitDefEqProofs only [go_sem, sqC_eq]) ?_
  simp -implicitDefEqProofs only [go_sem, sqC_eq]
  refine callF (toFormulaS_c a.right (by have hu0 : fmsW a.left = a.left.length + (a.left.map Fm.wt).sum := rfl; have hu1 : fmsW a.right = a.right.length + (a.right.map Fm.wt).sum := rfl;  omega)) (by simp -implicitDefEqProofs only [go_sem, sqC_eq]) ?_
  simp -implicitDefEqProofs only [go_sem, sqC_eq]

set_option maxHeartbeats 400000 in
theorem eqSequent_of (a b : Sq) : FC Try.prog 11 [sqD a, sqD b] [bD (same a b)] := by
  simp only [sqD, sqC_eq]
  refine FC_of Try.call11 Try.func11 rfl (by kernel_rfl) (by simp only [rd, List.map_cons, List.map_nil, List.length_cons, List.length_nil, Try.ntmps11]; omega) ?_
  simp -implicitDefEqProofs only [go_sem, Try.results11]
  refine callF (eqFormulaS_c a.left b.left) (by simp -implicitDefEqProofs only [go_sem, sqC_eq]) ?_
  simp -implicitDefEqProofs only [go_sem, sqC_eq]
  refine ⟨fun h1 => ?_, fun h1 => ?_⟩
  · rw [same_no.2 (by rintro rfl; simp [same_self] at h1)]
  refine callF (eqFormulaS_c a.right b.right) (by simp -implicitDefEqProofs only [go_sem, sqC_eq]) ?_
  simp -implicitDefEqProofs only [go_sem, sqC_eq]
  refine ⟨fun h2 => ?_, fun h2 => ?_⟩
  · rw [same_no.2 (by rintro rfl; simp [same_self] at h2)]
  rw [same_iff.2 (by cases a; cases b; simp [same_iff, Sq.left, Sq.right] at h1 h2 ⊢; simp [h1, h2])]

theorem szSequent_c (a : Sq) (l : Int) (h0 : 0 ≤ l) (h1 : l ≤ 1048576) : FC Try.prog 7 [sqD a, iD l] [iD (szR a.wt l)] := szSequent_of a l h0 h1
theorem toSequent_c (a : Sq) (hs : a.wt ≤ 1048576) : FC Try.prog 9 [sqD a] [sqD a] := toSequent_of a hs
theorem eqSequent_c (a b : Sq) : FC Try.prog 11 [sqD a, sqD b] [bD (same a b)] := eqSequent_of a b

end Go.Proofs.Ytgfjbbbkploonaa
/-
  SequentFormula: the law.
  Conditions: none.
-/
namespace Go.Proofs.Ytgfjbbbkploonaa
set_option linter.unusedSimpArgs false
set_option linter.unusedVariables false
set_option maxRecDepth 4000
open Go.RowKit
theorem ctTSequent_wt (s : Sq) : ctTSequent s ≤ 4 * s.wt := by
  have h1 := ctFms_wt s.left
  have h2 := ctFms_wt s.right
  have hW := s.wt_eq
  obtain ⟨l, r⟩ := s
  simp only [ctTSequent]
  simp only at h1 h2 hW
  omega
set_option maxHeartbeats 4000000 in
theorem lawSequentFormula_c (s : Sq) : FC Try.prog 4 [sqD s] [bD true] := by
  simp only [sqD, sqC_eq]
  refine FC_ofN Try.call4 Try.func4 rfl (by kernel_rfl) (by simp only [rd, List.map_cons, List.map_nil, List.length_cons, List.length_nil, Try.ntmps4]; omega) ?_
  simp -implicitDefEqProofs only [go_sem, Try.results4]
  refine callF (szSequent_c s 1048576 (by omega) (by omega)) (by simp -implicitDefEqProofs only [go_sem, sqC_eq]) ?_
  simp -implicitDefEqProofs only [go_sem, sqC_eq]
  refine ⟨fun h => trivial, fun h => ?_⟩
  have hw : s.wt ≤ 1048576 := by have := (szR_pos (by simpa using h)).1; omega
  have hrw := sqR_wt s
  have HS := specSequentFormula_c s hw
  have HI := implSequentFormula_c s hw
  generalize sqR s = R at HS HI hrw
  generalize (s.good && (sqF s).good) = G at HS HI
  simp only [fmD, sqD, sqC_eq, fmC_eq R] at HS HI
  refine callF (toSequent_c s (by omega)) (by simp -implicitDefEqProofs only [go_sem, sqC_eq]) ?_
  simp -implicitDefEqProofs only [go_sem, sqC_eq]
  refine callF (HS) (by simp -implicitDefEqProofs only [go_sem, sqC_eq]) ?_
  simp -implicitDefEqProofs only [go_sem, sqC_eq]
  refine callF (toSequent_c s (by omega)) (by simp -implicitDefEqProofs only [go_sem, sqC_eq]) ?_
  simp -implicitDefEqProofs only [go_sem, sqC_eq]
  refine callF (HI) (by simp -implicitDefEqProofs only [go_sem, sqC_eq]) ?_
  simp -implicitDefEqProofs only [go_sem, sqC_eq]
  refine callF (eqFormula_c R R) (by simp -implicitDefEqProofs only [go_sem, fmC_eq R, same_self]) ?_
  simp -implicitDefEqProofs only [go_sem, fmC_eq R, same_self]
  refine ⟨fun h => by simp at h, fun _ => ?_⟩
  refine drawn (by kernel_rfl) ?_
  simp -implicitDefEqProofs only [go_sem]
  refine dCallF (toSequent_c s (by omega)) (by simp -implicitDefEqProofs only [go_sem, sqC_eq]) ?_
  simp -implicitDefEqProofs only [go_sem, sqC_eq]
  refine dCallF (eqSequent_c s s) (by simp -implicitDefEqProofs only [go_sem, sqC_eq]) ?_
  simp -implicitDefEqProofs only [go_sem, sqC_eq]
  refine ⟨by kernel_rfl, fun h => ?_, fun _ => ?_⟩
  · simp [same_self] at h
  have hc := ctTSequent_wt s
  have hcR := ctTFormula_wt R
  have HM := markSequent_c s 1 (by omega) (by omega)
  have HM2 := markFormula_c R 1 (by omega) (by omega)
  have HL := heldFormula_c R 1 (by omega) (by omega)
  have hm := (mkTSequent_ct s 1).1
  have hmR := (mkTFormula_ct R 1).1
  rw [mkTFormula_cells] at HM2 HL
  simp only [sqC_eq] at HM
  generalize (mkTSequent s 1).2 = k1 at HM hm
  generalize (mkTFormula R 1).2 = k2 at HM2 HL hmR
  generalize (mkTSequent s 1).1.left = f2 at HM
  generalize (mkTSequent s 1).1.right = f5 at HM
  generalize (mkTFormula R 1).1.atom.args = r2 at HM2 HL
  generalize (mkTFormula R 1).1.parts = r5 at HM2 HL
  rw [fmC_eq] at HM2
  refine callId (l := [(1, .one (.bx 1 0)), (2, vT (.bool false)), (4, .one (.bx 4 0)), (5, vT (.bool G)), (6, .one (.bx 6 0)), (7, .one (.bx 7 0)), (8, vT (.bool G)), (46, .agg [.ow 832 0, .ow 833 0]), (47, vI 1)]) (bl := [(1, [.rn (fmS s.left), .rn (fmS s.right)]), (4, [.t (.int .i64 R.op), .t (.str R.atom.name), .ow 706 0, .t (.str R.var), .ow 708 0]), (6, [.ow 832 0, .ow 833 0]), (7, [.t (.int .i64 R.op), .t (.str R.atom.name), .ow 930 0, .t (.str R.var), .ow 932 0])]) (el := [(706, ⟨true, 2, R.atom.args.map tmC, 0, true⟩), (708, ⟨true, 5, R.parts.map fmC, 0, true⟩), (832, ⟨true, 5, s.left.map fmC, 0, true⟩), (833, ⟨true, 5, s.right.map fmC, 0, true⟩), (930, ⟨true, 2, R.atom.args.map tmC, 0, true⟩), (932, ⟨true, 5, R.parts.map fmC, 0, true⟩)]) HM (by simp -implicitDefEqProofs only [go_sem, fmS]) rfl rfl rfl (by simp -implicitDefEqProofs only [go_sem, fmS]) rfl ?_
  simp -implicitDefEqProofs only [go_sem, fmS]
  refine callF (eqFormula_c R R) (by simp -implicitDefEqProofs only [go_sem, fmC_eq R, same_self, fmS]) ?_
  simp -implicitDefEqProofs only [go_sem, fmC_eq R, same_self, fmS]
  refine ⟨fun h => by simp at h, fun _ => ?_⟩
  refine callId (l := [(1, .one (.bx 1 0)), (2, vT (.bool false)), (4, .one (.bx 4 0)), (5, vT (.bool G)), (7, .one (.bx 7 0)), (8, vT (.bool G)), (62, .agg [.t (.int .i64 R.op), .t (.str R.atom.name), .ow 930 0, .t (.str R.var), .ow 932 0]), (63, vI 1)]) (bl := [(1, [.rn (fmS s.left), .rn (fmS s.right)]), (4, [.t (.int .i64 R.op), .t (.str R.atom.name), .ow 706 0, .t (.str R.var), .ow 708 0]), (7, [.t (.int .i64 R.op), .t (.str R.atom.name), .ow 930 0, .t (.str R.var), .ow 932 0])]) (el := [(706, ⟨true, 2, R.atom.args.map tmC, 0, true⟩), (708, ⟨true, 5, R.parts.map fmC, 0, true⟩), (930, ⟨true, 2, R.atom.args.map tmC, 0, true⟩), (932, ⟨true, 5, R.parts.map fmC, 0, true⟩)]) HM2 (by simp -implicitDefEqProofs only [go_sem, fmC_eq R, fmS]) rfl rfl rfl (by simp -implicitDefEqProofs only [go_sem, fmC_eq R, fmS]) rfl ?_
  simp -implicitDefEqProofs only [go_sem, fmC_eq R, fmS]
  refine callF (HL) (by simp -implicitDefEqProofs only [go_sem]) ?_
  simp -implicitDefEqProofs only [go_sem]
  refine ⟨fun h => by simp at h, fun _ => ?_⟩
  refine callF (toSequent_c s (by omega)) (by simp -implicitDefEqProofs only [go_sem, sqC_eq, fmS]) ?_
  simp -implicitDefEqProofs only [go_sem, sqC_eq, fmS]
  refine callF (HI) (by simp -implicitDefEqProofs only [go_sem, sqC_eq, fmS]) ?_
  simp -implicitDefEqProofs only [go_sem, sqC_eq, fmS]
  refine callF (eqFormula_c R R) (by simp -implicitDefEqProofs only [go_sem, fmC_eq R, same_self]) ?_
  simp -implicitDefEqProofs only [go_sem, fmC_eq R, same_self]
  refine ⟨fun h => by simp at h, fun _ => ?_⟩
  refine callF (HL) (by simp -implicitDefEqProofs only [go_sem]) ?_
  simp -implicitDefEqProofs only [go_sem]
  refine ⟨fun h => by simp at h, fun _ => trivial⟩
end Go.Proofs.Ytgfjbbbkploonaa
/-
  What a row's reading of an argument gives: the reading of plain data.
  Conditions: none.
-/
namespace Go.Proofs.Ytgfjbbbkploonaa
set_option linter.unusedSimpArgs false
set_option linter.unusedVariables false
set_option maxRecDepth 4000
open Go.RowKit

/-- A plain datum as a tree. -/
inductive PD where
  | int (n : Int)
  | bool (b : Bool)
  | str (s : List UInt8)
  | sl (sz : Nat) (xs : List PD)
  | st (fs : List PD)
mutual
/-- Its cells. -/
def PD.cells : PD → List T
  | .int n => [.int .i64 n]
  | .bool b => [.bool b]
  | .str s => [.str s]
  | .sl sz xs => [.sl sz (PD.rows xs)]
  | .st fs => PD.flat fs
def PD.rows : List PD → List (List T)
  | [] => []
  | x :: xs => x.cells :: PD.rows xs
def PD.flat : List PD → List T
  | [] => []
  | x :: xs => x.cells ++ PD.flat xs
end
theorem PD.rows_map (xs : List PD) : PD.rows xs = xs.map PD.cells := by
  induction xs with
  | nil => rfl
  | cons x xs ih => rw [PD.rows, ih]; rfl
theorem repAll_append {w : World} {A : Nat → Prop} : ∀ {t1 t2 : List T} {v1 v2 : List Value}, RepAll w A t1 v1 → RepAll w A t2 v2 → RepAll w A (t1 ++ t2) (v1 ++ v2)
  | [], _, v1, _, h, k => by unfold RepAll at h; subst h; exact k
  | t :: ts, _, v1, _, h, k => by
    unfold RepAll at h
    obtain ⟨v, vs', rfl, h1, h2⟩ := h
    rw [List.cons_append, List.cons_append]
    unfold RepAll
    exact ⟨v, _, rfl, h1, repAll_append h2 k⟩
theorem repAll_one {w : World} {A : Nat → Prop} {t : T} {v : Value} (h : RepV w A t v) : RepAll w A [t] [v] := by
  unfold RepAll
  exact ⟨v, [], rfl, h, by unfold RepAll; rfl⟩
/-- The fields lie one behind the other, from offset o to n, their types among ok. -/
def fieldsOk (P : Program) (ok : TypeId → Bool) : List Field → Nat → Nat → Bool
  | [], o, n => o == n
  | f :: fs, o, n => f.offset == o && ok f.type && fieldsOk P ok fs (o + P.cellsOf f.type) n
/-- A type of plain data: int, bool, string, slice, struct. -/
def typeOk (P : Program) (ok : TypeId → Bool) (t : TypeId) : Bool :=
  match P.underlying t with
  | some (.int k) => k == .i64
  | some .bool | some .string => true
  | some (.slice e) => ok e && decide (0 < P.cellsOf e)
  | some (.struct fs) => fieldsOk P ok fs.toList 0 (P.cellsOf t)
  | _ => false

mutual
/-- The datum is of the type. -/
def Shape (P : Program) : TypeId → PD → Prop
  | t, .int _ => P.underlying t = some (.int .i64)
  | t, .bool _ => P.underlying t = some .bool
  | t, .str _ => P.underlying t = some .string
  | t, .sl sz xs => ∃ e, P.underlying t = some (.slice e) ∧ sz = P.cellsOf e ∧ ShapeL P e xs
  | t, .st fs => ∃ fl, P.underlying t = some (.struct fl) ∧ ShapeF P (fl.toList.map (·.type)) fs
def ShapeL (P : Program) : TypeId → List PD → Prop
  | _, [] => True
  | e, x :: xs => Shape P e x ∧ ShapeL P e xs
def ShapeF (P : Program) : List TypeId → List PD → Prop
  | ts, [] => ts = []
  | ts, x :: xs => ∃ t ts', ts = t :: ts' ∧ Shape P t x ∧ ShapeF P ts' xs
end

theorem ShapeL.of_mem {P : Program} {e : TypeId} : ∀ {xs : List PD}, (∀ x ∈ xs, Shape P e x) → ShapeL P e xs
  | [], _ => by simp [ShapeL]
  | x :: xs, h => by rw [ShapeL]; exact ⟨h x (by simp), ShapeL.of_mem fun y hy => h y (by simp [hy])⟩
theorem ShapeL.mem {P : Program} {e : TypeId} : ∀ {xs : List PD}, ShapeL P e xs → ∀ x ∈ xs, Shape P e x
  | [], _, x, hx => by simp at hx
  | y :: xs, h, x, hx => by
    rw [ShapeL] at h
    rcases List.mem_cons.1 hx with rfl | hx
    · exact h.1
    · exact ShapeL.mem h.2 x hx

theorem build_list {α : Type} (n : Nat) (p : Nat → α → Prop) (h : ∀ i, i < n → ∃ a, p i a) : ∃ l : List α, l.length = n ∧ ∀ i (hi : i < l.length), p i l[i] := by
  induction n with
  | zero => exact ⟨[], rfl, fun i hi => by simp at hi⟩
  | succ n ih =>
    obtain ⟨l, h1, h2⟩ := ih fun i hi => h i (by omega)
    obtain ⟨a, ha⟩ := h n (by omega)
    refine ⟨l ++ [a], by simp [h1], fun i hi => ?_⟩
    rcases Nat.lt_or_ge i l.length with hl | hl
    · rw [List.getElem_append_left hl]; exact h2 i hl
    · have : i = n := by simp at hi; omega
      subst this
      rw [List.getElem_append_right (by omega)]
      simpa [h1] using ha

section
variable {H : Type} {enc : TypeId × Value → H} {P : Program} {w : World} {ok : TypeId → Bool}

theorem rep_fields {n : Nat} (ih : ∀ t cs x, ok t = true → DataW.trod enc P w 0 (fun _ => true) true n t cs = some x → ∃ d : PD, RepAll w (· < w.heap.size) d.cells cs ∧ Shape P t d) : ∀ (fs : List Field) (o m : Nat) (cs : List Value), fieldsOk P ok fs o m = true → cs.length = m →
    (∀ f ∈ fs, ∃ x, DataW.trod enc P w 0 (fun _ => true) true n f.type ((cs.drop f.offset).take (P.cellsOf f.type)) = some x) → ∃ ds : List PD, RepAll w (· < w.heap.size) (PD.flat ds) (cs.drop o) ∧ ShapeF P (fs.map (·.type)) ds
  | [], o, m, cs, h, hl, _ => by
    rw [fieldsOk, beq_iff_eq] at h
    exact ⟨[], by rw [PD.flat, List.drop_of_length_le (by omega)]; unfold RepAll; rfl, by rw [List.map_nil, ShapeF]⟩
  | f :: fs, o, m, cs, h, hl, hx => by
    rw [fieldsOk, Bool.and_eq_true, Bool.and_eq_true, beq_iff_eq] at h
    obtain ⟨⟨h1, h2⟩, h3⟩ := h
    obtain ⟨x, hx0⟩ := hx f (by simp)
    obtain ⟨d, hd1, hd2⟩ := ih _ _ _ h2 hx0
    obtain ⟨ds, hs1, hs2⟩ := rep_fields ih fs _ m cs h3 hl fun g hg => hx g (by simp [hg])
    refine ⟨d :: ds, ?_, ?_⟩
    · rw [PD.flat]
      have := repAll_append hd1 hs1
      rw [h1, ← List.drop_drop, List.take_append_drop] at this
      exact this
    · rw [List.map_cons, ShapeF]
      exact ⟨_, _, rfl, hd2, hs2⟩

/-- An argument's reading by the row is a reading of a plain tree. -/
theorem rep_of_trod (hclosed : ∀ t, ok t = true → typeOk P ok t = true) : ∀ (fuel : Nat) (t : TypeId) (cs : List Value) (x : DataW H × List MemPlace), ok t = true → DataW.trod enc P w 0 (fun _ => true) true fuel t cs = some x →
    ∃ d : PD, RepAll w (· < w.heap.size) d.cells cs ∧ Shape P t d := by
  intro fuel
  induction fuel with
  | zero => intro t cs x _ h; simp [DataW.trod] at h
  | succ n ih =>
    intro t cs x hok h
    have ht := hclosed t hok
    unfold typeOk at ht
    split at ht
    · rename_i k hu
      have hk : k = .i64 := by simpa using ht
      subst hk
      obtain ⟨z, rfl, rfl, hw⟩ := DataW.trod_int hu h
      refine ⟨.int z, ?_, ?_⟩
      · rw [PD.cells]
        refine repAll_one ?_
        unfold RepV
        simp [Lit.wf, IntKind.min, IntKind.max, IntKind.bits, IntKind.signed] at hw
        have m1 : IntKind.min .i64 = -9223372036854775808 := by decide
        have m2 : IntKind.max .i64 = 9223372036854775807 := by decide
        exact ⟨rfl, by omega, by omega⟩
      · rw [Shape]; exact hu
    · rename_i hu
      obtain ⟨b, rfl, rfl⟩ := DataW.trod_bool hu h
      exact ⟨.bool b, by rw [PD.cells]; exact repAll_one (by unfold RepV; rfl), by rw [Shape]; exact hu⟩
    · rename_i hu
      obtain ⟨s, rfl, rfl, hs⟩ := DataW.trod_string hu h
      unfold maxLen at hs
      have hz : s.data.toList.length = s.size := by rw [Array.length_toList]; rfl
      refine ⟨.str s.data.toList, ?_, by rw [Shape]; exact hu⟩
      rw [PD.cells]
      refine repAll_one ?_
      unfold RepV
      exact ⟨rfl, by rw [hz]; omega⟩
    · rename_i e hu
      rw [Bool.and_eq_true, decide_eq_true_eq] at ht
      obtain ⟨he, hc⟩ := ht
      rcases DataW.trod_slice hu h with ⟨rfl, _⟩ | ⟨a, len, cap, elems, rest, m, hm, rfl, _, _, hl, hcap, hel, hat, _⟩
      · refine ⟨.sl (P.cellsOf e) [], ?_, ?_⟩
        · rw [PD.cells, PD.rows]
          refine repAll_one ?_
          unfold RepV
          exact ⟨none, 0, rfl, Nat.le_refl _, by omega, Or.inl rfl⟩
        · rw [Shape]; exact ⟨e, hu, rfl, by rw [ShapeL]; trivial⟩
      · obtain rfl : n = m := by omega
        unfold maxLen at hcap
        have hone : ∀ i, i < len → ∃ p : PD × List Value, p.2.length = P.cellsOf e ∧ (∀ j, j < P.cellsOf e → w.cell? ((a.add (i * P.cellsOf e)).add j) = p.2[j]?) ∧ RepAll w (· < w.heap.size) p.1.cells p.2 ∧ Shape P e p.1 := by
          intro i hi
          have h1 := hat i hi
          rw [List.getElem?_eq_getElem (by omega)] at h1
          obtain ⟨cs', hc1, hc2⟩ := Option.bind_eq_some_iff.1 h1
          obtain ⟨_, hlen, hcell⟩ := World.cells?_some hc1
          obtain ⟨d, hd1, hd2⟩ := ih e cs' _ he hc2
          exact ⟨(d, cs'), hlen, hcell, hd1, hd2⟩
        obtain ⟨l, hl1, hl2⟩ := build_list len _ hone
        refine ⟨.sl (P.cellsOf e) (l.map (·.1)), ?_, ?_⟩
        · rw [PD.cells, PD.rows_map]
          refine repAll_one ?_
          unfold RepV
          refine ⟨some a, cap, by simp [hl1], by simp; omega, by omega, ?_⟩
          by_cases hz : len = 0
          · left; rw [List.eq_nil_of_length_eq_zero (by omega : l.length = 0)]; rfl
          · right
            have h0 := hl2 0 (by omega)
            have hcell0 := h0.2.1 0 hc
            rw [List.getElem?_eq_getElem (by rw [h0.1]; exact hc)] at hcell0
            simp only [Nat.zero_mul, Addr.add, if_true] at hcell0
            have hsp : a.spot = none ∧ a.block < w.heap.size := by
              unfold World.cell? at hcell0
              split at hcell0
              · rename_i hb
                refine ⟨?_, (Array.getElem?_eq_some_iff.1 hb).1⟩
                cases hs : a.spot with
                | none => rfl
                | some s => simp [hs] at hcell0
              · cases hcell0
            obtain ⟨b, o, sp⟩ := a
            simp only at hsp
            obtain ⟨rfl, hlt⟩ := hsp
            refine ⟨b, o, rfl, hlt, RepRows.mk fun i r hi => ?_⟩
            simp only [List.getElem?_map, Option.map_eq_some_iff] at hi
            obtain ⟨y, ⟨p, hp, rfl⟩, rfl⟩ := hi
            obtain ⟨hi', rfl⟩ := List.getElem?_eq_some_iff.1 hp
            have h1 := hl2 i hi'
            refine ⟨h1.2.2.1.len ▸ h1.1, RepAt.mk fun j c hj => ?_⟩
            obtain ⟨v, hv1, hv2⟩ := h1.2.2.1.at j c hj
            refine ⟨v, ?_, hv2⟩
            have hjj : j < P.cellsOf e := by
              have := (List.getElem?_eq_some_iff.1 hv1).1
              rw [h1.1] at this; exact this
            rw [← hv1, ← h1.2.1 j hjj]
            congr 1
            simp only [Addr.add]
            split <;> split <;> simp_all [Nat.add_assoc]
        · rw [Shape]
          refine ⟨e, hu, rfl, ShapeL.of_mem fun x hx => ?_⟩
          obtain ⟨y, hy, rfl⟩ := List.mem_map.1 hx
          obtain ⟨i, hi, rfl⟩ := List.mem_iff_getElem.1 hy
          exact (hl2 i hi).2.2.2
    · rename_i fs hu
      obtain ⟨xs, m, hm, _, hlen, hxs, hf⟩ := DataW.trod_struct hu h
      obtain rfl : n = m := by omega
      obtain ⟨ds, h1, h2⟩ := rep_fields ih fs.toList 0 (P.cellsOf t) cs ht hlen fun f hfm => by
        obtain ⟨i, hi, rfl⟩ := List.mem_iff_getElem.1 hfm
        have := hf i fs[i] (by simp at hi; simp [hi])
        refine ⟨xs[i]'(by simp at hi; omega), ?_⟩
        rw [List.getElem?_eq_getElem (by simp at hi; omega)] at this
        simpa using this
      refine ⟨.st ds, ?_, ?_⟩
      · rw [PD.cells]; simpa using h1
      · rw [Shape]; exact ⟨fs, hu, by simpa using h2⟩
    · cases ht
end

theorem Shape.int {P : Program} {t : TypeId} {d : PD} (h : Shape P t d) (hu : P.underlying t = some (.int .i64)) : ∃ n, d = .int n := by
  cases d with
  | int n => exact ⟨n, rfl⟩
  | bool b => rw [Shape, hu] at h; cases h
  | str s => rw [Shape, hu] at h; cases h
  | sl sz xs => rw [Shape] at h; obtain ⟨e, h1, _⟩ := h; rw [hu] at h1; cases h1
  | st fs => rw [Shape] at h; obtain ⟨e, h1, _⟩ := h; rw [hu] at h1; cases h1
theorem Shape.bool {P : Program} {t : TypeId} {d : PD} (h : Shape P t d) (hu : P.underlying t = some .bool) : ∃ n, d = .bool n := by
  cases d with
  | int n => rw [Shape, hu] at h; cases h
  | bool b => exact ⟨b, rfl⟩
  | str s => rw [Shape, hu] at h; cases h
  | sl sz xs => rw [Shape] at h; obtain ⟨e, h1, _⟩ := h; rw [hu] at h1; cases h1
  | st fs => rw [Shape] at h; obtain ⟨e, h1, _⟩ := h; rw [hu] at h1; cases h1
theorem Shape.str {P : Program} {t : TypeId} {d : PD} (h : Shape P t d) (hu : P.underlying t = some .string) : ∃ n, d = .str n := by
  cases d with
  | int n => rw [Shape, hu] at h; cases h
  | bool b => rw [Shape, hu] at h; cases h
  | str s => exact ⟨s, rfl⟩
  | sl sz xs => rw [Shape] at h; obtain ⟨e, h1, _⟩ := h; rw [hu] at h1; cases h1
  | st fs => rw [Shape] at h; obtain ⟨e, h1, _⟩ := h; rw [hu] at h1; cases h1
theorem Shape.sl {P : Program} {t e : TypeId} {d : PD} (h : Shape P t d) (hu : P.underlying t = some (.slice e)) : ∃ xs, d = .sl (P.cellsOf e) xs ∧ ∀ x ∈ xs, Shape P e x := by
  cases d with
  | int n => rw [Shape, hu] at h; cases h
  | bool b => rw [Shape, hu] at h; cases h
  | str s => rw [Shape, hu] at h; cases h
  | sl sz xs =>
    rw [Shape] at h
    obtain ⟨e', h1, h2, h3⟩ := h
    rw [hu] at h1
    cases h1
    exact ⟨xs, by rw [h2], h3.mem⟩
  | st fs => rw [Shape] at h; obtain ⟨e, h1, _⟩ := h; rw [hu] at h1; cases h1
theorem Shape.st {P : Program} {t : TypeId} {fl : Array Field} {d : PD} (h : Shape P t d) (hu : P.underlying t = some (.struct fl)) : ∃ fs, d = .st fs ∧ ShapeF P (fl.toList.map (·.type)) fs := by
  cases d with
  | int n => rw [Shape, hu] at h; cases h
  | bool b => rw [Shape, hu] at h; cases h
  | str s => rw [Shape, hu] at h; cases h
  | sl sz xs => rw [Shape] at h; obtain ⟨e, h1, _⟩ := h; rw [hu] at h1; cases h1
  | st fs => rw [Shape] at h; obtain ⟨e, h1, h2⟩ := h; rw [hu] at h1; cases h1; exact ⟨fs, rfl, h2⟩

/-- A list whose members are all of a form. -/
theorem list_form {α : Type} (f : α → PD) : ∀ (xs : List PD), (∀ x ∈ xs, ∃ a, x = f a) → ∃ l : List α, xs = l.map f
  | [], _ => ⟨[], rfl⟩
  | x :: xs, h => by
    obtain ⟨a, rfl⟩ := h x (by simp)
    obtain ⟨l, rfl⟩ := list_form f xs fun y hy => h y (by simp [hy])
    exact ⟨a :: l, rfl⟩

end Go.Proofs.Ytgfjbbbkploonaa
/-
  Contracts of functions of the program and of its laws, over plain data.
  Conditions: those that each theorem names.
-/
namespace Go.Proofs.Ytgfjbbbkploonaa
set_option linter.unusedSimpArgs false
set_option linter.unusedVariables false
set_option maxRecDepth 4000
open Go.RowKit
theorem ShapeF.cons {P : Program} {t : TypeId} {ts : List TypeId} {xs : List PD} (h : ShapeF P (t :: ts) xs) : ∃ x xs', xs = x :: xs' ∧ Shape P t x ∧ ShapeF P ts xs' := by
  cases xs with
  | nil => rw [ShapeF] at h; cases h
  | cons x xs =>
    rw [ShapeF] at h
    obtain ⟨t', ts', e, h1, h2⟩ := h
    cases e
    exact ⟨x, xs, rfl, h1, h2⟩
theorem ShapeF.nil {P : Program} {xs : List PD} (h : ShapeF P [] xs) : xs = [] := by
  cases xs with
  | nil => rfl
  | cons x xs =>
    rw [ShapeF] at h
    obtain ⟨t', ts', e, _⟩ := h
    cases e
theorem pd_strong {Q : PD → Prop} (h : ∀ d, (∀ d', SizeOf.sizeOf d' < SizeOf.sizeOf d → Q d') → Q d) (d : PD) : Q d := by
  have : ∀ n (d : PD), SizeOf.sizeOf d < n → Q d := by
    intro n
    induction n with
    | zero => intro d hd; omega
    | succ n ih => intro d hd; exact h d fun d' hd' => ih d' (by omega)
  exact this _ d (Nat.lt_succ_self _)
theorem list_cells {α : Type} (c : α → List T) : ∀ (xs : List PD), (∀ x ∈ xs, ∃ a, x.cells = c a) → ∃ l : List α, PD.rows xs = l.map c
  | [], _ => ⟨[], rfl⟩
  | x :: xs, h => by
    obtain ⟨a, ha⟩ := h x (by simp)
    obtain ⟨l, hl⟩ := list_cells c xs fun y hy => h y (by simp [hy])
    exact ⟨a :: l, by rw [PD.rows, ha, hl]; rfl⟩
theorem sh_term : ∀ d, Shape Try.prog 47 d → ∃ a : Tm, d.cells = tmC a :=
  pd_strong fun d ih h => by
    obtain ⟨fs, rfl, hf⟩ := h.st Try.underlying47
    have hf : ShapeF Try.prog [9, 45] fs := hf
    obtain ⟨x1, r1, rfl, h1, hf⟩ := hf.cons
    obtain ⟨x2, r2, rfl, h2, hf⟩ := hf.cons
    obtain rfl := hf.nil
    obtain ⟨n, rfl⟩ := h1.str Try.underlying9
    obtain ⟨xs, rfl, hx⟩ := h2.sl Try.underlying45
    obtain ⟨l, hl⟩ := list_cells tmC xs fun x hx' => ih x (by have := List.sizeOf_lt_of_mem hx'; simp; omega) (hx x hx')
    exact ⟨.mk n l, by
      rw [tmC_eq, PD.cells, PD.flat, PD.flat, PD.flat, PD.cells, PD.cells, hl, show Try.prog.cellsOf 47 = 2 from by kernel_rfl]; rfl⟩
theorem sh_terms {d : PD} (h : Shape Try.prog 45 d) : ∃ l : List Tm, d.cells = [tmS l] := by
  obtain ⟨xs, rfl, hx⟩ := h.sl Try.underlying45
  obtain ⟨l, hl⟩ := list_cells tmC xs fun x hx' => sh_term x (hx x hx')
  exact ⟨l, by rw [PD.cells, hl, show Try.prog.cellsOf 47 = 2 from by kernel_rfl]⟩
theorem sh_formula : ∀ d, Shape Try.prog 49 d → ∃ a : Fm, d.cells = fmC a :=
  pd_strong fun d ih h => by
    obtain ⟨fs, rfl, hf⟩ := h.st Try.underlying49
    have hf : ShapeF Try.prog [3, 47, 9, 22] fs := hf
    obtain ⟨x1, r1, rfl, h1, hf⟩ := hf.cons
    obtain ⟨x2, r2, rfl, h2, hf⟩ := hf.cons
    obtain ⟨x3, r3, rfl, h3, hf⟩ := hf.cons
    obtain ⟨x4, r4, rfl, h4, hf⟩ := hf.cons
    obtain rfl := hf.nil
    obtain ⟨o, rfl⟩ := h1.int Try.underlying3
    obtain ⟨a, ha⟩ := sh_term _ h2
    obtain ⟨v, rfl⟩ := h3.str Try.underlying9
    obtain ⟨xs, rfl, hx⟩ := h4.sl Try.underlying22
    obtain ⟨l, hl⟩ := list_cells fmC xs fun x hx' => ih x (by have := List.sizeOf_lt_of_mem hx'; simp; omega) (hx x hx')
    exact ⟨.mk o a v l, by
      rw [fmC_eq, PD.cells, PD.flat, PD.flat, PD.flat, PD.flat, PD.flat, PD.cells, PD.cells, PD.cells, hl, ha, tmC_eq, show Try.prog.cellsOf 49 = 5 from by kernel_rfl]; rfl⟩
theorem sh_formulas {d : PD} (h : Shape Try.prog 22 d) : ∃ l : List Fm, d.cells = [fmS l] := by
  obtain ⟨xs, rfl, hx⟩ := h.sl Try.underlying22
  obtain ⟨l, hl⟩ := list_cells fmC xs fun x hx' => sh_formula x (hx x hx')
  exact ⟨l, by rw [PD.cells, hl, show Try.prog.cellsOf 49 = 5 from by kernel_rfl]⟩
theorem sh_sequent {d : PD} (h : Shape Try.prog 24 d) : ∃ a : Sq, d.cells = sqC a := by
  obtain ⟨fs, rfl, hf⟩ := h.st Try.underlying24
  have hf : ShapeF Try.prog [22, 22] fs := hf
  obtain ⟨x1, r1, rfl, h1, hf⟩ := hf.cons
  obtain ⟨x2, r2, rfl, h2, hf⟩ := hf.cons
  obtain rfl := hf.nil
  obtain ⟨l1, e1⟩ := sh_formulas h1
  obtain ⟨l2, e2⟩ := sh_formulas h2
  exact ⟨⟨l1, l2⟩, by rw [PD.cells, PD.flat, PD.flat, PD.flat, e1, e2]; rfl⟩
end Go.Proofs.Ytgfjbbbkploonaa
/-
  FnExactSequentFormula returns true for all arguments, and its arguments read afterwards as they read before.
  Conditions: none.
-/
namespace Go.Proofs.Ytgfjbbbkploonaa
set_option linter.unusedSimpArgs false
set_option linter.unusedVariables false
set_option maxRecDepth 4000
open Go.ChangeShapes Go.WideShapes Go.ChangeAt Go.RowKit
theorem rqf_own : ownKnob Try.prog.godebug = none := by kernel_rfl
theorem rqf_laidOut : laidOutB Try.prog = true := by kernel_rfl
def rqfTypes (t : TypeId) : Bool := t == 3 || t == 9 || t == 47 || t == 45 || t == 49 || t == 22 || t == 24
theorem rqfTypes_ok : ∀ t, rqfTypes t = true → typeOk Try.prog rqfTypes t = true := by
  intro t h
  simp only [rqfTypes, Bool.or_eq_true, beq_iff_eq] at h
  rcases h with (((((rfl | rfl) | rfl) | rfl) | rfl) | rfl) | rfl <;> kernel_rfl
set_option maxRecDepth 100000 in
theorem rqf_lifted (os : Os) (started : os.Started) (H : Type) (enc : TypeId × Value → H) :
    ReturnsInHanded {} Try.checked os 4 .any (Rows.fnExactSequentFormulaSpec.pre6 enc Try.prog Try.f4 Rows.fnExactSequentFormulaRow.domain false)
      (Rows.fnExactSequentFormulaSpec.post enc Try.prog Try.f4 false true false false) := by
  refine returnsInHanded_of_change (C := Try.checked) rqf_own started (by kernel_rfl) Try.func4
    (ChangeSpec.witness6 (enc := enc) (C := Try.checked) false ⟨#[], #[.agg #[.slice none 0 0, .slice none 0 0]], []⟩ 8 (by kernel_rfl) (by kernel_rfl) (by kernel_rfl) (by kernel_rfl)) ?_
  intro W base args ds gs before hval0 hW hcnd _
  have hval : ∀ (j : Nat) t v, Try.f4.params[j]? = some t → args[j]? = some v → Value.okWide Try.prog W .any base t v := hval0
  have hW' := hW
  obtain ⟨p, q, hA0, hV, rfl, hfz, hnd⟩ := hW
  have hA : DataW.TrodAll enc Try.prog W 0 (fun _ => true) true Try.f4.params.toList args.toList ds p := hA0
  rw [Try.params4] at hA hval
  obtain ⟨v0, vs0, d0, ds0, p0, q0, hargs, rfl, rfl, h0, r0⟩ := trodAll_cons hA
  obtain ⟨rfl, rfl, rfl⟩ := trodAll_nil r0
  obtain rfl : args = #[v0] := by cases args; simp_all
  obtain ⟨rfl, rfl⟩ := trodVars_none hV
  have k0 := h0
  have lt0 : ∀ x ∈ p0, x.block < W.heap.size := by obtain ⟨m, hm⟩ := k0; exact DataW.trod_lt m _ _ _ hm
  obtain ⟨cs0, rfl, _⟩ := okWide_struct Try.underlying24 (hval 0 24 v0 rfl rfl)
  obtain ⟨s, hs⟩ : ∃ s : Sq, RepDs W (· < W.heap.size) [sqD s] [.agg cs0] := by
    obtain ⟨m, hm⟩ := h0
    obtain ⟨d, hr, hs⟩ := rep_of_trod rqfTypes_ok m _ _ _ (by rfl) hm
    obtain ⟨s, e⟩ := sh_sequent hs
    exact ⟨s, _, [], rfl, ⟨cs0.toList, rfl, e ▸ hr⟩, rfl⟩
  clear hA0 hval0
  refine ((lawSequentFormula_c s).use (vs := [.agg cs0]) hs).mono fun e W' ⟨us, fp, he, ho, _, _, bel⟩ => ?_
  obtain ⟨u, us', f1, f2, rfl, _, ⟨rfl, _⟩, hu⟩ := ho
  obtain ⟨rfl, _⟩ := hu
  subst he
  exact ⟨_, rfl, _, _, _, [], _, [], hW', trodAll_mk1 (shut_bool Try.underlying4 _),
    (trodAll_cons_mk (Below.trod rqf_laidOut (by kernel_rfl) (of_decide_eq_true (by kernel_rfl)) k0 bel lt0) trodAll_mk0), rfl, bel.frame _, fun h => by cases h⟩

theorem sequentFormula_holds : Rows.FnExactSequentFormulaSaid :=
  OpenClaim.holds_of_wide 4 Try.f4 rfl rfl rfl rfl rfl rfl rfl ⟨rfl, rfl, rfl, rfl, rfl⟩ rfl rfl rfl rfl rfl (by kernel_rfl) Try.func4 (by kernel_rfl)
    (of_decide_eq_true (by kernel_rfl)) (by unfold Func.isWrapper; rw [if_neg (of_decide_eq_false (by kernel_rfl))]; exact ⟨rfl, rfl⟩)
    (fun os started H enc _ => rqf_lifted os started H enc)
#print axioms sequentFormula_holds
end Go.Proofs.Ytgfjbbbkploonaa
