import Derived.Test.YtgfjbbbkploonaaQ5
import Derived.RangeFuncNested
import Derived.RangeFuncBound
import Derived.RangeFuncCalls
import Derived.TacticsInMore
import Derived.LoopNIn
import Derived.LoopIn
/-
  Equal terms and formulas.
  Conditions: those that each theorem names.
-/
namespace Go.Proofs.Ytgfjbbbkploonaa
set_option linter.unusedSimpArgs false
set_option linter.unusedVariables false
set_option maxRecDepth 4000
open Go.RowKit
theorem same_tm (a b : Tm) : same a b = (same a.name b.name && same a.args b.args) := by
  cases a; cases b
  rw [Bool.eq_iff_iff]
  simp only [Bool.and_eq_true, same_iff, Tm.name, Tm.args, Tm.mk.injEq]
theorem same_fm (a b : Fm) : same a b = (same a.op b.op && same a.atom b.atom && same a.var b.var && same a.parts b.parts) := by
  cases a; cases b
  rw [Bool.eq_iff_iff]
  simp only [Bool.and_eq_true, same_iff, Fm.op, Fm.atom, Fm.var, Fm.parts, Fm.mk.injEq, and_assoc]
theorem same_beq {α : Type} [BEq α] [LawfulBEq α] (a b : α) : (a == b) = same a b := by
  rw [Bool.eq_iff_iff, beq_iff_eq, same_iff]
theorem eqTerms_of (a b : Tm) (H : FC Try.prog 126 [.one (tmS a.args), .one (tmS b.args), .one (.fn 110 [])] [bD (same a.args b.args)]) :
    FC Try.prog 110 [tmD a, tmD b] [bD (same a b)] := by
  simp only [tmD, tmC_eq]
  refine FC_of Try.call110 Try.func110 rfl (by kernel_rfl) (by simp only [rd, List.map_cons, List.map_nil, List.length_cons, List.length_nil, Try.ntmps110]; omega) ?_
  simp -implicitDefEqProofs only [go_sem, Try.results110]
  refine ⟨fun h => ?_, fun h => ?_⟩
  · refine callF (H) (by simp -implicitDefEqProofs only [go_sem]) ?_
    simp -implicitDefEqProofs only [go_sem]
    rw [same_tm, ← same_beq a.name, h, Bool.true_and]
  · rw [same_tm, ← same_beq a.name, h]; rfl
theorem equalTerms_c : ∀ a b : Tm, FC Try.prog 110 [tmD a, tmD b] [bD (same a b)] :=
  tm_ind fun n xs ih b => eqTerms_of (.mk n xs) b (by
    rw [show same (Tm.mk n xs).args b.args = eqL same (Tm.mk n xs).args b.args from (eqL_same fun _ _ _ => rfl).symm]
    exact equalFuncTerm_c xs b.args same _ [] fun x hx y _ => ih x hx y)
theorem sameFormula_of (a b : Fm) (H : FC Try.prog 111 [.one (fmS a.parts), .one (fmS b.parts), .one (.fn 91 [])] [bD (same a.parts b.parts)]) :
    FC Try.prog 91 [fmD a, fmD b] [bD (same a b)] := by
  simp only [fmD, fmC_eq]
  refine FC_of Try.call91 Try.func91 rfl (by kernel_rfl) (by simp only [rd, List.map_cons, List.map_nil, List.length_cons, List.length_nil, Try.ntmps91]; omega) ?_
  simp -implicitDefEqProofs only [go_sem, Try.results91]
  refine ⟨fun h1 => ?_, fun h1 => by rw [same_fm, ← same_beq a.op, h1]; rfl⟩
  refine callF (equalTerms_c a.atom b.atom) (by simp -implicitDefEqProofs only [go_sem, tmC_eq]) ?_
  simp -implicitDefEqProofs only [go_sem, tmC_eq]
  refine ⟨fun h2 => ?_, fun h2 => by rw [same_fm, ← same_beq a.op, h1, h2]; rfl⟩
  refine ⟨fun h3 => ?_, fun h3 => by rw [same_fm, ← same_beq a.op, h1, h2, ← same_beq a.var, h3]; rfl⟩
  refine callF (H) (by simp -implicitDefEqProofs only [go_sem]) ?_
  simp -implicitDefEqProofs only [go_sem]
  rw [same_fm, ← same_beq a.op, h1, h2, ← same_beq a.var, h3]; rfl
theorem sameFormula_c : ∀ a b : Fm, FC Try.prog 91 [fmD a, fmD b] [bD (same a b)] :=
  fm_ind fun o t v ps ih b => sameFormula_of (.mk o t v ps) b (by
    rw [show same (Fm.mk o t v ps).parts b.parts = eqL same (Fm.mk o t v ps).parts b.parts from (eqL_same fun _ _ _ => rfl).symm]
    exact equalFuncFormula_c ps b.parts same _ [] fun x hx y _ => ih x hx y)
theorem l2Same_of (a b : Tm) (H : ∀ x ∈ a.args, ∀ y, FC Try.prog 88 [tmD x, tmD y] [bD (same x y)]) : FC Try.prog 88 [tmD a, tmD b] [bD (same a b)] := by
  refine FC_wf (fun hw => ?_) Try.call88
  simp only [tmD, tmC_eq] at hw ⊢
  have hl : a.args.length ≤ 9223372036854775807 := by simp [wfDs, wfT, wfTs] at hw; exact hw.1.2.1
  refine FC_of Try.call88 Try.func88 rfl (by kernel_rfl) (by simp only [rd, List.map_cons, List.map_nil, List.length_cons, List.length_nil, Try.ntmps88]; omega) ?_
  simp -implicitDefEqProofs only [go_sem, Try.results88]
  refine ⟨fun h1 => ?_, fun h1 => by rw [same_tm, ← same_beq a.name, show (a.name == b.name) = false by simpa using h1]; rfl⟩
  have h1' : same a.name b.name = true := by rw [← same_beq]; simpa using h1
  refine ⟨fun h2 => ?_, fun h2 => ?_⟩
  · rw [same_tm, h1', Bool.true_and, same_no.2 (by rintro e; simp [e] at h2)]
  have hlen : a.args.length = b.args.length := by simp at h2; omega
  have hs : same a b = same a.args b.args := by rw [same_tm, h1', Bool.true_and]
  refine loop_rule (fun k : Nat => hd [(2, .one (.bx 2 0)), (3, .one (.bx 3 0)), (4, vB false), (5, vI k)] [(2, [.t (.str a.name), .t (tmS a.args)]), (3, [.t (.str b.name), .t (tmS b.args)])] []) (fun k => k ≤ a.args.length ∧ same a.args b.args = same (a.args.drop k) (b.args.drop k)) (fun k => a.args.length - k) 0 (weak_hd ?_) ?_ ?_
  · simp -implicitDefEqProofs only [go_sem]
  · simp
  · intro k ⟨hk, hr⟩
    by_cases hlt : k < a.args.length
    · have hk2 : k < b.args.length := by omega
      simp -implicitDefEqProofs only [go_sem, hlt]
      refine drawn (by kernel_rfl) ?_
      simp -implicitDefEqProofs only [go_sem, getD_at, hlt, hk2, tmC_eq]
      refine dCallF (H a.args[k] (List.getElem_mem hlt) b.args[k]) (by simp -implicitDefEqProofs only [go_sem, tmC_eq]) ?_
      simp -implicitDefEqProofs only [go_sem, tmC_eq]
      rw [List.drop_eq_getElem_cons hlt, List.drop_eq_getElem_cons hk2, same_cons] at hr
      refine ⟨by kernel_rfl, fun h => ?_, fun h => ?_⟩
      · rw [hs, hr, show same a.args[k] b.args[k] = false by simpa using h]; rfl
      · rw [show same a.args[k] b.args[k] = true by simpa using h, Bool.true_and] at hr
        rw [wrap_s (by omega)]
        exact ⟨k + 1, ⟨by omega, hr⟩, by omega, weak_hd (by simp -implicitDefEqProofs only [go_sem])⟩
    · simp -implicitDefEqProofs only [go_sem, hlt]
      rw [hs, hr, List.drop_of_length_le (by omega), List.drop_of_length_le (by omega), same_nil]
theorem l2Same_c : ∀ a b : Tm, FC Try.prog 88 [tmD a, tmD b] [bD (same a b)] := tm_ind fun n xs ih b => l2Same_of (.mk n xs) b ih
set_option maxHeartbeats 1000000 in
theorem l8Same_of (a b : Fm) (H : ∀ x ∈ a.parts, ∀ y, FC Try.prog 67 [fmD x, fmD y] [bD (same x y)]) : FC Try.prog 67 [fmD a, fmD b] [bD (same a b)] := by
  refine FC_wf (fun hw => ?_) Try.call67
  simp only [fmD, fmC_eq] at hw ⊢
  have hl : a.parts.length ≤ 9223372036854775807 := by simp [wfDs, wfT, wfTs] at hw; exact hw.1.2.2.2.2.1
  refine FC_of Try.call67 Try.func67 rfl (by kernel_rfl) (by simp only [rd, List.map_cons, List.map_nil, List.length_cons, List.length_nil, Try.ntmps67]; omega) ?_
  simp -implicitDefEqProofs only [go_sem, Try.results67]
  refine ⟨fun h1 => ?_, fun h1 => by rw [same_fm, ← same_beq a.op, show (a.op == b.op) = false by simpa using h1]; rfl⟩
  have h1' : same a.op b.op = true := by rw [← same_beq]; simpa using h1
  refine ⟨fun h2 => ?_, fun h2 => by rw [same_fm, h1', ← same_beq a.var, show (a.var == b.var) = false by simpa using h2]; simp⟩
  have h2' : same a.var b.var = true := by rw [← same_beq]; simpa using h2
  refine callF (l2Same_c a.atom b.atom) (by simp -implicitDefEqProofs only [go_sem, tmC_eq]) ?_
  simp -implicitDefEqProofs only [go_sem, tmC_eq]
  refine ⟨fun h3 => ?_, fun h3 => by rw [same_fm, h1', show same a.atom b.atom = false by simpa using h3]; rfl⟩
  have h3' : same a.atom b.atom = true := by simpa using h3
  have hs : same a b = same a.parts b.parts := by rw [same_fm, h1', h2', h3']; rfl
  refine ⟨fun h4 => ?_, fun h4 => ?_⟩
  · rw [hs, same_no.2 (by rintro e; simp [e] at h4)]
  have hlen : a.parts.length = b.parts.length := by simp at h4; omega
  refine loop_rule (fun k : Nat => hd [(2, .one (.bx 2 0)), (3, .one (.bx 3 0)), (4, vB false), (5, vI k)] [(2, [.t (.int .i64 a.op), .t (.str a.atom.name), .t (tmS a.atom.args), .t (.str a.var), .t (fmS a.parts)]), (3, [.t (.int .i64 b.op), .t (.str b.atom.name), .t (tmS b.atom.args), .t (.str b.var), .t (fmS b.parts)])] []) (fun k => k ≤ a.parts.length ∧ same a.parts b.parts = same (a.parts.drop k) (b.parts.drop k)) (fun k => a.parts.length - k) 0 (weak_hd ?_) ?_ ?_
  · simp -implicitDefEqProofs only [go_sem]
  · simp
  · intro k ⟨hk, hr⟩
    by_cases hlt : k < a.parts.length
    · have hk2 : k < b.parts.length := by omega
      simp -implicitDefEqProofs only [go_sem, hlt]
      refine drawn (by kernel_rfl) ?_
      simp -implicitDefEqProofs only [go_sem, getD_at, hlt, hk2, fmC_eq]
      refine dCallF (H a.parts[k] (List.getElem_mem hlt) b.parts[k]) (by simp -implicitDefEqProofs only [go_sem, fmC_eq]) ?_
      simp -implicitDefEqProofs only [go_sem, fmC_eq]
      rw [List.drop_eq_getElem_cons hlt, List.drop_eq_getElem_cons hk2, same_cons] at hr
      refine ⟨by kernel_rfl, fun h => ?_, fun h => ?_⟩
      · rw [hs, hr, show same a.parts[k] b.parts[k] = false by simpa using h]; rfl
      · rw [show same a.parts[k] b.parts[k] = true by simpa using h, Bool.true_and] at hr
        rw [wrap_s (by omega)]
        exact ⟨k + 1, ⟨by omega, hr⟩, by omega, weak_hd (by simp -implicitDefEqProofs only [go_sem])⟩
    · simp -implicitDefEqProofs only [go_sem, hlt]
      rw [hs, hr, List.drop_of_length_le (by omega), List.drop_of_length_le (by omega), same_nil]
theorem l8Same_c : ∀ a b : Fm, FC Try.prog 67 [fmD a, fmD b] [bD (same a b)] := fm_ind fun o t v ps ih b => l8Same_of (.mk o t v ps) b ih
end Go.Proofs.Ytgfjbbbkploonaa
/-
  Copies of terms and formulas.
  Conditions: those that each theorem names.
-/
namespace Go.Proofs.Ytgfjbbbkploonaa
set_option linter.unusedSimpArgs false
set_option linter.unusedVariables false
set_option maxRecDepth 4000
open Go.RowKit
theorem Tm.wt_args {a : Tm} {n : Nat} (h : a.wt ≤ n) : a.args.length ≤ n ∧ ∀ x ∈ a.args, x.wt ≤ n := by
  have e := Tm.wt_eq a
  refine ⟨by omega, fun x hx => ?_⟩
  have := mem_sum Tm.wt a.args x hx
  omega
theorem Fm.wt_parts {f : Fm} {n : Nat} (h : f.wt ≤ n) : f.atom.wt ≤ n ∧ f.parts.length ≤ n ∧ ∀ x ∈ f.parts, x.wt ≤ n := by
  have e := Fm.wt_eq f
  refine ⟨by omega, by omega, fun x hx => ?_⟩
  have := mem_sum Fm.wt f.parts x hx
  omega
set_option maxRecDepth 10000 in
theorem copyTerms_of (xs : List Tm) (H : ∀ x ∈ xs, FC Try.prog 89 [tmD x] [tmD x]) (hs : xs.length ≤ 1048576) :
    FC Try.prog 109 [.one (tmS xs)] [.one (tmS xs)] := by
  by_cases h0 : xs = []
  · subst h0
    refine FC_of Try.call109 Try.func109 rfl (by kernel_rfl) (by simp only [rd, List.map_cons, List.map_nil, List.length_cons, List.length_nil, Try.ntmps109]; omega) ?_
    simp -implicitDefEqProofs only [go_sem, Try.results109]
  · have hp : ((xs.length : Int) == 0) = false := by
      have : 0 < xs.length := List.length_pos_iff.2 h0
      simp; omega
    refine FC_of Try.call109 Try.func109 rfl (by kernel_rfl) (by simp only [rd, List.map_cons, List.map_nil, List.length_cons, List.length_nil, Try.ntmps109]; omega) ?_
    simp -implicitDefEqProofs only [go_sem, Try.results109, hp]
    refine makeD (by simp -implicitDefEqProofs only [go_sem]; omega) ?_
    simp -implicitDefEqProofs only [go_sem]
    refine loop_rule (fun k : Nat => hd [(12, vT (tmS xs)), (13, vI xs.length), (3, .one (.ow 352 0)), (14, vI k)] [] [(352, ⟨true, 2, (xs.take k).map tmC ++ List.replicate (xs.length - k) [T.str [], T.sl 2 []], 0, true⟩)]) (fun k => k ≤ xs.length) (fun k => xs.length - k) 0 (weak_hd ?_) ?_ ?_
    · simp -implicitDefEqProofs only [go_sem]
      simp
    · simp
    · intro k hk
      by_cases hlt : k < xs.length
      · have hlen : ((xs.take k).map tmC ++ List.replicate (xs.length - k) [T.str [], T.sl 2 []]).length = xs.length := by simp; omega
        have hlt2 : k < k + (xs.length - k) := by omega
        simp -implicitDefEqProofs only [go_sem, List.length_map, getD_at, hlt, tmC_eq]
        refine callF (H xs[k] (List.getElem_mem hlt)) (by simp -implicitDefEqProofs only [go_sem, tmC_eq, hlen, hlt, List.length_append, List.length_map, List.length_take, List.length_replicate, Nat.min_eq_left hk, hlt2]) ?_
        simp -implicitDefEqProofs only [go_sem, tmC_eq, hlen, hlt, List.length_append, List.length_map, List.length_take, List.length_replicate, Nat.min_eq_left hk, hlt2]
        refine storeD (by simp -implicitDefEqProofs only [go_sem]; simp) ?_
        simp -implicitDefEqProofs only [go_sem]
        rw [wrap_s (by omega)]
        refine ⟨k + 1, by omega, by omega, weak_hd ?_⟩
        simp -implicitDefEqProofs only [go_sem]
        have hf := fill_next ((xs.take k).map tmC) xs.length k [T.str [], T.sl 2 []] (tmC xs[k]) (by simp; omega) hlt (by simp [tmC_eq])
        simp only [tmC_eq] at hf
        rw [hf, List.take_succ_eq_append_getElem hlt, List.map_append, List.map_singleton]
        simp only [tmC_eq]
      · simp -implicitDefEqProofs only [go_sem, List.length_map, hlt]
        simp [List.take_of_length_le (show xs.length ≤ k by omega), show xs.length - k = 0 by omega]
theorem copyTerm_of (a : Tm) (H : FC Try.prog 109 [.one (tmS a.args)] [.one (tmS a.args)]) : FC Try.prog 89 [tmD a] [tmD a] := by
  simp only [tmD, tmC_eq a]
  refine FC_of Try.call89 Try.func89 rfl (by kernel_rfl) (by simp only [rd, List.map_cons, List.map_nil, List.length_cons, List.length_nil, Try.ntmps89]; omega) ?_
  simp -implicitDefEqProofs only [go_sem, Try.results89]
  refine drawn (by kernel_rfl) ?_
  simp -implicitDefEqProofs only [go_sem]
  refine dCallF (H) (by simp -implicitDefEqProofs only [go_sem]) ?_
  simp -implicitDefEqProofs only [go_sem]
  kernel_rfl
theorem l2Own_of (a : Tm) (H : ∀ x ∈ a.args, FC Try.prog 80 [tmD x] [tmD x]) (hs : a.args.length ≤ 1048576) : FC Try.prog 80 [tmD a] [tmD a] := by
  simp only [tmD, tmC_eq a]
  refine FC_of Try.call80 Try.func80 rfl (by kernel_rfl) (by simp only [rd, List.map_cons, List.map_nil, List.length_cons, List.length_nil, Try.ntmps80]; omega) ?_
  simp -implicitDefEqProofs only [go_sem, Try.results80]
  refine loop_rule (fun k : Nat => hd [(1, .one (.bx 1 0)), (2, .one (.bx 2 0)), (3, .one (.bx 3 0)), (4, vI k)] [(1, [.t (.str a.name), .t (tmS a.args)]), (2, [.t (.str []), .nl 2]), (3, [.t (.str a.name), .ow 3000 0])] [(3000, ⟨true, 2, (a.args.take k).map tmC, 0, true⟩)]) (fun k => k ≤ a.args.length) (fun k => a.args.length - k) 0 (weak_hd ?_) ?_ ?_
  · simp -implicitDefEqProofs only [go_sem]
  · simp
  · intro k hk
    by_cases hlt : k < a.args.length
    · simp -implicitDefEqProofs only [go_sem, hlt]
      refine drawn (by kernel_rfl) ?_
      have hmin : min k a.args.length ≤ 4294967295 := by omega
      simp -implicitDefEqProofs only [go_sem, getD_at, hlt, tmC_eq]
      refine dCallF (H a.args[k] (List.getElem_mem hlt)) (by simp -implicitDefEqProofs only [go_sem, tmC_eq]) ?_
      simp -implicitDefEqProofs only [go_sem, tmC_eq]
      refine dBuildDc (by simp -implicitDefEqProofs only [go_sem]) ?_
      simp -implicitDefEqProofs only [go_sem]
      refine dApD true (by simp -implicitDefEqProofs only [go_sem, ne_eq, List.length_map, List.length_take, hmin]) ?_
      simp -implicitDefEqProofs only [go_sem, ne_eq, List.length_map, List.length_take, hmin]
      refine ⟨by kernel_rfl, k + 1, hlt, by omega, weak_hd ?_⟩
      simp -implicitDefEqProofs only [go_sem]
      rw [wrap_s (by omega), List.take_succ_eq_append_getElem hlt, List.map_append, List.map_singleton]
      simp only [tmC_eq]
      trivial
    · have ht : a.args.take k = a.args := List.take_of_length_le (by omega)
      simp -implicitDefEqProofs only [go_sem, hlt, ht]

theorem copyTerm_c : ∀ a : Tm, a.wt ≤ 1048576 → FC Try.prog 89 [tmD a] [tmD a] :=
  tm_ind fun n xs ih hs => by
    obtain ⟨h1, h2⟩ := Tm.wt_args hs
    exact copyTerm_of (.mk n xs) (copyTerms_of xs (fun x hx => ih x hx (h2 x hx)) h1)
theorem copyTerms_c (xs : List Tm) (hs : tmsW xs ≤ 1048576) : FC Try.prog 109 [.one (tmS xs)] [.one (tmS xs)] := by
  have e : tmsW xs = xs.length + (xs.map Tm.wt).sum := rfl
  exact copyTerms_of xs (fun x hx => copyTerm_c x (by have := mem_sum Tm.wt xs x hx; omega)) (by omega)
theorem l2Own_c : ∀ a : Tm, a.wt ≤ 1048576 → FC Try.prog 80 [tmD a] [tmD a] :=
  tm_ind fun n xs ih hs => by
    obtain ⟨h1, h2⟩ := Tm.wt_args hs
    exact l2Own_of (.mk n xs) (fun x hx => ih x hx (h2 x hx)) h1
set_option maxHeartbeats 1000000 in
theorem l8Own_of (a : Fm) (H : ∀ x ∈ a.parts, FC Try.prog 52 [fmD x] [fmD x]) (h0 : a.atom.wt ≤ 1048576) (hs : a.parts.length ≤ 1048576) : FC Try.prog 52 [fmD a] [fmD a] := by
  simp only [fmD, fmC_eq a]
  refine FC_of Try.call52 Try.func52 rfl (by kernel_rfl) (by simp only [rd, List.map_cons, List.map_nil, List.length_cons, List.length_nil, Try.ntmps52]; omega) ?_
  simp -implicitDefEqProofs only [go_sem, Try.results52]
  refine drawn (by kernel_rfl) ?_
  simp -implicitDefEqProofs only [go_sem]
  refine dCallF (l2Own_c a.atom h0) (by simp -implicitDefEqProofs only [go_sem, tmC_eq]) ?_
  simp -implicitDefEqProofs only [go_sem, tmC_eq]
  refine ⟨by kernel_rfl, ?_⟩
  refine loop_rule (fun k : Nat => hd [(1, .one (.bx 1 0)), (2, .one (.bx 2 0)), (3, .one (.bx 3 0)), (4, vI k)] [(1, [.t (.int .i64 a.op), .t (.str a.atom.name), .t (tmS a.atom.args), .t (.str a.var), .t (fmS a.parts)]), (2, [.t (.int .i64 0), .t (.str []), .nl 2, .t (.str []), .nl 5]), (3, [.t (.int .i64 a.op), .t (.str a.atom.name), .ow 289 0, .t (.str a.var), .ow 3000 0])]
    [(289, ⟨true, 2, a.atom.args.map tmC, 0, true⟩), (3000, ⟨true, 5, (a.parts.take k).map fmC, 0, true⟩)]) (fun k => k ≤ a.parts.length) (fun k => a.parts.length - k) 0 (weak_hd ?_) ?_ ?_
  · simp -implicitDefEqProofs only [go_sem]
  · simp
  · intro k hk
    by_cases hlt : k < a.parts.length
    · simp -implicitDefEqProofs only [go_sem, hlt]
      refine drawn (by kernel_rfl) ?_
      have hmin : min k a.parts.length ≤ 4294967295 := by omega
      simp -implicitDefEqProofs only [go_sem, getD_at, hlt, fmC_eq]
      refine dCallF (H a.parts[k] (List.getElem_mem hlt)) (by simp -implicitDefEqProofs only [go_sem, fmC_eq]) ?_
      simp -implicitDefEqProofs only [go_sem, fmC_eq]
      refine dBuildDc (by simp -implicitDefEqProofs only [go_sem]) ?_
      simp -implicitDefEqProofs only [go_sem]
      refine dApD true (by simp -implicitDefEqProofs only [go_sem, ne_eq, List.length_map, List.length_take, hmin]) ?_
      simp -implicitDefEqProofs only [go_sem, ne_eq, List.length_map, List.length_take, hmin]
      refine ⟨by kernel_rfl, k + 1, hlt, by omega, weak_hd ?_⟩
      simp -implicitDefEqProofs only [go_sem]
      rw [wrap_s (by omega), List.take_succ_eq_append_getElem hlt, List.map_append, List.map_singleton]
      simp only [fmC_eq]
      trivial
    · have ht : a.parts.take k = a.parts := List.take_of_length_le (by omega)
      simp -implicitDefEqProofs only [go_sem, hlt, ht]
theorem l8Own_c : ∀ a : Fm, a.wt ≤ 1048576 → FC Try.prog 52 [fmD a] [fmD a] :=
  fm_ind fun o t v ps ih hs => by
    obtain ⟨h1, h2, h3⟩ := Fm.wt_parts hs
    exact l8Own_of (.mk o t v ps) (fun x hx => ih x hx (h3 x hx)) h1 h2
set_option maxHeartbeats 1000000 in
/-- The parts, each turned by a function. -/
theorem mapParts_of (a : Fm) (g : FuncId) (φ : Fm → Fm) (H : ∀ x ∈ a.parts, FC Try.prog g [fmD x] [fmD (φ x)]) (h0 : a.atom.wt ≤ 1048576) (hs : a.parts.length ≤ 1048576) : FC Try.prog 69 [fmD a, .one (.fn g [])] [fmD (.mk a.op a.atom a.var (a.parts.map φ))] := by
  simp only [fmD, fmC_eq a, fmC_mk]
  refine FC_of Try.call69 Try.func69 rfl (by kernel_rfl) (by simp only [rd, List.map_cons, List.map_nil, List.length_cons, List.length_nil, Try.ntmps69]; omega) ?_
  simp -implicitDefEqProofs only [go_sem, Try.results69]
  refine drawn (by kernel_rfl) ?_
  simp -implicitDefEqProofs only [go_sem]
  refine dCallF (copyTerm_c a.atom h0) (by simp -implicitDefEqProofs only [go_sem, tmC_eq]) ?_
  simp -implicitDefEqProofs only [go_sem, tmC_eq]
  refine ⟨by kernel_rfl, ?_⟩
  refine loop_rule (fun k : Nat => hd [(1, .one (.t (.fn g []))), (4, .one (.bx 4 0)), (5, .one (.bx 5 0)), (17, vT (fmS a.parts)), (18, vI a.parts.length), (19, vI k)] [(4, [.t (.int .i64 0), .t (.str []), .nl 2, .t (.str []), .nl 5]), (5, [.t (.int .i64 a.op), .t (.str a.atom.name), .ow 385 0, .t (.str a.var), .ow 3000 0])]
    [(385, ⟨true, 2, a.atom.args.map tmC, 0, true⟩), (3000, ⟨true, 5, (a.parts.take k).map fun x => fmC (φ x), 0, true⟩)]) (fun k => k ≤ a.parts.length) (fun k => a.parts.length - k) 0 (weak_hd ?_) ?_ ?_
  · simp -implicitDefEqProofs only [go_sem]
  · simp
  · intro k hk
    by_cases hlt : k < a.parts.length
    · have hmin : min k a.parts.length ≤ 4294967295 := by omega
      simp -implicitDefEqProofs only [go_sem, getD_at, hlt, fmC_eq a.parts[k]]
      refine drawn (by kernel_rfl) ?_
      simp -implicitDefEqProofs only [go_sem]
      refine dCallF (H a.parts[k] (List.getElem_mem hlt)) (by simp -implicitDefEqProofs only [go_sem, fmC_eq]) ?_
      simp -implicitDefEqProofs only [go_sem, fmC_eq]
      refine dBuildDc (by simp -implicitDefEqProofs only [go_sem]) ?_
      simp -implicitDefEqProofs only [go_sem]
      refine dApD true (by simp -implicitDefEqProofs only [go_sem, ne_eq, List.length_map, List.length_take, hmin]) ?_
      simp -implicitDefEqProofs only [go_sem, ne_eq, List.length_map, List.length_take, hmin]
      refine ⟨by kernel_rfl, k + 1, hlt, by omega, weak_hd ?_⟩
      simp -implicitDefEqProofs only [go_sem]
      rw [wrap_s (by omega), List.take_succ_eq_append_getElem hlt, List.map_append, List.map_singleton]
      simp only [fmC_eq]
      trivial
    · have ht : a.parts.take k = a.parts := List.take_of_length_le (by omega)
      simp -implicitDefEqProofs only [go_sem, hlt, ht]
      rfl
set_option maxRecDepth 10000 in
theorem copyFormula_c : ∀ a : Fm, a.wt ≤ 1048576 → FC Try.prog 56 [fmD a] [fmD a] :=
  fm_ind fun o t v ps ih hs => by
    obtain ⟨h1, h2, h3⟩ := Fm.wt_parts hs
    have H := mapParts_of (.mk o t v ps) 56 (fun x => x) (fun x hx => ih x hx (h3 x hx)) h1 h2
    simp only [Fm.op, Fm.atom, Fm.var, Fm.parts, List.map_id'] at H
    simp only [fmD, fmC_mk] at H ⊢
    refine FC_of Try.call56 Try.func56 rfl (by kernel_rfl) (by simp only [rd, List.map_cons, List.map_nil, List.length_cons, List.length_nil, Try.ntmps56]; omega) ?_
    simp -implicitDefEqProofs only [go_sem, Try.results56]
    refine callF (H) (by simp -implicitDefEqProofs only [go_sem]) ?_
    simp -implicitDefEqProofs only [go_sem]
    trace_state
end Go.Proofs.Ytgfjbbbkploonaa
/-
  Simplification of formulas: the parts.
  Conditions: those that each theorem names.
-/
namespace Go.Proofs.Ytgfjbbbkploonaa
set_option linter.unusedSimpArgs false
set_option linter.unusedVariables false
set_option maxRecDepth 4000
open Go.RowKit
/- A formula without atom and variable. -/
def mkF (op : Int) (ps : List Fm) : Fm := .mk op (.mk [] []) [] ps
theorem fmC_mkF (op : Int) (ps : List Fm) : fmC (mkF op ps) = [.int .i64 op, .str [], .sl 2 [], .str [], .sl 5 (ps.map fmC)] := fmC_eq _
def isC (f : Fm) : Bool := f.op == 1 || f.op == 2
noncomputable def two (op strong weak : Int) (f g : Fm) : Fm := if (f.op == strong || g.op == strong) = true then mkF strong [] else if (f.op == weak) = true then g else if (g.op == weak || same f g) = true then f else mkF op [f, g]
noncomputable def impF (f g : Fm) : Fm := if (f.op == 1) = true then g else if (f.op == 2 || g.op == 1 || same f g) = true then mkF 1 [] else if (g.op == 2) = true then mkF 4 [f] else mkF 7 [f, g]
theorem binary_c (op : Int) (a b : Fm) : GC Try.prog 36 [(false, iD op), (true, fmD a), (true, fmD b)] [fmD (mkF op [a, b])] := by
  simp only [fmD, fmC_eq a, fmC_eq b, fmC_mkF]
  refine GC_of Try.call36 Try.func36 rfl (by kernel_rfl) (by simp only [List.length_cons, List.length_nil, Try.ntmps36]; omega) (by simp [smallG, T.isPin]) ?_
  simp -implicitDefEqProofs only [go_sem, Try.results36]
  refine buildDc (by simp -implicitDefEqProofs only [go_sem]) ?_
  simp -implicitDefEqProofs only [go_sem]
  simp [fmC_eq]
theorem not_c (a : Fm) : GC Try.prog 92 [(true, fmD a)] [fmD (mkF 4 [a])] := by
  simp only [fmD, fmC_eq a, fmC_mkF]
  refine GC_of Try.call92 Try.func92 rfl (by kernel_rfl) (by simp only [List.length_cons, List.length_nil, Try.ntmps92]; omega) (by simp [smallG, T.isPin]) ?_
  simp -implicitDefEqProofs only [go_sem, Try.results92]
  refine buildDc (by simp -implicitDefEqProofs only [go_sem]) ?_
  simp -implicitDefEqProofs only [go_sem]
  simp [fmC_eq]
theorem isConstant_c (a : Fm) : FC Try.prog 70 [fmD a] [bD (isC a)] := by
  simp only [fmD, fmC_eq a]
  refine FC_of Try.call70 Try.func70 rfl (by kernel_rfl) (by simp only [rd, List.map_cons, List.map_nil, List.length_cons, List.length_nil, Try.ntmps70]; omega) ?_
  simp -implicitDefEqProofs only [go_sem, Try.results70]
  unfold isC
  refine ⟨fun h => ?_, fun h => ?_⟩ <;> rw [h]
  · rfl
  · rfl
theorem l20Constant_c (a : Fm) : FC Try.prog 65 [fmD a] [bD (isC a)] := by
  simp only [fmD, fmC_eq a]
  refine FC_of Try.call65 Try.func65 rfl (by kernel_rfl) (by simp only [rd, List.map_cons, List.map_nil, List.length_cons, List.length_nil, Try.ntmps65]; omega) ?_
  simp -implicitDefEqProofs only [go_sem, Try.results65]
  unfold isC
  refine ⟨fun h => ?_, fun h => ?_⟩ <;> rw [h]
  · rfl
  · rfl
set_option maxHeartbeats 1000000 in
theorem simplified_c (op strong weak : Int) (f g : Fm) : GC Try.prog 90 [(false, iD op), (false, iD strong), (false, iD weak), (true, fmD f), (true, fmD g)] [fmD (two op strong weak f g)] := by
  unfold two
  cases h1 : f.op == strong
  · cases h2 : g.op == strong
    · cases h3 : f.op == weak
      · cases h4 : g.op == weak
        · cases h5 : same f g
          · simp only [h1, h2, h3, h4, h5, Bool.or_true, Bool.true_or, Bool.or_false, Bool.false_or, Bool.or_self, Bool.false_eq_true, reduceIte, fmD, fmC_eq f, fmC_eq g, fmC_mkF, List.map_cons, List.map_nil]
            refine GC_of Try.call90 Try.func90 rfl (by kernel_rfl) (by simp only [List.length_cons, List.length_nil, Try.ntmps90]; omega) (by simp [smallG, T.isPin]) ?_
            simp -implicitDefEqProofs only [go_sem, Try.results90, h1, h2, h3, h4, h5]
            refine callF (sameFormula_c f g) (by simp -implicitDefEqProofs only [go_sem, fmC_eq f, fmC_eq g, h1, h2, h3, h4, h5]) ?_
            simp -implicitDefEqProofs only [go_sem, fmC_eq f, fmC_eq g, h1, h2, h3, h4, h5]
            refine callG [(41, vI op), (42, .agg [.t (.int .i64 f.op), .t (.str f.atom.name), .ow 98 0, .t (.str f.var), .ow 100 0]), (43, .agg [.t (.int .i64 g.op), .t (.str g.atom.name), .ow 130 0, .t (.str g.var), .ow 132 0])] [(10, .one (.bx 10 0))] [] [(10, [.t (.int .i64 0), .t (.str []), .nl 2, .t (.str []), .nl 5])] [(98, ⟨true, 2, f.atom.args.map tmC, 0, true⟩), (100, ⟨true, 5, f.parts.map fmC, 0, true⟩), (130, ⟨true, 2, g.atom.args.map tmC, 0, true⟩), (132, ⟨true, 5, g.parts.map fmC, 0, true⟩)] [] [] (binary_c op f g) (by simp -implicitDefEqProofs only [go_sem]) (by simp -implicitDefEqProofs only [go_sem]) (by simp -implicitDefEqProofs only [go_sem, fmC_eq f, fmC_eq g]) (by simp -implicitDefEqProofs only [go_sem, fmC_mkF]) ?_
            simp -implicitDefEqProofs only [go_sem, fmC_mkF, fmC_eq f, fmC_eq g, List.map_cons, List.map_nil]
          · simp only [h1, h2, h3, h4, h5, Bool.or_true, Bool.true_or, Bool.or_false, Bool.false_or, Bool.or_self, Bool.false_eq_true, reduceIte, fmD, fmC_eq f, fmC_eq g, fmC_mkF, List.map_cons, List.map_nil]
            refine GC_of Try.call90 Try.func90 rfl (by kernel_rfl) (by simp only [List.length_cons, List.length_nil, Try.ntmps90]; omega) (by simp [smallG, T.isPin]) ?_
            simp -implicitDefEqProofs only [go_sem, Try.results90, h1, h2, h3, h4, h5]
            refine callF (sameFormula_c f g) (by simp -implicitDefEqProofs only [go_sem, fmC_eq f, fmC_eq g, h1, h2, h3, h4, h5]) ?_
            simp -implicitDefEqProofs only [go_sem, fmC_eq f, fmC_eq g, h1, h2, h3, h4, h5]
        · simp only [h1, h2, h3, h4, Bool.or_true, Bool.true_or, Bool.or_false, Bool.false_or, Bool.or_self, Bool.false_eq_true, reduceIte, fmD, fmC_eq f, fmC_eq g, fmC_mkF, List.map_cons, List.map_nil]
          refine GC_of Try.call90 Try.func90 rfl (by kernel_rfl) (by simp only [List.length_cons, List.length_nil, Try.ntmps90]; omega) (by simp [smallG, T.isPin]) ?_
          simp -implicitDefEqProofs only [go_sem, Try.results90, h1, h2, h3, h4]
      · simp only [h1, h2, h3, Bool.or_true, Bool.true_or, Bool.or_false, Bool.false_or, Bool.or_self, Bool.false_eq_true, reduceIte, fmD, fmC_eq f, fmC_eq g, fmC_mkF, List.map_cons, List.map_nil]
        refine GC_of Try.call90 Try.func90 rfl (by kernel_rfl) (by simp only [List.length_cons, List.length_nil, Try.ntmps90]; omega) (by simp [smallG, T.isPin]) ?_
        simp -implicitDefEqProofs only [go_sem, Try.results90, h1, h2, h3]
    · simp only [h1, h2, Bool.or_true, Bool.true_or, Bool.or_false, Bool.false_or, Bool.or_self, Bool.false_eq_true, reduceIte, fmD, fmC_eq f, fmC_eq g, fmC_mkF, List.map_cons, List.map_nil]
      refine GC_of Try.call90 Try.func90 rfl (by kernel_rfl) (by simp only [List.length_cons, List.length_nil, Try.ntmps90]; omega) (by simp [smallG, T.isPin]) ?_
      simp -implicitDefEqProofs only [go_sem, Try.results90, h1, h2]
  · simp only [h1, Bool.or_true, Bool.true_or, Bool.or_false, Bool.false_or, Bool.or_self, Bool.false_eq_true, reduceIte, fmD, fmC_eq f, fmC_eq g, fmC_mkF, List.map_cons, List.map_nil]
    refine GC_of Try.call90 Try.func90 rfl (by kernel_rfl) (by simp only [List.length_cons, List.length_nil, Try.ntmps90]; omega) (by simp [smallG, T.isPin]) ?_
    simp -implicitDefEqProofs only [go_sem, Try.results90, h1]
theorem conjunction_c (f g : Fm) : GC Try.prog 71 [(true, fmD f), (true, fmD g)] [fmD (two 5 2 1 f g)] := by
  have H := simplified_c 5 2 1 f g
  have e := fmC_eq (two 5 2 1 f g)
  simp only [fmD, fmC_eq f, fmC_eq g, e] at H ⊢
  refine GC_of Try.call71 Try.func71 rfl (by kernel_rfl) (by simp only [List.length_cons, List.length_nil, Try.ntmps71]; omega) (by simp [smallG, T.isPin]) ?_
  simp -implicitDefEqProofs only [go_sem, Try.results71]
  refine callG [(5, .agg [.t (.int .i64 f.op), .t (.str f.atom.name), .ow 2 0, .t (.str f.var), .ow 4 0]), (6, .agg [.t (.int .i64 g.op), .t (.str g.atom.name), .ow 34 0, .t (.str g.var), .ow 36 0])] [(4, .one (.bx 4 0))] [] [(4, [.t (.int .i64 0), .t (.str []), .nl 2, .t (.str []), .nl 5])] [(2, ⟨true, 2, f.atom.args.map tmC, 0, true⟩), (4, ⟨true, 5, f.parts.map fmC, 0, true⟩), (34, ⟨true, 2, g.atom.args.map tmC, 0, true⟩), (36, ⟨true, 5, g.parts.map fmC, 0, true⟩)] [] [] H (by simp -implicitDefEqProofs only [go_sem]) (by simp -implicitDefEqProofs only [go_sem]) (by simp -implicitDefEqProofs only [go_sem]) (by simp -implicitDefEqProofs only [go_sem]) ?_
  simp -implicitDefEqProofs only [go_sem]
theorem disjoined_c (f g : Fm) : GC Try.prog 72 [(true, fmD f), (true, fmD g)] [fmD (two 6 1 2 f g)] := by
  have H := simplified_c 6 1 2 f g
  have e := fmC_eq (two 6 1 2 f g)
  simp only [fmD, fmC_eq f, fmC_eq g, e] at H ⊢
  refine GC_of Try.call72 Try.func72 rfl (by kernel_rfl) (by simp only [List.length_cons, List.length_nil, Try.ntmps72]; omega) (by simp [smallG, T.isPin]) ?_
  simp -implicitDefEqProofs only [go_sem, Try.results72]
  refine callG [(5, .agg [.t (.int .i64 f.op), .t (.str f.atom.name), .ow 2 0, .t (.str f.var), .ow 4 0]), (6, .agg [.t (.int .i64 g.op), .t (.str g.atom.name), .ow 34 0, .t (.str g.var), .ow 36 0])] [(4, .one (.bx 4 0))] [] [(4, [.t (.int .i64 0), .t (.str []), .nl 2, .t (.str []), .nl 5])] [(2, ⟨true, 2, f.atom.args.map tmC, 0, true⟩), (4, ⟨true, 5, f.parts.map fmC, 0, true⟩), (34, ⟨true, 2, g.atom.args.map tmC, 0, true⟩), (36, ⟨true, 5, g.parts.map fmC, 0, true⟩)] [] [] H (by simp -implicitDefEqProofs only [go_sem]) (by simp -implicitDefEqProofs only [go_sem]) (by simp -implicitDefEqProofs only [go_sem]) (by simp -implicitDefEqProofs only [go_sem]) ?_
  simp -implicitDefEqProofs only [go_sem]
set_option maxHeartbeats 1000000 in
theorem implication_c (f g : Fm) : GC Try.prog 73 [(true, fmD f), (true, fmD g)] [fmD (impF f g)] := by
  unfold impF
  cases h1 : f.op == 1
  · cases h2 : f.op == 2
    · cases h3 : g.op == 1
      · cases h4 : same f g
        · cases h5 : g.op == 2
          · simp only [h1, h2, h3, h4, h5, Bool.or_true, Bool.true_or, Bool.or_false, Bool.false_or, Bool.or_self, Bool.false_eq_true, reduceIte, fmD, fmC_eq f, fmC_eq g, fmC_mkF, List.map_cons, List.map_nil]
            refine GC_of Try.call73 Try.func73 rfl (by kernel_rfl) (by simp only [List.length_cons, List.length_nil, Try.ntmps73]; omega) (by simp [smallG, T.isPin]) ?_
            simp -implicitDefEqProofs only [go_sem, Try.results73, h1, h2, h3, h4, h5]
            refine callF (sameFormula_c f g) (by simp -implicitDefEqProofs only [go_sem, fmC_eq f, fmC_eq g, h1, h2, h3, h4, h5]) ?_
            simp -implicitDefEqProofs only [go_sem, fmC_eq f, fmC_eq g, h1, h2, h3, h4, h5]
            refine callG [(31, .agg [.t (.int .i64 f.op), .t (.str f.atom.name), .ow 2 0, .t (.str f.var), .ow 4 0]), (32, .agg [.t (.int .i64 g.op), .t (.str g.atom.name), .ow 34 0, .t (.str g.var), .ow 36 0])] [(4, .one (.bx 4 0))] [] [(4, [.t (.int .i64 0), .t (.str []), .nl 2, .t (.str []), .nl 5])] [(2, ⟨true, 2, f.atom.args.map tmC, 0, true⟩), (4, ⟨true, 5, f.parts.map fmC, 0, true⟩), (34, ⟨true, 2, g.atom.args.map tmC, 0, true⟩), (36, ⟨true, 5, g.parts.map fmC, 0, true⟩)] [] [] (binary_c 7 f g) (by simp -implicitDefEqProofs only [go_sem]) (by simp -implicitDefEqProofs only [go_sem]) (by simp -implicitDefEqProofs only [go_sem, fmC_eq f, fmC_eq g]) (by simp -implicitDefEqProofs only [go_sem, fmC_mkF]) ?_
            simp -implicitDefEqProofs only [go_sem, fmC_mkF, fmC_eq f, fmC_eq g, List.map_cons, List.map_nil]
          · simp only [h1, h2, h3, h4, h5, Bool.or_true, Bool.true_or, Bool.or_false, Bool.false_or, Bool.or_self, Bool.false_eq_true, reduceIte, fmD, fmC_eq f, fmC_eq g, fmC_mkF, List.map_cons, List.map_nil]
            refine GC_of Try.call73 Try.func73 rfl (by kernel_rfl) (by simp only [List.length_cons, List.length_nil, Try.ntmps73]; omega) (by simp [smallG, T.isPin]) ?_
            simp -implicitDefEqProofs only [go_sem, Try.results73, h1, h2, h3, h4, h5]
            refine callF (sameFormula_c f g) (by simp -implicitDefEqProofs only [go_sem, fmC_eq f, fmC_eq g, h1, h2, h3, h4, h5]) ?_
            simp -implicitDefEqProofs only [go_sem, fmC_eq f, fmC_eq g, h1, h2, h3, h4, h5]
            refine callG [(29, .agg [.t (.int .i64 f.op), .t (.str f.atom.name), .ow 2 0, .t (.str f.var), .ow 4 0])] [(4, .one (.bx 4 0))] [] [(4, [.t (.int .i64 0), .t (.str []), .nl 2, .t (.str []), .nl 5])] [(2, ⟨true, 2, f.atom.args.map tmC, 0, true⟩), (4, ⟨true, 5, f.parts.map fmC, 0, true⟩)] [] [] (not_c f) (by simp -implicitDefEqProofs only [go_sem]) (by simp -implicitDefEqProofs only [go_sem]) (by simp -implicitDefEqProofs only [go_sem, fmC_eq f, fmC_eq g]) (by simp -implicitDefEqProofs only [go_sem, fmC_mkF]) ?_
            simp -implicitDefEqProofs only [go_sem, fmC_mkF, fmC_eq f, fmC_eq g, List.map_cons, List.map_nil]
        · simp only [h1, h2, h3, h4, Bool.or_true, Bool.true_or, Bool.or_false, Bool.false_or, Bool.or_self, Bool.false_eq_true, reduceIte, fmD, fmC_eq f, fmC_eq g, fmC_mkF, List.map_cons, List.map_nil]
          refine GC_of Try.call73 Try.func73 rfl (by kernel_rfl) (by simp only [List.length_cons, List.length_nil, Try.ntmps73]; omega) (by simp [smallG, T.isPin]) ?_
          simp -implicitDefEqProofs only [go_sem, Try.results73, h1, h2, h3, h4]
          refine callF (sameFormula_c f g) (by simp -implicitDefEqProofs only [go_sem, fmC_eq f, fmC_eq g, h1, h2, h3, h4]) ?_
          simp -implicitDefEqProofs only [go_sem, fmC_eq f, fmC_eq g, h1, h2, h3, h4]
      · simp only [h1, h2, h3, Bool.or_true, Bool.true_or, Bool.or_false, Bool.false_or, Bool.or_self, Bool.false_eq_true, reduceIte, fmD, fmC_eq f, fmC_eq g, fmC_mkF, List.map_cons, List.map_nil]
        refine GC_of Try.call73 Try.func73 rfl (by kernel_rfl) (by simp only [List.length_cons, List.length_nil, Try.ntmps73]; omega) (by simp [smallG, T.isPin]) ?_
        simp -implicitDefEqProofs only [go_sem, Try.results73, h1, h2, h3]
    · simp only [h1, h2, Bool.or_true, Bool.true_or, Bool.or_false, Bool.false_or, Bool.or_self, Bool.false_eq_true, reduceIte, fmD, fmC_eq f, fmC_eq g, fmC_mkF, List.map_cons, List.map_nil]
      refine GC_of Try.call73 Try.func73 rfl (by kernel_rfl) (by simp only [List.length_cons, List.length_nil, Try.ntmps73]; omega) (by simp [smallG, T.isPin]) ?_
      simp -implicitDefEqProofs only [go_sem, Try.results73, h1, h2]
  · simp only [h1, Bool.or_true, Bool.true_or, Bool.or_false, Bool.false_or, Bool.or_self, Bool.false_eq_true, reduceIte, fmD, fmC_eq f, fmC_eq g, fmC_mkF, List.map_cons, List.map_nil]
    refine GC_of Try.call73 Try.func73 rfl (by kernel_rfl) (by simp only [List.length_cons, List.length_nil, Try.ntmps73]; omega) (by simp [smallG, T.isPin]) ?_
    simp -implicitDefEqProofs only [go_sem, Try.results73, h1]
end Go.Proofs.Ytgfjbbbkploonaa
/-
  slices.Backward over formulas.
  Conditions: none.
-/
namespace Go.Proofs.Ytgfjbbbkploonaa
set_option linter.unusedSimpArgs false
set_option linter.unusedVariables false
set_option maxRecDepth 4000
open Go.RowKit
attribute [local go_sem] Oper.semAt_some
set_option maxHeartbeats 1000000 in
theorem backFormula_mk : MakesB Try.prog 55 82 := by
  refine ⟨Try.call55, fun a len cap w => ?_⟩
  refine callsIn_wide.1 (callsIn_of_wp (n := 0) Try.func55 rfl trivial ?_ rfl)
  simp only [Try.ntmps55, List.size_toArray, List.length_cons, List.length_nil, Nat.reduceAdd, Nat.reduceSub, Array.replicate_succ, Array.replicate_zero, List.push_toArray, List.append_toArray, List.nil_append, List.cons_append]
  gi_wp2
  go_ret
  exact ⟨_, rfl, rfl⟩
set_option maxRecDepth 100000 in
set_option maxHeartbeats 2000000 in
theorem backFormula_c : BackFn Try.prog 82 true 5 := by
  intro l Bs n W J hmax hlen0 hrd h0
  obtain ⟨ao, cap, hBs⟩ := hlen0 W h0
  have hmax : n ≤ 9223372036854775807 := hmax
  have hw1 : IntKind.i64.wrap ((n : Int) - 1) = (n : Int) - 1 := by rw [IntKind.wrap_i64]; omega
  have hro : (FR none).round = none := rfl
  refine callsIn_of_wp Try.func82 rfl trivial ?_ rfl
  simp only [Try.ntmps82, List.size_toArray, List.length_cons, List.length_nil, Nat.reduceAdd, Nat.reduceSub, Array.replicate_succ, Array.replicate_zero, List.push_toArray, List.append_toArray, List.nil_append, List.cons_append]
  gi_wp2
  gi_loopw [3] (fun i wr => ∃ k : Nat, k ≤ n ∧ i = .int .i64 ((n : Int) - 1 - k) ∧ J k wr) (fun i _ => (intOf i + 1).toNat)
  case atStart => exact ⟨0, Nat.zero_le _, by simp, h0⟩
  case round =>
    obtain ⟨k, hk, rfl, hJs⟩ := hrel
    by_cases hlt : k < n
    · obtain ⟨m, hm⟩ : ∃ m, n - 1 - k = m := ⟨_, rfl⟩
      have hml : m < n := by omega
      obtain ⟨b, o, cap', r, hb, hr, hcell, fn, tmps, assign, body, hy, hR⟩ := hrd k wr hJs hlt
      match r, hr, hcell, hy with
      | [v0, v1, v2, v3, v4], _, hcell, hy =>
        rw [hm] at hcell hy
        rw [show (n : Int) - 1 - k = (m : Int) by omega]
        have e1 : wr.cell? ⟨b, o + m * 5, none⟩ = _ := hcell 0 v0 rfl
        have e2 : wr.cell? ⟨b, o + m * 5 + 1, none⟩ = _ := hcell 1 v1 rfl
        have e3 : wr.cell? ⟨b, o + m * 5 + 2, none⟩ = _ := hcell 2 v2 rfl
        have e4 : wr.cell? ⟨b, o + m * 5 + 3, none⟩ = _ := hcell 3 v3 rfl
        have e5 : wr.cell? ⟨b, o + m * 5 + 4, none⟩ = _ := hcell 4 v4 rfl
        simp only [agv, if_true] at hy
        have hw2 : IntKind.i64.wrap ((m : Int) - 1) = (m : Int) - 1 := by rw [IntKind.wrap_i64]; omega
        gi_wp2
        refine hR.mono ?_
        rintro e W3 ⟨rfl, hJ3⟩
        gi_wp2
        go_roundw
        case rel => exact ⟨k + 1, by omega, by go_num, hJ3⟩
        case measure => simp [intOf]
    · obtain rfl : k = n := by omega
      gi_wp2
      go_end0
      exact ⟨⟨_, rfl⟩, hJs⟩
end Go.Proofs.Ytgfjbbbkploonaa
/-
  impl.combined: a list's formulas joined from behind.
  Conditions: none.
-/
namespace Go.Proofs.Ytgfjbbbkploonaa
set_option linter.unusedSimpArgs false
set_option linter.unusedVariables false
set_option maxRecDepth 4000
open Go.RowKit
/-- A formula of which the slices are not looked into. -/
structure OF where
  op : Int
  name : Str
  a : Option Addr × Nat × Nat
  var : Str
  p : Option Addr × Nat × Nat
def ofC (x : OF) : List T := [.int .i64 x.op, .str x.name, .vs x.a.1 x.a.2.1 x.a.2.2, .str x.var, .vs x.p.1 x.p.2.1 x.p.2.2]
theorem ofC_eq (x : OF) : ofC x = [.int .i64 x.op, .str x.name, .vs x.a.1 x.a.2.1 x.a.2.2, .str x.var, .vs x.p.1 x.p.2.1 x.p.2.2] := rfl
def jnC (op : Int) : List OF → List T
  | [] => []
  | [x] => ofC x
  | x :: xs => [.int .i64 op, .str [], .sl 2 [], .str [], .sl 5 [ofC x, jnC op xs]]
theorem jnC_cons (op : Int) (x : OF) {xs : List OF} (h : xs ≠ []) : jnC op (x :: xs) = [.int .i64 op, .str [], .sl 2 [], .str [], .sl 5 [ofC x, jnC op xs]] := by
  cases xs with
  | nil => exact absurd rfl h
  | cons y ys => rfl
theorem binary_ff (op : Int) (x y : OF) : FC Try.prog 36 [iD op, .agg (ofC x), .agg (ofC y)] [.agg [.int .i64 op, .str [], .sl 2 [], .str [], .sl 5 [ofC x, ofC y]]] := by
  simp only [ofC_eq]
  refine FC_of Try.call36 Try.func36 rfl (by kernel_rfl) (by simp only [rd, List.map_cons, List.map_nil, List.length_cons, List.length_nil, Try.ntmps36]; omega) ?_
  simp -implicitDefEqProofs only [go_sem, Try.results36]
  refine buildDc (by simp -implicitDefEqProofs only [go_sem]) ?_
  simp -implicitDefEqProofs only [go_sem]
theorem binary_fo (op o2 : Int) (x : OF) (R : List (List T)) : GC Try.prog 36 [(false, iD op), (false, .agg (ofC x)), (true, .agg [.int .i64 o2, .str [], .sl 2 [], .str [], .sl 5 R])] [.agg [.int .i64 op, .str [], .sl 2 [], .str [], .sl 5 [ofC x, [.int .i64 o2, .str [], .sl 2 [], .str [], .sl 5 R]]]] := by
  simp only [ofC_eq]
  refine GC_of Try.call36 Try.func36 rfl (by kernel_rfl) (by simp only [List.length_cons, List.length_nil, Try.ntmps36]; omega) (by simp [smallG, T.isPin]) ?_
  simp -implicitDefEqProofs only [go_sem, Try.results36]
  refine buildDc (by simp -implicitDefEqProofs only [go_sem]) ?_
  simp -implicitDefEqProofs only [go_sem]
/-- Combined's loop at its rounds' heads. -/
def cbH (op : Int) (xs : List OF) (z : OF) : Nat → St
  | 0 => hd [(3, .one (.bx 3 0)), (6, .one (.bx 6 0)), (7, .one (.bx 7 0)), (25, .one (.fn 82 [25]))]
      [(3, [.t (.int .i64 op)]), (6, [.t (.int .i64 0), .t (.str []), .nl 2, .t (.str []), .nl 5]), (7, (ofC (xs.getD (xs.length - 1) z)).map .t), (25, [.rn (.sl 5 ((xs.map ofC).take (xs.length - 1)))])] []
  | k + 1 => hd [(3, .one (.bx 3 0)), (6, .one (.bx 6 0)), (7, .one (.bx 7 0)), (25, .one (.fn 82 [25]))]
      [(3, [.t (.int .i64 op)]), (6, [.t (.int .i64 0), .t (.str []), .nl 2, .t (.str []), .nl 5]), (7, [.t (.int .i64 op), .t (.str []), .ow 994 0, .t (.str []), .ow 996 0]), (25, [.rn (.sl 5 ((xs.map ofC).take (xs.length - 1)))])]
      [(994, ⟨true, 2, [], 0, true⟩), (996, ⟨true, 5, [ofC (xs.getD (xs.length - 1 - 1 - k) z), jnC op (xs.drop (xs.length - 1 - k))], 0, true⟩)]
set_option maxHeartbeats 1000000 in
theorem combined_x (op : Int) (xs : List OF) (z : OF) : FC Try.prog 33 [iD op, .one (.sl 5 (xs.map ofC)), .agg (ofC z)] [.agg (if xs = [] then ofC z else jnC op xs)] := by
  cases hx : xs with
  | nil =>
    simp only [if_true, List.map_nil, ofC]
    refine FC_ofBH Try.call33 Try.func33 rfl rfl (by kernel_rfl) (by simp only [rd, List.map_cons, List.map_nil, List.length_cons, List.length_nil, Try.ntmps33]; omega) ?_
    simp -implicitDefEqProofs only [go_sem, Try.results33]
  | cons x0 r0 =>
    rw [← hx]
    have hne : xs ≠ [] := by rw [hx]; simp
    have hn : 0 < xs.length := by rw [hx]; simp
    refine FC_wf (fun hw => ?_) Try.call33
    have hl : xs.length ≤ 9223372036854775807 := by simpa [wfDs, wfT] using hw.2.1.1
    clear hw hx
    have e0 : ((xs.length : Int) == 0) = false := by simp; omega
    have e1 : IntKind.i64.wrap ((xs.length : Int) - 1) = ((xs.length - 1 : Nat) : Int) := by rw [wrap_in (by omega) (by omega)]; omega
    have hi : xs.length - 1 < xs.length := by omega
    rw [if_neg hne]
    simp only [ofC]
    refine FC_ofBH Try.call33 Try.func33 rfl rfl (by kernel_rfl) (by simp only [rd, List.map_cons, List.map_nil, List.length_cons, List.length_nil, Try.ntmps33]; omega) ?_
    simp -implicitDefEqProofs only [go_sem, Try.results33, e0, e1, hi, getD_at, List.length_map, ofC_eq]
    refine ⟨by omega, ?_⟩
    refine callB (sz := 5) (rows := (xs.map ofC).take (xs.length - 1)) backFormula_mk (by simp -implicitDefEqProofs only [go_sem]) ?_
    simp -implicitDefEqProofs only [go_sem]
    have hlen : ((xs.map ofC).take (xs.length - 1)).length = xs.length - 1 := by simp
    have hlast : xs.getD (xs.length - 1) z = xs[xs.length - 1] := by simp [hi]
    refine loopB backFormula_c Try.call82 25 (cbH op xs z) ((xs.map ofC).take (xs.length - 1)) (by kernel_rfl) rfl (fun k => by cases k <;> exact ⟨rfl, rfl⟩) (fun k => by cases k <;> exact ⟨rfl, rfl, rfl, rfl, rfl, rfl, rfl, trivial⟩) (weak_hd (by simp -implicitDefEqProofs only [go_sem, hlast, ofC_eq])) ?_ ?_
    · intro k hk
      rw [hlen] at hk ⊢
      have hrow : ((xs.map ofC).take (xs.length - 1)).getD (xs.length - 1 - 1 - k) [] = ofC (xs.getD (xs.length - 1 - 1 - k) z) := by
        have h1 : xs.length - 1 - 1 - k < xs.length - 1 := by omega
        have h2 : xs.length - 1 - 1 - k < xs.length := by omega
        simp [List.getD, List.getElem?_take, h1, h2]
      rw [hrow]
      have hd1 : xs.drop (xs.length - 1) = [xs.getD (xs.length - 1) z] := by
        rw [List.drop_eq_getElem_cons hi, List.drop_of_length_le (by omega), hlast]
      cases k with
      | zero =>
        simp only [cbH, rowN, if_true, Nat.sub_zero]
        simp -implicitDefEqProofs only [go_sem, ofC_eq, rowN, T.toN]
        refine callF (binary_ff op (xs.getD (xs.length - 1 - 1) z) (xs.getD (xs.length - 1) z)) (by simp -implicitDefEqProofs only [go_sem, ofC_eq]) ?_
        simp -implicitDefEqProofs only [go_sem, ofC_eq]
        refine weak_hd ?_
        rw [hd1]
        simp -implicitDefEqProofs only [go_sem, jnC, ofC_eq]
      | succ k =>
        have hdk : xs.drop (xs.length - 1 - (k + 1)) = xs.getD (xs.length - 1 - 1 - k) z :: xs.drop (xs.length - 1 - k) := by
          have h1 : xs.length - 1 - (k + 1) < xs.length := by omega
          rw [List.drop_eq_getElem_cons h1, show xs.length - 1 - (k + 1) + 1 = xs.length - 1 - k by omega]
          congr 1
          rw [show xs.length - 1 - 1 - k = xs.length - 1 - (k + 1) by omega]
          simp [h1]
        have hdn : xs.drop (xs.length - 1 - k) ≠ [] := by
          intro e
          have := congrArg List.length e
          simp at this; omega
        simp only [cbH, rowN, if_true]
        rw [hdk, jnC_cons op _ hdn]
        generalize xs.getD (xs.length - 1 - 1 - (k + 1)) z = x
        generalize xs.getD (xs.length - 1 - 1 - k) z = y
        generalize jnC op (xs.drop (xs.length - 1 - k)) = J
        simp -implicitDefEqProofs only [go_sem, ofC_eq x, T.toN]
        refine callG [(28, vI op), (29, .agg ((ofC x).map .t)), (30, .agg [.t (.int .i64 op), .t (.str []), .ow 994 0, .t (.str []), .ow 996 0])]
          [(3, .one (.bx 3 0)), (6, .one (.bx 6 0)), (7, .one (.bx 7 0)), (25, .one (.fn 82 [25]))] []
          [(3, [.t (.int .i64 op)]), (6, [.t (.int .i64 0), .t (.str []), .nl 2, .t (.str []), .nl 5]), (7, [.any, .any, .any, .any, .any]), (25, [.rn (.sl 5 ((xs.map ofC).take (xs.length - 1)))])]
          [(994, ⟨true, 2, [], 0, true⟩), (996, ⟨true, 5, [ofC y, J], 0, true⟩)] [] [] (binary_fo op op x [ofC y, J]) (by simp -implicitDefEqProofs only [go_sem, ofC_eq x]) (by simp -implicitDefEqProofs only [go_sem]) (by simp -implicitDefEqProofs only [go_sem, ofC_eq x]) (by simp -implicitDefEqProofs only [go_sem]) ?_
        simp -implicitDefEqProofs only [go_sem]
        refine weak_hd ?_
        simp -implicitDefEqProofs only [go_sem, ofC_eq x]
    · rw [hlen]
      cases hm : xs.length - 1 with
      | zero =>
        have hx1 : xs = [xs.getD (xs.length - 1) z] := by
          rw [hlast]
          have : xs.length = 1 := by omega
          match xs, this with
          | [x], _ => rfl
        rw [hm] at hx1
        rw [hx1]
        generalize xs.getD 0 z = x
        show ex _ _ _ _ (cbH op [x] z 0)
        simp only [cbH]
        simp -implicitDefEqProofs only [go_sem, jnC, ofC_eq, Try.results33]
      | succ m =>
        have h0 : 0 < xs.length := hn
        have hx2 : jnC op xs = [.int .i64 op, .str [], .sl 2 [], .str [], .sl 5 [ofC (xs.getD 0 z), jnC op (xs.drop 1)]] := by
          match xs, hm with
          | x :: r, hm =>
            rw [jnC_cons op x (by intro e; rw [e] at hm; simp at hm)]
            rfl
        rw [hx2]
        simp only [cbH]
        rw [show xs.length - 1 - 1 - m = 0 by omega, show xs.length - 1 - m = 1 by omega]
        generalize xs.getD 0 z = x
        generalize jnC op (xs.drop 1) = J
        simp -implicitDefEqProofs only [go_sem, Try.results33]
end Go.Proofs.Ytgfjbbbkploonaa
/-
  impl.combined: its contract over formulas that are given away.
  Conditions: none.
-/
namespace Go.Proofs.Ytgfjbbbkploonaa
set_option linter.unusedSimpArgs false
set_option linter.unusedVariables false
set_option maxRecDepth 4000
open Go.RowKit
def joinF (op : Int) : List Fm → Fm → Fm
  | [], z => z
  | [x], _ => x
  | x :: xs, z => mkF op [x, joinF op xs z]
theorem joinF_cons (op : Int) (x : Fm) {xs : List Fm} (h : xs ≠ []) (z : Fm) : joinF op (x :: xs) z = mkF op [x, joinF op xs z] := by
  cases xs with
  | nil => exact absurd rfl h
  | cons y ys => rfl
theorem of_fm {w : World} {x : Fm} {vs : List Value} {f : List Nat} (h : OwnAll w (fmC x) vs f) : ∃ y : OF, (∀ A : Nat → Prop, RepAll w A (ofC y) vs) ∧ ∀ w' : World, (∀ b ∈ f, w'.heap[b]? = w.heap[b]?) → GrAt w' (ofC y) (fmC x) f := by
  rw [fmC_eq] at h ⊢
  obtain ⟨v1, _, f1, _, rfl, rfl, h1, h⟩ := h
  obtain ⟨v2, _, f2, _, rfl, rfl, h2, h⟩ := h
  obtain ⟨v3, _, f3, _, rfl, rfl, h3, h⟩ := h
  obtain ⟨v4, _, f4, _, rfl, rfl, h4, h⟩ := h
  obtain ⟨v5, _, f5, _, rfl, rfl, h5, h⟩ := h
  obtain ⟨rfl, rfl⟩ := h
  unfold OwnV at h1 h2 h4
  obtain ⟨rfl, n1, n2, rfl⟩ := h1
  obtain ⟨rfl, n3, rfl⟩ := h2
  obtain ⟨rfl, n4, rfl⟩ := h4
  have g3 := h3
  have g5 := h5
  unfold OwnV at g3 g5
  obtain ⟨a3, c3, rfl, _⟩ := g3
  obtain ⟨a5, c5, rfl, _⟩ := g5
  refine ⟨⟨x.op, x.atom.name, (a3, (x.atom.args.map tmC).length, c3), x.var, (a5, (x.parts.map fmC).length, c5)⟩, fun A => ?_, fun w' hs => ?_⟩
  · unfold ofC
    simp only [RepAll, RepV]
    exact ⟨_, _, rfl, ⟨rfl, n1, n2⟩, _, _, rfl, ⟨rfl, n3⟩, _, _, rfl, rfl, _, _, rfl, ⟨rfl, n4⟩, _, _, rfl, rfl, rfl⟩
  · unfold ofC
    simp only [GrAt, GrT]
    refine ⟨_, _, [], _, rfl, rfl, ⟨rfl, rfl⟩, _, _, [], _, rfl, rfl, ⟨rfl, rfl⟩, _, _, f3, _, rfl, rfl, OwnV.keep _ _ _ h3 fun b hb => hs b (by simp [hb]), _, _, [], _, rfl, rfl, ⟨rfl, rfl⟩, _, _, f5, _, rfl, rfl, OwnV.keep _ _ _ h5 fun b hb => hs b (by simp [hb]), rfl, rfl⟩
theorem of_fms {w : World} {cells : Array Value} {b : Nat} {ty : TypeId} (hc : w.heap[b]? = some (.cells cells ty (0, 0))) : ∀ {xs : List Fm} {o : Nat} {fps : List Nat}, OwnRows w cells o 5 (xs.map fmC) fps →
    ∃ ys : List OF, ys.length = xs.length ∧ (∀ A : Nat → Prop, RepRows w A b o 5 (ys.map ofC)) ∧ ∀ w' : World, (∀ b ∈ fps, w'.heap[b]? = w.heap[b]?) → GrRows w' (ys.map ofC) (xs.map fmC) fps
  | [], o, fps, h => by
    rw [List.map_nil] at h
    unfold OwnRows at h
    subst h
    exact ⟨[], rfl, fun A => by rw [List.map_nil]; unfold RepRows; trivial, fun w' _ => by rw [List.map_nil, List.map_nil]; unfold GrRows; exact ⟨rfl, rfl⟩⟩
  | x :: xs, o, fps, h => by
    rw [List.map_cons] at h
    unfold OwnRows at h
    obtain ⟨h1, f1, f2, rfl, h2, h3⟩ := h
    obtain ⟨vs, k1, k2, k3⟩ := h2.vals
    obtain ⟨y, l1, l2⟩ := of_fm k3
    obtain ⟨ys, m1, m2, m3⟩ := of_fms hc h3
    refine ⟨y :: ys, by simp [m1], fun A => ?_, fun w' hs => ?_⟩
    · rw [List.map_cons]
      unfold RepRows
      refine ⟨rfl, RepAt.mk fun j c hj => ?_, m2 A⟩
      obtain ⟨v, q1, q2⟩ := (l1 A).at j c hj
      exact ⟨v, by simp [World.cell?, hc, k2 j v q1], q2⟩
    · rw [List.map_cons, List.map_cons]
      unfold GrRows
      exact ⟨_, _, f1, f2, rfl, rfl, l2 w' fun b hb => hs b (by simp [hb]), m3 w' fun b hb => hs b (by simp [hb])⟩
theorem gr_join {w : World} (op : Int) (z : Fm) : ∀ {xs : List Fm} {ys : List OF} {fps : List Nat}, xs ≠ [] → GrRows w (ys.map ofC) (xs.map fmC) fps → GrAt w (jnC op ys) (fmC (joinF op xs z)) fps
  | [], _, _, h, _ => absurd rfl h
  | x :: xs, [], _, _, h => by rw [List.map_nil, List.map_cons] at h; unfold GrRows at h; exact absurd h.1 (by simp)
  | x :: xs, y :: ys, fps, _, h => by
    rw [List.map_cons, List.map_cons] at h
    unfold GrRows at h
    obtain ⟨r', rs', e1, e2, h0, rfl, h1, h2⟩ := h
    simp only [List.cons.injEq] at h0
    obtain ⟨rfl, rfl⟩ := h0
    have hlen := h2.len
    simp only [List.length_map] at hlen
    by_cases hx : xs = []
    · subst hx
      have hy : ys = [] := List.length_eq_zero_iff.1 (by simpa using hlen.symm)
      subst hy
      rw [List.map_nil, List.map_nil] at h2
      unfold GrRows at h2
      rw [h2.2, List.append_nil]
      exact h1
    · have hy : ys ≠ [] := fun e => hx (List.length_eq_zero_iff.1 (by rw [hlen, e]; rfl))
      rw [jnC_cons op y hy, joinF_cons op x hx, fmC_mkF, List.map_cons, List.map_cons, List.map_nil]
      have h3 := gr_join op z hx h2
      simp only [GrAt, GrT, GrRows]
      exact ⟨_, _, [], _, rfl, rfl, ⟨rfl, rfl⟩, _, _, [], _, rfl, rfl, ⟨rfl, rfl⟩, _, _, [], _, rfl, rfl, ⟨[], rfl, rfl, rfl⟩, _, _, [], _, rfl, rfl, ⟨rfl, rfl⟩, _, _, e1 ++ e2, [], rfl, by simp, ⟨_, rfl, _, _, e1, e2, rfl, rfl, h1, _, _, e2, [], rfl, by simp, h3, rfl, rfl⟩, rfl, rfl⟩
theorem OwnAll.lt {w : World} : ∀ {cs : List T} {vs : List Value} {fps : List Nat}, OwnAll w cs vs fps → ∀ b ∈ fps, b < w.heap.size
  | [], _, _, h, b, hb => by rw [h.2] at hb; simp at hb
  | c :: cs, _, _, h, b, hb => by
    obtain ⟨v, vs', f1, f2, rfl, rfl, h1, h2⟩ := h
    rcases List.mem_append.1 hb with hb | hb
    · exact OwnV.lt c v f1 h1 b hb
    · exact OwnAll.lt h2 b hb
theorem combined_c (op : Int) (xs : List Fm) (z : Fm) : GC Try.prog 33 [(false, iD op), (true, .one (fmS xs)), (true, fmD z)] [fmD (joinF op xs z)] := by
  refine GC_of_graft Try.call33 fun w vs fp tp hv hn => ?_
  obtain ⟨v1, _, rfl, h1, hv⟩ := hv
  obtain ⟨v2, _, f2, _, t2, _, rfl, rfl, rfl, h2, hv⟩ := hv
  obtain ⟨v3, _, f3, _, t3, _, rfl, rfl, rfl, h3, hv⟩ := hv
  obtain ⟨rfl, rfl, rfl⟩ := hv
  obtain ⟨a, rfl, h3⟩ := h3
  have h2 : OwnV w (fmS xs) v2 f2 := h2.1
  have h3 : OwnAll w (fmC z) a f3 := OwnAll.of_g h3
  obtain ⟨y, k1, k2⟩ := of_fm h3
  have hlt3 : ∀ b ∈ f3, b < w.heap.size := OwnAll.lt h3
  have hlt2 : ∀ b ∈ f2, b < w.heap.size := OwnV.lt _ _ _ h2
  have hi : RepD w (fun b => b < w.heap.size) (iD op) v1 := by
    have : RepDs w (fun b => b < w.heap.size) [iD op] [v1] := RepDs.keep (fun _ _ => rfl) (fun b hb => hb.1) (⟨v1, [], rfl, h1, rfl⟩ : RepDs w (fun b => b < w.heap.size ∧ b ∉ f2 ++ (f3 ++ [])) [iD op] [v1])
    obtain ⟨_, _, e, h4, _⟩ := this
    cases e; exact h4
  obtain ⟨n1, n2, -⟩ := List.nodup_append.1 hn
  rw [List.append_nil] at n2
  have hS : ∃ (ys : List OF) (f : List Nat), ys.length = xs.length ∧ f.Nodup ∧ (∀ b ∈ f, b ∈ f2) ∧ RepV w (fun b => b < w.heap.size) (.sl 5 (ys.map ofC)) v2 ∧ ∀ w' : World, (∀ b ∈ f, w'.heap[b]? = w.heap[b]?) → GrRows w' (ys.map ofC) (xs.map fmC) f := by
    unfold fmS at h2
    unfold OwnV at h2
    obtain ⟨ao, cap, rfl, q1, q2, q3⟩ := h2
    rw [List.length_map] at q1
    rcases q3 with ⟨rfl, rfl, q3, rfl⟩ | ⟨b, cells, ty, fps, rfl, rfl, q3, q4, q5⟩
    · have hx : xs = [] := by simpa using q3
      subst hx
      refine ⟨[], [], rfl, List.nodup_nil, fun b hb => hb, ?_, fun _ _ => by rw [List.map_nil, List.map_nil]; unfold GrRows; exact ⟨rfl, rfl⟩⟩
      unfold RepV
      exact ⟨none, 0, rfl, Nat.le_refl _, by simp, Or.inl rfl⟩
    · obtain ⟨ys, r1, r2, r3⟩ := of_fms q3 q5
      refine ⟨ys, fps, r1, (List.nodup_cons.1 n1).2, fun b hb => by simp [hb], ?_, r3⟩
      unfold RepV
      exact ⟨_, cap, by rw [List.length_map, List.length_map, r1], by rw [List.length_map, r1]; exact q1, q2, Or.inr ⟨b, 0, rfl, hlt2 b (by simp), r2 _⟩⟩
  obtain ⟨ys, f, r1, r4, r5, r2, r3⟩ := hS
  by_cases hx : xs = []
  · subst hx
    have hy : ys = [] := List.length_eq_zero_iff.1 (by simpa using r1)
    refine ⟨[iD op, .one (.sl 5 (ys.map ofC)), .agg (ofC y)], _, f3, combined_x op ys y, ⟨v1, _, rfl, hi, v2, _, rfl, r2, _, _, rfl, ⟨a, rfl, k1 _⟩, rfl⟩, n2, fun b hb => ⟨by simp [hb], hlt3 b hb⟩, fun w' hs => ?_⟩
    rw [if_pos hy]
    exact k2 w' hs
  · have hy : ys ≠ [] := fun e => hx (List.length_eq_zero_iff.1 (by rw [← r1, e]; rfl))
    refine ⟨[iD op, .one (.sl 5 (ys.map ofC)), .agg (ofC y)], _, f, combined_x op ys y, ⟨v1, _, rfl, hi, v2, _, rfl, r2, _, _, rfl, ⟨a, rfl, k1 _⟩, rfl⟩, r4, fun b hb => ⟨by simp [r5 b hb], hlt2 b (r5 b hb)⟩, fun w' hs => ?_⟩
    rw [if_neg hy]
    exact gr_join op z hx (r3 w' hs)
end Go.Proofs.Ytgfjbbbkploonaa
/-
  Copies of lists of formulas; the reference's joining.
  Conditions: those that each theorem names.
-/
namespace Go.Proofs.Ytgfjbbbkploonaa
set_option linter.unusedSimpArgs false
set_option linter.unusedVariables false
set_option maxRecDepth 4000
open Go.RowKit
theorem copyFormulas_c (xs : List Fm) (hs : fmsW xs ≤ 1048576) : FC Try.prog 34 [.one (fmS xs)] [.one (fmS xs)] := by
  have hW : fmsW xs = xs.length + (xs.map Fm.wt).sum := rfl
  refine FC_of Try.call34 Try.func34 rfl (by kernel_rfl) (by simp only [rd, List.map_cons, List.map_nil, List.length_cons, List.length_nil, Try.ntmps34]; omega) ?_
  simp -implicitDefEqProofs only [go_sem, Try.results34]
  refine buildDc (by simp -implicitDefEqProofs only [go_sem]) ?_
  simp -implicitDefEqProofs only [go_sem]
  refine loop_rule (fun k : Nat => hd [(3, .one (.ow 192 k)), (7, vT (fmS xs)), (8, vI xs.length), (9, vI k)] [] [(192, ⟨true, 5, (xs.take k).map fmC, k, true⟩)]) (fun k => k ≤ xs.length) (fun k => xs.length - k) 0 (weak_hd ?_) ?_ ?_
  · simp -implicitDefEqProofs only [go_sem]
  · simp
  · intro k hk
    by_cases hlt : k < xs.length
    · have hmin : min k xs.length ≤ 4294967295 := by omega
      have hx : xs[k].wt ≤ 1048576 := by have := mem_sum Fm.wt xs xs[k] (List.getElem_mem hlt); omega
      simp -implicitDefEqProofs only [go_sem, getD_at, hlt, fmC_eq xs[k]]
      refine callF (copyFormula_c xs[k] hx) (by simp -implicitDefEqProofs only [go_sem, fmC_eq]) ?_
      simp -implicitDefEqProofs only [go_sem, fmC_eq]
      refine buildDc (by simp -implicitDefEqProofs only [go_sem]) ?_
      simp -implicitDefEqProofs only [go_sem]
      refine apD true (by simp -implicitDefEqProofs only [go_sem, ne_eq, List.length_map, List.length_take, hmin]) ?_
      simp -implicitDefEqProofs only [go_sem, ne_eq, List.length_map, List.length_take, hmin]
      refine ⟨k + 1, hlt, by omega, weak_hd ?_⟩
      simp -implicitDefEqProofs only [go_sem]
      rw [wrap_s (by omega), List.take_succ_eq_append_getElem hlt, List.map_append, List.map_singleton, fmC_eq xs[k]]
      exact ⟨rfl, rfl⟩
    · have ht : xs.take k = xs := List.take_of_length_le (by omega)
      simp -implicitDefEqProofs only [go_sem, hlt, ht]
def jS (op : Int) (xs : List Fm) (J : Fm) (i : Int) (a b : Nat) : St := hd [(0, vT (fmS xs)), (1, .one (.t (.int .i64 op))), (6, .one (.bx 6 0)), (7, .one (.bx 7 0)), (8, .one (.t (.int .i64 i)))]
  [(6, [.t (.int .i64 0), .t (.str []), .nl 2, .t (.str []), .nl 5]), (7, [.t (.int .i64 J.op), .t (.str J.atom.name), .ow a 0, .t (.str J.var), .ow b 0])] [(a, ⟨true, 2, J.atom.args.map tmC, 0, true⟩), (b, ⟨true, 5, J.parts.map fmC, 0, true⟩)]
theorem jS_ren1 (op : Int) (xs : List Fm) (J : Fm) (i : Int) : Wk (jS op xs J i 642 644) (jS op xs J i 2002 644) := wk_ren 642 2002 _ _ _
theorem jS_ren2 (op : Int) (xs : List Fm) (J : Fm) (i : Int) : Wk (jS op xs J i 2002 644) (jS op xs J i 2002 2000) := wk_ren 644 2000 _ _ _
theorem jS_ren3 (op : Int) (xs : List Fm) (J : Fm) (i : Int) : Wk (jS op xs J i 2003 1120) (jS op xs J i 2003 2000) := wk_ren 1120 2000 _ _ _
theorem jS_ren4 (op : Int) (xs : List Fm) (J : Fm) (i : Int) : Wk (jS op xs J i 2003 2000) (jS op xs J i 2002 2000) := wk_ren 2003 2002 _ _ _
theorem mkF_op (o : Int) (ps : List Fm) : (mkF o ps).op = o := rfl
theorem mkF_name (o : Int) (ps : List Fm) : (mkF o ps).atom.name = [] := rfl
theorem mkF_args (o : Int) (ps : List Fm) : (mkF o ps).atom.args = [] := rfl
theorem mkF_var (o : Int) (ps : List Fm) : (mkF o ps).var = [] := rfl
theorem mkF_parts (o : Int) (ps : List Fm) : (mkF o ps).parts = ps := rfl
theorem l18Joined_c (xs : List Fm) (op none : Int) (hs : fmsW xs ≤ 1048576) : FC Try.prog 31 [.one (fmS xs), iD op, iD none] [fmD (joinF op xs (mkF none []))] := by
  have hW : fmsW xs = xs.length + (xs.map Fm.wt).sum := rfl
  have hwt : ∀ k (h : k < xs.length), xs[k].wt ≤ 1048576 := fun k h => by have := mem_sum Fm.wt xs xs[k] (List.getElem_mem h); omega
  by_cases hx : xs = []
  · subst hx
    show FC _ _ _ [fmD (mkF none [])]
    simp only [fmD, fmC_mkF, List.map_nil, fmS]
    refine FC_of Try.call31 Try.func31 rfl (by kernel_rfl) (by simp only [rd, List.map_cons, List.map_nil, List.length_cons, List.length_nil, Try.ntmps31]; omega) ?_
    simp -implicitDefEqProofs only [go_sem, Try.results31]
  · have hn : 0 < xs.length := List.length_pos_iff.2 hx
    have e0 : ((xs.length : Int) == 0) = false := by simp; omega
    have e1 : IntKind.i64.wrap ((xs.length : Int) - 1) = ((xs.length - 1 : Nat) : Int) := by rw [wrap_in (by omega) (by omega)]; omega
    have e2 : IntKind.i64.wrap ((xs.length : Int) - 2) = (xs.length : Int) - 2 := wrap_in (by omega) (by omega)
    have hi : xs.length - 1 < xs.length := by omega
    have hR : ∃ R, joinF op xs (mkF none []) = R := ⟨_, rfl⟩
    obtain ⟨R, hR⟩ := hR
    rw [hR]
    simp only [fmD, fmC_eq R]
    have hL := fmC_eq xs[xs.length - 1]
    refine FC_of Try.call31 Try.func31 rfl (by kernel_rfl) (by simp only [rd, List.map_cons, List.map_nil, List.length_cons, List.length_nil, Try.ntmps31]; omega) ?_
    simp -implicitDefEqProofs only [go_sem, Try.results31, e0, e1, hi, getD_at, hL]
    refine callF (l8Own_c xs[xs.length - 1] (hwt _ hi)) (by simp -implicitDefEqProofs only [go_sem, fmC_eq xs[xs.length - 1], e2]) ?_
    simp -implicitDefEqProofs only [go_sem, fmC_eq xs[xs.length - 1], e2]
    have hd1 : joinF op (xs.drop (xs.length - 1)) (mkF none []) = xs[xs.length - 1] := by
      rw [List.drop_eq_getElem_cons hi, List.drop_of_length_le (by omega)]; rfl
    refine loop_rule (fun k : Nat => jS op xs (joinF op (xs.drop (xs.length - 1 - k)) (mkF none [])) ((xs.length : Int) - 2 - k) 2002 2000) (fun k => k ≤ xs.length - 1) (fun k => xs.length - 1 - k) 0 (Wk.trans ?_ ((jS_ren1 _ _ _ _).trans (jS_ren2 _ _ _ _))) (Nat.zero_le _) ?_
    · rw [Nat.sub_zero, hd1]
      unfold jS
      refine weak_hd ?_
      simp -implicitDefEqProofs only [go_sem]
      simp
    · intro k hk
      by_cases hlt : k < xs.length - 1
      · obtain ⟨m, hm⟩ : ∃ m, xs.length - 2 - k = m := ⟨_, rfl⟩
        have hml : m < xs.length := by omega
        have hge : ((0 : Int) ≤ (m : Int)) = True := by simp
        have hdk : joinF op (xs.drop (xs.length - 1 - (k + 1))) (mkF none []) = mkF op [xs[m], joinF op (xs.drop (xs.length - 1 - k)) (mkF none [])] := by
          rw [show xs.length - 1 - (k + 1) = m by omega, List.drop_eq_getElem_cons hml, show m + 1 = xs.length - 1 - k by omega]
          refine joinF_cons op _ ?_ _
          intro e
          have := congrArg List.length e
          simp at this; omega
        have hwm := hwt m hml
        have hnx : Wk (jS op xs (joinF op (xs.drop (xs.length - 1 - (k + 1))) (mkF none [])) ((xs.length : Int) - 2 - ((k + 1 : Nat) : Int)) 2003 1120) (jS op xs (joinF op (xs.drop (xs.length - 1 - (k + 1))) (mkF none [])) ((xs.length : Int) - 2 - ((k + 1 : Nat) : Int)) 2002 2000) := (jS_ren3 _ _ _ _).trans (jS_ren4 _ _ _ _)
        have e3 : IntKind.i64.wrap ((m : Int) - 1) = (xs.length : Int) - 2 - ((k + 1 : Nat) : Int) := by rw [wrap_in (by omega) (by omega)]; omega
        rw [show (xs.length : Int) - 2 - (k : Int) = (m : Int) by omega]
        generalize hJ : joinF op (xs.drop (xs.length - 1 - k)) (mkF none []) = J at hdk ⊢
        generalize hX : xs[m] = x at hdk hwm
        have hxE := fmC_eq x
        unfold jS
        simp -implicitDefEqProofs only [go_sem, hge, getD_at, hml, hX, hxE]
        refine drawn (by kernel_rfl) ?_
        simp -implicitDefEqProofs only [go_sem, getD_at, hml, hX, hxE]
        refine dCallF (l8Own_c x hwm) (by simp -implicitDefEqProofs only [go_sem, hxE]) ?_
        simp -implicitDefEqProofs only [go_sem, hxE]
        refine dBuildDc (by simp -implicitDefEqProofs only [go_sem]) ?_
        simp -implicitDefEqProofs only [go_sem]
        refine ⟨by kernel_rfl, k + 1, by omega, by omega, Wk.trans ?_ hnx⟩
        rw [hdk]
        unfold jS
        refine weak_hd ?_
        simp -implicitDefEqProofs only [go_sem, e3, mkF_op, mkF_name, mkF_args, mkF_var, mkF_parts, List.map_cons, List.map_nil, hxE]
        rw [fmC_eq J]
      · have hk2 : k = xs.length - 1 := by omega
        subst hk2
        have hlt0 : ((xs.length : Int) - 2 - ((xs.length - 1 : Nat) : Int)) = -1 := by omega
        rw [Nat.sub_self, List.drop_zero, hR, hlt0]
        unfold jS
        simp -implicitDefEqProofs only [go_sem]
end Go.Proofs.Ytgfjbbbkploonaa
/-
  Contracts of functions of the program and of its laws, over plain data.
  Conditions: those that each theorem names.
-/
namespace Go.Proofs.Ytgfjbbbkploonaa
set_option linter.unusedSimpArgs false
set_option linter.unusedVariables false
set_option maxRecDepth 4000
open Go.RowKit
/-- All nodes have names, and as many arguments as they may have. -/
def Tm.names : Tm → Bool := Tm.fold fun n xs rs => if varOk n = true then decide (xs.length = 0) else symOk n && decide (xs.length ≤ 4) && rs.all id
theorem Tm.names_eq (a : Tm) : a.names = if varOk a.name = true then decide (a.args.length = 0) else symOk a.name && decide (a.args.length ≤ 4) && a.args.all Tm.names := by
  unfold Tm.names
  rw [Tm.fold_eq]
  simp only [List.all_map]
  rfl
theorem not_any {α : Type} (xs : List α) (p : α → Bool) : (!xs.any fun x => !p x) = xs.all p := by
  induction xs with
  | nil => rfl
  | cons x xs ih => simp only [List.any_cons, List.all_cons, Bool.not_or, Bool.not_not, ih]
theorem hasNames_of (a : Tm) (H : ∀ x ∈ a.args, FC Try.prog 99 [tmD x] [bD x.names]) : FC Try.prog 99 [tmD a] [bD a.names] := by
  have H1 : ∀ x ∈ a.args, FC Try.prog 115 [tmD x] [bD (!x.names)] := fun x hx => by
    simp only [tmD, tmC_eq]
    refine FC_of Try.call115 Try.func115 rfl (by kernel_rfl) (by simp only [rd, List.map_cons, List.map_nil, List.length_cons, List.length_nil, Try.ntmps115]; omega) ?_
    simp -implicitDefEqProofs only [go_sem, Try.results115]
    refine callF (H x hx) (by simp -implicitDefEqProofs only [go_sem, tmC_eq]) ?_
    simp -implicitDefEqProofs only [go_sem, tmC_eq]
  have hN := a.names_eq
  simp only [tmD, tmC_eq]
  refine FC_of Try.call99 Try.func99 rfl (by kernel_rfl) (by simp only [rd, List.map_cons, List.map_nil, List.length_cons, List.length_nil, Try.ntmps99]; omega) ?_
  simp -implicitDefEqProofs only [go_sem, Try.results99]
  refine callF (isVariable_c a.name) (by simp -implicitDefEqProofs only [go_sem]) ?_
  simp -implicitDefEqProofs only [go_sem]
  refine ⟨fun h => ?_, fun h => ?_⟩
  · rw [hN, if_pos h]
    congr 1
    rw [Bool.eq_iff_iff]; simp
  · rw [h] at hN
    simp only [Bool.false_eq_true, if_false] at hN
    refine callF (isSymbol_c a.name) (by simp -implicitDefEqProofs only [go_sem]) ?_
    simp -implicitDefEqProofs only [go_sem]
    refine ⟨fun h1 => ⟨fun h2 => ?_, fun h2 => ?_⟩, fun h1 => ?_⟩
    · refine callF (containsFuncTerm_c a.args (fun x => !x.names) _ [] H1) (by simp -implicitDefEqProofs only [go_sem]) ?_
      simp -implicitDefEqProofs only [go_sem]
      rw [not_any, hN, h1, Bool.true_and]
      rw [show decide (a.args.length ≤ 4) = true by simp at h2 ⊢; omega]; rfl
    · rw [hN, h1, Bool.true_and, show decide (a.args.length ≤ 4) = false by simp at h2 ⊢; omega]; rfl
    · rw [hN, h1]; rfl
theorem hasNames_c : ∀ a : Tm, FC Try.prog 99 [tmD a] [bD a.names] := tm_ind fun n xs ih => hasNames_of (.mk n xs) ih
def Tm.good (a : Tm) : Bool := smallT a && a.names
theorem isValidTerm_c (a : Tm) (hs : a.wt ≤ 1099511627776) : FC Try.prog 101 [tmD a] [bD a.good] := by
  simp only [tmD, tmC_eq]
  refine FC_of Try.call101 Try.func101 rfl (by kernel_rfl) (by simp only [rd, List.map_cons, List.map_nil, List.length_cons, List.length_nil, Try.ntmps101]; omega) ?_
  simp -implicitDefEqProofs only [go_sem, Try.results101]
  refine callF (isSmall_c a hs) (by simp -implicitDefEqProofs only [go_sem, tmC_eq]) ?_
  simp -implicitDefEqProofs only [go_sem, tmC_eq]
  refine ⟨fun h => ?_, fun h => ?_⟩
  · refine callF (hasNames_c a) (by simp -implicitDefEqProofs only [go_sem, tmC_eq]) ?_
    simp -implicitDefEqProofs only [go_sem, tmC_eq]
    rw [Tm.good, h, Bool.true_and]
  · rw [Tm.good, h, Bool.false_and]
theorem isEquality_c (a : Tm) : FC Try.prog 97 [tmD a] [bD (a.name == [61])] := by
  simp only [tmD, tmC_eq]
  refine FC_of Try.call97 Try.func97 rfl (by kernel_rfl) (by simp only [rd, List.map_cons, List.map_nil, List.length_cons, List.length_nil, Try.ntmps97]; omega) ?_
  simp -implicitDefEqProofs only [go_sem, Try.results97]
def Tm.atomOk (a : Tm) : Bool := if (a.name == [61]) = true then decide (a.args.length = 2) && smallT a && a.args.all Tm.names else symOk a.name && a.good
theorem all_two {α : Type} {xs : List α} {p : α → Bool} (h : xs.length = 2) : xs.all p = (p (xs[0]'(by omega)) && p (xs[1]'(by omega))) := by
  match xs, h with
  | [a, b], _ => simp
theorem isValidAtom_c (a : Tm) (hs : a.wt ≤ 1099511627776) : FC Try.prog 77 [tmD a] [bD a.atomOk] := by
  have hN : a.atomOk = if (a.name == [61]) = true then decide (a.args.length = 2) && smallT a && a.args.all Tm.names else symOk a.name && a.good := rfl
  simp only [tmD, tmC_eq]
  refine FC_of Try.call77 Try.func77 rfl (by kernel_rfl) (by simp only [rd, List.map_cons, List.map_nil, List.length_cons, List.length_nil, Try.ntmps77]; omega) ?_
  simp -implicitDefEqProofs only [go_sem, Try.results77]
  refine callF (isEquality_c a) (by simp -implicitDefEqProofs only [go_sem, tmC_eq]) ?_
  simp -implicitDefEqProofs only [go_sem, tmC_eq]
  refine ⟨fun h => ?_, fun h => ?_⟩
  · rw [if_pos h] at hN
    by_cases h2 : a.args.length = 2
    · have k0 : 0 < a.args.length := by omega
      have k1 : 1 < a.args.length := by omega
      have e2 : ((a.args.length : Int) == 2) = true := by simp [h2]
      have l0 : (0 : Int) < a.args.length := by omega
      have l1 : (1 : Int) < a.args.length := by omega
      rw [all_two h2, show decide (a.args.length = 2) = true by simp [h2]] at hN
      simp only [Bool.true_and] at hN
      simp only [e2, tt_eq, imp_self', tf_eq, imp_false', and_true]
      refine callF (isSmall_c a hs) (by simp -implicitDefEqProofs only [go_sem, tmC_eq, l0, getD_at, k0]) ?_
      simp -implicitDefEqProofs only [go_sem, tmC_eq, l0, getD_at, k0]
      refine ⟨fun h3 => ?_, fun h3 => ?_⟩
      · refine callF (hasNames_c a.args[0]) (by simp -implicitDefEqProofs only [go_sem, tmC_eq, l1, getD_at, k1]) ?_
        simp -implicitDefEqProofs only [go_sem, tmC_eq, l1, getD_at, k1]
        refine ⟨fun h4 => ?_, fun h4 => ?_⟩
        · refine callF (hasNames_c a.args[1]) (by simp -implicitDefEqProofs only [go_sem, tmC_eq]) ?_
          simp -implicitDefEqProofs only [go_sem, tmC_eq]
          rw [hN, h3, h4]; rfl
        · rw [hN, h3, h4]; rfl
      · rw [hN, h3]; rfl
    · have e2 : ((a.args.length : Int) == 2) = false := by simp; omega
      simp only [e2, tt_eq, ft_eq, imp_self', imp_false', and_true, true_and, ff_eq]
      rw [hN, show decide (a.args.length = 2) = false by simpa using h2]; rfl
  · rw [h] at hN
    simp only [Bool.false_eq_true, if_false] at hN
    refine callF (isSymbol_c a.name) (by simp -implicitDefEqProofs only [go_sem]) ?_
    simp -implicitDefEqProofs only [go_sem]
    refine ⟨fun h3 => ?_, fun h3 => ?_⟩
    · refine callF (isValidTerm_c a hs) (by simp -implicitDefEqProofs only [go_sem, tmC_eq]) ?_
      simp -implicitDefEqProofs only [go_sem, tmC_eq]
      rw [hN, h3, Bool.true_and]
    · rw [hN, h3, Bool.false_and]
def Tm.none (a : Tm) : Bool := a.name == [] && decide (a.args.length = 0)
theorem isZeroTerm_c (a : Tm) : FC Try.prog 78 [tmD a] [bD a.none] := by
  simp only [tmD, tmC_eq]
  refine FC_of Try.call78 Try.func78 rfl (by kernel_rfl) (by simp only [rd, List.map_cons, List.map_nil, List.length_cons, List.length_nil, Try.ntmps78]; omega) ?_
  simp -implicitDefEqProofs only [go_sem, Try.results78]
  unfold Tm.none
  refine ⟨fun h => ?_, fun h => ?_⟩
  · rw [h, Bool.true_and]
    congr 1
    rw [Bool.eq_iff_iff]; simp
  · rw [h]; rfl
def isQ (n : Int) : Bool := n == 8 || n == 9
def isBi (n : Int) : Bool := n == 5 || n == 6 || n == 7
theorem isQuantifier_c (n : Int) : FC Try.prog 74 [iD n] [bD (isQ n)] := by
  refine FC_of Try.call74 Try.func74 rfl (by kernel_rfl) (by simp only [rd, List.map_cons, List.map_nil, List.length_cons, List.length_nil, Try.ntmps74]; omega) ?_
  simp -implicitDefEqProofs only [go_sem, Try.results74]
  unfold isQ
  refine ⟨fun h => ?_, fun h => ?_⟩ <;> simp [h]
theorem isBinary_c (n : Int) : FC Try.prog 75 [iD n] [bD (isBi n)] := by
  refine FC_of Try.call75 Try.func75 rfl (by kernel_rfl) (by simp only [rd, List.map_cons, List.map_nil, List.length_cons, List.length_nil, Try.ntmps75]; omega) ?_
  simp -implicitDefEqProofs only [go_sem, Try.results75]
  unfold isBi
  refine ⟨fun h => ⟨fun h2 => ?_, fun h2 => ?_⟩, fun h => ?_⟩ <;> simp [*]
end Go.Proofs.Ytgfjbbbkploonaa
/-
  Contracts of functions of the program and of its laws, over plain data.
  Conditions: those that each theorem names.
-/
namespace Go.Proofs.Ytgfjbbbkploonaa
set_option linter.unusedSimpArgs false
set_option linter.unusedVariables false
set_option maxRecDepth 4000
open Go.RowKit
def Fm.nodes : Fm → Nat := Fm.fold fun _ _ _ _ rs => 1 + rs.sum
theorem Fm.nodes_eq (a : Fm) : a.nodes = 1 + (a.parts.map Fm.nodes).sum := Fm.fold_eq _ a
theorem fnodes_wt : ∀ a : Fm, a.nodes ≤ 1 + a.wt := by
  refine fm_ind fun o a v xs ih => ?_
  rw [Fm.nodes_eq, Fm.wt_eq]
  show 1 + (xs.map Fm.nodes).sum ≤ 1 + (a.wt + v.length + xs.length + (xs.map Fm.wt).sum)
  have : (xs.map Fm.nodes).sum ≤ xs.length + (xs.map Fm.wt).sum := by
    induction xs with
    | nil => simp
    | cons x xs ih2 =>
      have h1 := ih x (by simp)
      have h2 := ih2 fun y hy => ih y (by simp [hy])
      simp only [List.map_cons, List.sum_cons, List.length_cons]
      omega
  omega
def sizeF : Fm → Int := Fm.fold fun _ _ _ _ rs => szL 40 1 rs
theorem sizeF_eq (a : Fm) : sizeF a = szL 40 1 (a.parts.map sizeF) := Fm.fold_eq _ a
theorem sizeF_spec : ∀ a : Fm, 1 ≤ sizeF a ∧ sizeF a ≤ a.nodes ∧ (sizeF a ≤ 40 → sizeF a = a.nodes) := by
  refine fm_ind fun o a v xs ih => ?_
  rw [sizeF_eq, Fm.nodes_eq]
  show 1 ≤ szL 40 1 (xs.map sizeF) ∧ szL 40 1 (xs.map sizeF) ≤ ((1 + (xs.map Fm.nodes).sum : Nat) : Int) ∧ _
  obtain ⟨k1, k2, k3⟩ := szL_spec sizeF Fm.nodes 40 xs 1 (by omega) ih
  refine ⟨k2, by omega, fun h => ?_⟩
  have := k3 h
  show szL 40 1 (xs.map sizeF) = _
  rw [this]; show _ = ((1 + (xs.map Fm.nodes).sum : Nat) : Int); omega
theorem sizeF_le (a : Fm) : decide (sizeF a ≤ 40) = decide (a.nodes ≤ 40) := by
  obtain ⟨h1, h2, h3⟩ := sizeF_spec a
  rw [decide_eq_decide]
  exact ⟨fun h => by have := h3 h; omega, fun h => by omega⟩
theorem fparts_wt {a x : Fm} (h : x ∈ a.parts) : x.wt ≤ a.wt := by
  have := Fm.wt_eq a
  have := mem_sum Fm.wt a.parts x h
  omega
theorem args_wt {a x : Tm} (h : x ∈ a.args) : x.wt ≤ a.wt := by
  have := Tm.wt_eq a
  have := mem_sum Tm.wt a.args x h
  omega
theorem atom_wt (a : Fm) : a.atom.wt ≤ a.wt := by have := Fm.wt_eq a; omega
set_option maxHeartbeats 400000 in
theorem sizeOf_of (a : Fm) (hs : a.wt ≤ 1099511627776) (H : ∀ x ∈ a.parts, FC Try.prog 49 [fmD x] [iD (sizeF x)]) : FC Try.prog 49 [fmD a] [iD (sizeF a)] := by
  have hl : a.parts.length ≤ 9223372036854775807 := by rw [Fm.wt_eq] at hs; omega
  have hn := fnodes_wt a
  have hN := a.nodes_eq
  simp only [fmD, fmC_eq]
  refine FC_of Try.call49 Try.func49 rfl (by kernel_rfl) (by simp only [rd, List.map_cons, List.map_nil, List.length_cons, List.length_nil, Try.ntmps49]; omega) ?_
  simp -implicitDefEqProofs only [go_sem, Try.results49]
  refine loop_rule (fun p : Nat × Int => hd [(3, vI p.2), (7, vT (fmS a.parts)), (8, vI a.parts.length), (9, vI p.1)] [] []) (fun p => p.1 ≤ a.parts.length ∧ sizeF a = szL 40 p.2 ((a.parts.drop p.1).map sizeF) ∧ 1 ≤ p.2 ∧ p.2 + dsum Fm.nodes a.parts p.1 ≤ a.nodes) (fun p => a.parts.length - p.1) (0, 1) (weak_hd ?_) ?_ ?_
  · simp -implicitDefEqProofs only [go_sem]
  · exact ⟨by simp, by rw [sizeF_eq]; rfl, by omega, by rw [dsum_zero]; omega⟩
  · intro ⟨k, n⟩ ⟨hk, hr, h1, h2⟩
    simp only at hk hr h1 h2
    by_cases hlt : k < a.parts.length
    · have hd := dsum_at Fm.nodes a.parts k hlt
      obtain ⟨s1, s2, s3⟩ := sizeF_spec a.parts[k]
      rw [List.drop_eq_getElem_cons hlt, List.map_cons, szL] at hr
      simp -implicitDefEqProofs only [go_sem, getD_at, hlt, fmC_eq]
      refine ⟨fun h => ?_, fun h => ?_⟩
      · rw [hr, if_pos (by simpa using h)]
      · refine callF (H a.parts[k] (List.getElem_mem hlt)) (by simp -implicitDefEqProofs only [go_sem, fmC_eq]) ?_
        simp -implicitDefEqProofs only [go_sem, fmC_eq]
        rw [if_neg (by simpa using h)] at hr
        exact ⟨(k + 1, n + sizeF a.parts[k]), ⟨hlt, hr, by simp only; omega, by simp only; omega⟩, by simp only; omega, weak_hd (by simp -implicitDefEqProofs only [go_sem]; rw [wrap_s (by omega), wrap_in (by omega) (by omega)]; exact ⟨rfl, rfl⟩)⟩
    · simp -implicitDefEqProofs only [go_sem, hlt]
      rw [hr, List.drop_of_length_le (by omega)]; rfl
theorem sizeOf_c : ∀ a : Fm, a.wt ≤ 1099511627776 → FC Try.prog 49 [fmD a] [iD (sizeF a)] :=
  fm_ind fun o a v xs ih hs => sizeOf_of (.mk o a v xs) hs fun x hx => ih x hx (Nat.le_trans (fparts_wt (a := .mk o a v xs) hx) hs)
/-- The size as the reference counts it. -/
def mnL (most : Int) : Int → List (Int → Int) → Int
  | n, [] => n
  | n, r :: rs => if n ≤ most then mnL most (n + r (most - n)) rs else n
theorem mnL_spec {α : Type} (f : α → Int → Int) (g : α → Nat) (most : Int) : ∀ (xs : List α) (n : Int), 0 ≤ n → (∀ x ∈ xs, ∀ m, 0 ≤ m → 1 ≤ f x m ∧ f x m ≤ g x ∧ (f x m ≤ m → f x m = g x)) → mnL most n (xs.map f) ≤ n + (xs.map g).sum ∧ n ≤ mnL most n (xs.map f) ∧ (mnL most n (xs.map f) ≤ most → mnL most n (xs.map f) = n + (xs.map g).sum)
  | [], n, _, _ => by simp [mnL]
  | x :: xs, n, hn, h => by
    simp only [List.map_cons, mnL, List.sum_cons]
    split
    · obtain ⟨h1, h2, h3⟩ := h x (by simp) (most - n) (by omega)
      obtain ⟨k1, k2, k3⟩ := mnL_spec f g most xs (n + f x (most - n)) (by omega) fun y hy => h y (by simp [hy])
      refine ⟨by omega, by omega, fun hh => ?_⟩
      have := k3 hh
      have : f x (most - n) = g x := h3 (by omega)
      omega
    · refine ⟨by omega, by omega, fun hh => by omega⟩
def manyT : Tm → Int → Int := Tm.fold fun _ _ rs m => mnL m 1 rs
theorem manyT_eq (a : Tm) (m : Int) : manyT a m = mnL m 1 (a.args.map manyT) := congrFun (Tm.fold_eq _ a) m
theorem manyT_spec : ∀ (a : Tm) (m : Int), 0 ≤ m → 1 ≤ manyT a m ∧ manyT a m ≤ a.nodes ∧ (manyT a m ≤ m → manyT a m = a.nodes) := by
  refine tm_ind fun b0 xs ih m hm => ?_
  rw [manyT_eq, Tm.nodes_eq]
  show 1 ≤ mnL m 1 (xs.map manyT) ∧ mnL m 1 (xs.map manyT) ≤ ((1 + (xs.map Tm.nodes).sum : Nat) : Int) ∧ (mnL m 1 (xs.map manyT) ≤ m → mnL m 1 (xs.map manyT) = ((1 + (xs.map Tm.nodes).sum : Nat) : Int))
  obtain ⟨k1, k2, k3⟩ := mnL_spec manyT Tm.nodes m xs 1 (by omega) ih
  refine ⟨k2, by omega, fun h => ?_⟩
  have := k3 h
  omega
theorem manyT_le (a : Tm) (m : Nat) : decide (manyT a m ≤ m) = decide (a.nodes ≤ m) := by
  obtain ⟨h1, h2, h3⟩ := manyT_spec a m (by omega)
  rw [decide_eq_decide]
  exact ⟨fun h => by have := h3 h; omega, fun h => by omega⟩
set_option maxHeartbeats 400000 in
theorem l2Many_of (a : Tm) (hs : a.wt ≤ 1099511627776) (H : ∀ x ∈ a.args, ∀ m : Int, 0 ≤ m → m ≤ 1099511627776 → FC Try.prog 129 [tmD x, iD m] [iD (manyT x m)]) (m : Int) (h0 : 0 ≤ m) (h1 : m ≤ 1099511627776) : FC Try.prog 129 [tmD a, iD m] [iD (manyT a m)] := by
  have hl : a.args.length ≤ 9223372036854775807 := by rw [Tm.wt_eq] at hs; omega
  have hn := nodes_wt a
  have hN := a.nodes_eq
  simp only [tmD, tmC_eq]
  refine FC_of Try.call129 Try.func129 rfl (by kernel_rfl) (by simp only [rd, List.map_cons, List.map_nil, List.length_cons, List.length_nil, Try.ntmps129]; omega) ?_
  simp -implicitDefEqProofs only [go_sem, Try.results129]
  refine loop_rule (fun p : Nat × Int => hd [(1, vI m), (2, .one (.bx 2 0)), (5, vI p.2), (6, vI p.1)] [(2, [.t (.str a.name), .t (tmS a.args)])] []) (fun p => p.1 ≤ a.args.length ∧ manyT a m = mnL m p.2 ((a.args.drop p.1).map manyT) ∧ 1 ≤ p.2 ∧ p.2 + dsum Tm.nodes a.args p.1 ≤ a.nodes) (fun p => a.args.length - p.1) (0, 1) (weak_hd ?_) ?_ ?_
  · simp -implicitDefEqProofs only [go_sem]
  · exact ⟨by simp, by rw [manyT_eq]; rfl, by omega, by rw [dsum_zero]; omega⟩
  · intro ⟨k, n⟩ ⟨hk, hr, h2, h3⟩
    simp only at hk hr h2 h3
    by_cases hlt : k < a.args.length
    · have hd := dsum_at Tm.nodes a.args k hlt
      rw [List.drop_eq_getElem_cons hlt, List.map_cons, mnL] at hr
      simp -implicitDefEqProofs only [go_sem, getD_at, hlt, tmC_eq]
      refine ⟨fun h => ?_, fun h => ?_⟩
      · have hle : n ≤ m := by simpa using h
        obtain ⟨s1, s2, s3⟩ := manyT_spec a.args[k] (m - n) (by omega)
        rw [wrap_in (n := m - n) (by omega) (by omega)]
        refine callF (H a.args[k] (List.getElem_mem hlt) (m - n) (by omega) (by omega)) (by simp -implicitDefEqProofs only [go_sem, tmC_eq]) ?_
        simp -implicitDefEqProofs only [go_sem, tmC_eq]
        rw [if_pos hle] at hr
        exact ⟨(k + 1, n + manyT a.args[k] (m - n)), ⟨hlt, hr, by simp only; omega, by simp only; omega⟩, by simp only; omega, weak_hd (by simp -implicitDefEqProofs only [go_sem]; rw [wrap_s (by omega), wrap_in (by omega) (by omega)]; exact ⟨rfl, rfl⟩)⟩
      · rw [hr, if_neg (by simpa using h)]
    · simp -implicitDefEqProofs only [go_sem, hlt]
      rw [hr, List.drop_of_length_le (by omega)]; rfl
theorem l2Many_c : ∀ a : Tm, a.wt ≤ 1099511627776 → ∀ m : Int, 0 ≤ m → m ≤ 1099511627776 → FC Try.prog 129 [tmD a, iD m] [iD (manyT a m)] :=
  tm_ind fun b0 xs ih hs => l2Many_of (.mk b0 xs) hs fun x hx => ih x hx (Nat.le_trans (args_wt (a := .mk b0 xs) hx) hs)
def manyF : Fm → Int → Int := Fm.fold fun _ _ _ _ rs m => mnL m 1 rs
theorem manyF_eq (a : Fm) (m : Int) : manyF a m = mnL m 1 (a.parts.map manyF) := congrFun (Fm.fold_eq _ a) m
theorem manyF_spec : ∀ (a : Fm) (m : Int), 0 ≤ m → 1 ≤ manyF a m ∧ manyF a m ≤ a.nodes ∧ (manyF a m ≤ m → manyF a m = a.nodes) := by
  refine fm_ind fun b0 b1 b2 xs ih m hm => ?_
  rw [manyF_eq, Fm.nodes_eq]
  show 1 ≤ mnL m 1 (xs.map manyF) ∧ mnL m 1 (xs.map manyF) ≤ ((1 + (xs.map Fm.nodes).sum : Nat) : Int) ∧ (mnL m 1 (xs.map manyF) ≤ m → mnL m 1 (xs.map manyF) = ((1 + (xs.map Fm.nodes).sum : Nat) : Int))
  obtain ⟨k1, k2, k3⟩ := mnL_spec manyF Fm.nodes m xs 1 (by omega) ih
  refine ⟨k2, by omega, fun h => ?_⟩
  have := k3 h
  omega
theorem manyF_le (a : Fm) (m : Nat) : decide (manyF a m ≤ m) = decide (a.nodes ≤ m) := by
  obtain ⟨h1, h2, h3⟩ := manyF_spec a m (by omega)
  rw [decide_eq_decide]
  exact ⟨fun h => by have := h3 h; omega, fun h => by omega⟩
set_option maxHeartbeats 400000 in
theorem l8Many_of (a : Fm) (hs : a.wt ≤ 1099511627776) (H : ∀ x ∈ a.parts, ∀ m : Int, 0 ≤ m → m ≤ 1099511627776 → FC Try.prog 53 [fmD x, iD m] [iD (manyF x m)]) (m : Int) (h0 : 0 ≤ m) (h1 : m ≤ 1099511627776) : FC Try.prog 53 [fmD a, iD m] [iD (manyF a m)] := by
  have hl : a.parts.length ≤ 9223372036854775807 := by rw [Fm.wt_eq] at hs; omega
  have hn := fnodes_wt a
  have hN := a.nodes_eq
  simp only [fmD, fmC_eq]
  refine FC_of Try.call53 Try.func53 rfl (by kernel_rfl) (by simp only [rd, List.map_cons, List.map_nil, List.length_cons, List.length_nil, Try.ntmps53]; omega) ?_
  simp -implicitDefEqProofs only [go_sem, Try.results53]
  refine loop_rule (fun p : Nat × Int => hd [(1, vI m), (2, .one (.bx 2 0)), (5, vI p.2), (6, vI p.1)] [(2, [.t (.int .i64 a.op), .t (.str a.atom.name), .t (tmS a.atom.args), .t (.str a.var), .t (fmS a.parts)])] []) (fun p => p.1 ≤ a.parts.length ∧ manyF a m = mnL m p.2 ((a.parts.drop p.1).map manyF) ∧ 1 ≤ p.2 ∧ p.2 + dsum Fm.nodes a.parts p.1 ≤ a.nodes) (fun p => a.parts.length - p.1) (0, 1) (weak_hd ?_) ?_ ?_
  · simp -implicitDefEqProofs only [go_sem]
  · exact ⟨by simp, by rw [manyF_eq]; rfl, by omega, by rw [dsum_zero]; omega⟩
  · intro ⟨k, n⟩ ⟨hk, hr, h2, h3⟩
    simp only at hk hr h2 h3
    by_cases hlt : k < a.parts.length
    · have hd := dsum_at Fm.nodes a.parts k hlt
      rw [List.drop_eq_getElem_cons hlt, List.map_cons, mnL] at hr
      simp -implicitDefEqProofs only [go_sem, getD_at, hlt, fmC_eq]
      refine ⟨fun h => ?_, fun h => ?_⟩
      · have hle : n ≤ m := by simpa using h
        obtain ⟨s1, s2, s3⟩ := manyF_spec a.parts[k] (m - n) (by omega)
        rw [wrap_in (n := m - n) (by omega) (by omega)]
        refine callF (H a.parts[k] (List.getElem_mem hlt) (m - n) (by omega) (by omega)) (by simp -implicitDefEqProofs only [go_sem, fmC_eq]) ?_
        simp -implicitDefEqProofs only [go_sem, fmC_eq]
        rw [if_pos hle] at hr
        exact ⟨(k + 1, n + manyF a.parts[k] (m - n)), ⟨hlt, hr, by simp only; omega, by simp only; omega⟩, by simp only; omega, weak_hd (by simp -implicitDefEqProofs only [go_sem]; rw [wrap_s (by omega), wrap_in (by omega) (by omega)]; exact ⟨rfl, rfl⟩)⟩
      · rw [hr, if_neg (by simpa using h)]
    · simp -implicitDefEqProofs only [go_sem, hlt]
      rw [hr, List.drop_of_length_le (by omega)]; rfl
theorem l8Many_c : ∀ a : Fm, a.wt ≤ 1099511627776 → ∀ m : Int, 0 ≤ m → m ≤ 1099511627776 → FC Try.prog 53 [fmD a, iD m] [iD (manyF a m)] :=
  fm_ind fun b0 b1 b2 xs ih hs => l8Many_of (.mk b0 b1 b2 xs) hs fun x hx => ih x hx (Nat.le_trans (fparts_wt (a := .mk b0 b1 b2 xs) hx) hs)
end Go.Proofs.Ytgfjbbbkploonaa
/-
  Contracts of functions of the program and of its laws, over plain data.
  Conditions: those that each theorem names.
-/
namespace Go.Proofs.Ytgfjbbbkploonaa
set_option linter.unusedSimpArgs false
set_option linter.unusedVariables false
set_option maxRecDepth 4000
open Go.RowKit
set_option maxHeartbeats 400000 in
theorem l2Depth_of (a : Tm) (hs : a.wt ≤ 1099511627776) (H : ∀ x ∈ a.args, FC Try.prog 130 [tmD x] [iD x.depth]) : FC Try.prog 130 [tmD a] [iD a.depth] := by
  have hl : a.args.length ≤ 9223372036854775807 := by rw [Tm.wt_eq] at hs; omega
  have hn := nodes_wt a
  have hdn := depth_nodes a
  have hD := a.depth_eq
  simp only [tmD, tmC_eq]
  refine FC_of Try.call130 Try.func130 rfl (by kernel_rfl) (by simp only [rd, List.map_cons, List.map_nil, List.length_cons, List.length_nil, Try.ntmps130]; omega) ?_
  simp -implicitDefEqProofs only [go_sem, Try.results130]
  refine loop_rule (fun p : Nat × Nat => hd [(1, .one (.bx 1 0)), (3, vI p.2), (4, vI p.1)] [(1, [.t (.str a.name), .t (tmS a.args)])] []) (fun p => p.1 ≤ a.args.length ∧ a.depth = ((a.args.drop p.1).map Tm.depth).foldl max p.2 + 1) (fun p => a.args.length - p.1) (0, 0) (weak_hd ?_) ?_ ?_
  · simp -implicitDefEqProofs only [go_sem]
  · exact ⟨by simp, hD⟩
  · intro ⟨k, n⟩ ⟨hk, hr⟩
    simp only at hk hr
    by_cases hlt : k < a.args.length
    · rw [List.drop_eq_getElem_cons hlt, List.map_cons, List.foldl_cons] at hr
      simp -implicitDefEqProofs only [go_sem, getD_at, hlt, tmC_eq]
      refine callF (H a.args[k] (List.getElem_mem hlt)) (by simp -implicitDefEqProofs only [go_sem, tmC_eq]) ?_
      simp -implicitDefEqProofs only [go_sem, tmC_eq]
      refine callF (l1Most_c n a.args[k].depth) (by simp -implicitDefEqProofs only [go_sem, tmC_eq]) ?_
      simp -implicitDefEqProofs only [go_sem, tmC_eq]
      exact ⟨(k + 1, max n a.args[k].depth), ⟨hlt, hr⟩, by simp only; omega, weak_hd (by simp -implicitDefEqProofs only [go_sem]; rw [wrap_s (by omega)]; exact ⟨by congr 1; omega, rfl⟩)⟩
    · simp -implicitDefEqProofs only [go_sem, hlt]
      rw [List.drop_of_length_le (by omega)] at hr
      simp only [List.map_nil, List.foldl_nil] at hr
      rw [hr, wrap_s (by omega)]
theorem l2Depth_c : ∀ a : Tm, a.wt ≤ 1099511627776 → FC Try.prog 130 [tmD a] [iD a.depth] :=
  tm_ind fun n xs ih hs => l2Depth_of (.mk n xs) hs fun x hx => ih x hx (Nat.le_trans (args_wt (a := .mk n xs) hx) hs)
theorem l2Fits_c (a : Tm) (hs : a.wt ≤ 1099511627776) : FC Try.prog 118 [tmD a] [bD (smallT a)] := by
  simp only [tmD, tmC_eq]
  refine FC_of Try.call118 Try.func118 rfl (by kernel_rfl) (by simp only [rd, List.map_cons, List.map_nil, List.length_cons, List.length_nil, Try.ntmps118]; omega) ?_
  simp -implicitDefEqProofs only [go_sem, Try.results118]
  refine callF (l2Many_c a hs 30 (by omega) (by omega)) (by simp -implicitDefEqProofs only [go_sem, tmC_eq]) ?_
  simp -implicitDefEqProofs only [go_sem, tmC_eq]
  rw [show decide (manyT a 30 ≤ 30) = decide (a.nodes ≤ 30) from manyT_le a 30]
  refine ⟨fun h => ?_, fun h => ?_⟩
  · refine callF (l2Depth_c a hs) (by simp -implicitDefEqProofs only [go_sem, tmC_eq]) ?_
    simp -implicitDefEqProofs only [go_sem, tmC_eq]
    rw [smallT, h, Bool.true_and]
    congr 1
    rw [decide_eq_decide]; omega
  · rw [smallT, h]; rfl
theorem l2Nodes_of (a : Tm) (H : ∀ x ∈ a.args, FC Try.prog 119 [tmD x] [bD x.names]) : FC Try.prog 119 [tmD a] [bD a.names] := by
  refine FC_wf (fun hw => ?_) Try.call119
  have hl : a.args.length ≤ 9223372036854775807 := by simp only [tmD, tmC_eq] at hw; simp [wfDs, wfT, wfTs] at hw; exact hw.2.1
  have hN := a.names_eq
  simp only [tmD, tmC_eq]
  refine FC_of Try.call119 Try.func119 rfl (by kernel_rfl) (by simp only [rd, List.map_cons, List.map_nil, List.length_cons, List.length_nil, Try.ntmps119]; omega) ?_
  simp -implicitDefEqProofs only [go_sem, Try.results119]
  refine callF (l2Var_c a.name) (by simp -implicitDefEqProofs only [go_sem]) ?_
  simp -implicitDefEqProofs only [go_sem]
  refine ⟨fun h => ?_, fun h => ?_⟩
  · rw [hN, if_pos h]
    congr 1
    rw [Bool.eq_iff_iff]; simp
  · rw [h] at hN
    simp only [Bool.false_eq_true, if_false] at hN
    refine callF (l2Symbol_c a.name) (by simp -implicitDefEqProofs only [go_sem]) ?_
    simp -implicitDefEqProofs only [go_sem]
    by_cases hy : symOk a.name = true
    · by_cases h4 : a.args.length ≤ 4
      · rw [hy, show decide (a.args.length ≤ 4) = true by simpa using h4, Bool.true_and, Bool.true_and] at hN
        refine ⟨fun _ => ⟨fun h => by simp at h; omega, fun _ => ?_⟩, fun h => by simp [hy] at h⟩
        refine loop_rule (fun k : Nat => hd [(1, .one (.bx 1 0)), (3, vI k)] [(1, [.t (.str a.name), .t (tmS a.args)])] []) (fun k => k ≤ a.args.length ∧ a.names = (a.args.drop k).all Tm.names) (fun k => a.args.length - k) 0 (weak_hd ?_) ?_ ?_
        · simp -implicitDefEqProofs only [go_sem]
        · exact ⟨by simp, hN⟩
        · intro k ⟨hk, hr⟩
          by_cases hlt : k < a.args.length
          · rw [List.drop_eq_getElem_cons hlt, List.all_cons] at hr
            simp -implicitDefEqProofs only [go_sem, getD_at, hlt, tmC_eq]
            refine callF (H a.args[k] (List.getElem_mem hlt)) (by simp -implicitDefEqProofs only [go_sem, tmC_eq]) ?_
            simp -implicitDefEqProofs only [go_sem, tmC_eq]
            refine ⟨fun h => ?_, fun h => ⟨k + 1, ⟨hlt, ?_⟩, by omega, weak_hd (by simp -implicitDefEqProofs only [go_sem]; rw [wrap_s (by omega)])⟩⟩
            · rw [hr, show a.args[k].names = false by simpa using h]; rfl
            · rw [hr, show a.args[k].names = true by simpa using h]; rfl
          · simp -implicitDefEqProofs only [go_sem, hlt]
            rw [hr, List.drop_of_length_le (by omega)]; rfl
      · refine ⟨fun _ => ⟨fun _ => ?_, fun h => by simp at h; omega⟩, fun h => by simp [hy] at h⟩
        rw [hN, show decide (a.args.length ≤ 4) = false by simpa using h4, Bool.and_false]; rfl
    · have hy' : symOk a.name = false := by simpa using hy
      refine ⟨fun h => by simp [hy'] at h, fun _ => ?_⟩
      rw [hN, hy']; rfl
theorem l2Nodes_c : ∀ a : Tm, FC Try.prog 119 [tmD a] [bD a.names] := tm_ind fun n xs ih => l2Nodes_of (.mk n xs) ih
theorem l2Good_c (a : Tm) (hs : a.wt ≤ 1099511627776) : FC Try.prog 121 [tmD a] [bD a.good] := by
  simp only [tmD, tmC_eq]
  refine FC_of Try.call121 Try.func121 rfl (by kernel_rfl) (by simp only [rd, List.map_cons, List.map_nil, List.length_cons, List.length_nil, Try.ntmps121]; omega) ?_
  simp -implicitDefEqProofs only [go_sem, Try.results121]
  refine callF (l2Fits_c a hs) (by simp -implicitDefEqProofs only [go_sem, tmC_eq]) ?_
  simp -implicitDefEqProofs only [go_sem, tmC_eq]
  refine ⟨fun h => ?_, fun h => ?_⟩
  · refine callF (l2Nodes_c a) (by simp -implicitDefEqProofs only [go_sem, tmC_eq]) ?_
    simp -implicitDefEqProofs only [go_sem, tmC_eq]
    rw [Tm.good, h, Bool.true_and]
  · rw [Tm.good, h, Bool.false_and]
theorem l2Atom_c (a : Tm) (hs : a.wt ≤ 1099511627776) : FC Try.prog 103 [tmD a] [bD a.atomOk] := by
  have hN : a.atomOk = if (a.name == [61]) = true then decide (a.args.length = 2) && smallT a && a.args.all Tm.names else symOk a.name && a.good := rfl
  simp only [tmD, tmC_eq]
  refine FC_of Try.call103 Try.func103 rfl (by kernel_rfl) (by simp only [rd, List.map_cons, List.map_nil, List.length_cons, List.length_nil, Try.ntmps103]; omega) ?_
  simp -implicitDefEqProofs only [go_sem, Try.results103]
  refine ⟨fun h => ?_, fun h => ?_⟩
  · rw [if_pos h] at hN
    by_cases h2 : a.args.length = 2
    · have k0 : 0 < a.args.length := by omega
      have k1 : 1 < a.args.length := by omega
      have e2 : ((a.args.length : Int) == 2) = true := by simp [h2]
      have l0 : (0 : Int) < a.args.length := by omega
      have l1 : (1 : Int) < a.args.length := by omega
      rw [all_two h2, show decide (a.args.length = 2) = true by simp [h2]] at hN
      simp only [Bool.true_and] at hN
      simp only [e2, tt_eq, imp_self', tf_eq, imp_false', and_true]
      refine callF (l2Fits_c a hs) (by simp -implicitDefEqProofs only [go_sem, tmC_eq, l0, getD_at, k0]) ?_
      simp -implicitDefEqProofs only [go_sem, tmC_eq, l0, getD_at, k0]
      refine ⟨fun h3 => ?_, fun h3 => ?_⟩
      · refine callF (l2Nodes_c a.args[0]) (by simp -implicitDefEqProofs only [go_sem, tmC_eq, l1, getD_at, k1]) ?_
        simp -implicitDefEqProofs only [go_sem, tmC_eq, l1, getD_at, k1]
        refine ⟨fun h4 => ?_, fun h4 => ?_⟩
        · refine callF (l2Nodes_c a.args[1]) (by simp -implicitDefEqProofs only [go_sem, tmC_eq]) ?_
          simp -implicitDefEqProofs only [go_sem, tmC_eq]
          rw [hN, h3, h4]; rfl
        · rw [hN, h3, h4]; rfl
      · rw [hN, h3]; rfl
    · have e2 : ((a.args.length : Int) == 2) = false := by simp; omega
      simp only [e2, tt_eq, ft_eq, imp_self', imp_false', and_true, true_and, ff_eq]
      rw [hN, show decide (a.args.length = 2) = false by simpa using h2]; rfl
  · rw [h] at hN
    simp only [Bool.false_eq_true, if_false] at hN
    refine callF (l2Symbol_c a.name) (by simp -implicitDefEqProofs only [go_sem]) ?_
    simp -implicitDefEqProofs only [go_sem]
    refine ⟨fun h3 => ?_, fun h3 => ?_⟩
    · refine callF (l2Good_c a hs) (by simp -implicitDefEqProofs only [go_sem, tmC_eq]) ?_
      simp -implicitDefEqProofs only [go_sem, tmC_eq]
      rw [hN, h3, Bool.true_and]
    · rw [hN, h3, Bool.false_and]
theorem l8None_c (a : Tm) : FC Try.prog 102 [tmD a] [bD a.none] := by
  simp only [tmD, tmC_eq]
  refine FC_of Try.call102 Try.func102 rfl (by kernel_rfl) (by simp only [rd, List.map_cons, List.map_nil, List.length_cons, List.length_nil, Try.ntmps102]; omega) ?_
  simp -implicitDefEqProofs only [go_sem, Try.results102]
  unfold Tm.none
  refine ⟨fun h => ?_, fun h => ?_⟩
  · rw [h, Bool.true_and]
    congr 1
    rw [Bool.eq_iff_iff]; simp
  · rw [h]; rfl
/-- A formula without its parts has a form. -/
def Fm.here (f : Fm) : Bool :=
  if (f.op == 1 || f.op == 2) = true then decide (f.parts.length = 0) && f.atom.none && (f.var == [])
  else if (f.op == 3) = true then decide (f.parts.length = 0) && f.atom.atomOk && (f.var == [])
  else if (f.op == 4) = true then decide (f.parts.length = 1) && f.atom.none && (f.var == [])
  else if isBi f.op = true then decide (f.parts.length = 2) && f.atom.none && (f.var == [])
  else if isQ f.op = true then decide (f.parts.length = 1) && f.atom.none && varOk f.var
  else false
theorem len_beq (n m : Nat) : ((n : Int) == (m : Int)) = decide (n = m) := by
  rw [Bool.eq_iff_iff]; simp only [beq_iff_eq, decide_eq_true_eq]; omega
theorem len_bne (n m : Nat) : ((n : Int) != (m : Int)) = !decide (n = m) := by
  rw [bne, len_beq]
theorem op_cases (o : Int) : o = 1 ∨ o = 2 ∨ o = 3 ∨ o = 4 ∨ o = 5 ∨ o = 6 ∨ o = 7 ∨ o = 8 ∨ o = 9 ∨ (o ≠ 1 ∧ o ≠ 2 ∧ o ≠ 3 ∧ o ≠ 4 ∧ o ≠ 5 ∧ o ≠ 6 ∧ o ≠ 7 ∧ o ≠ 8 ∧ o ≠ 9) := by omega
set_option maxHeartbeats 4000000 in
theorem l8Form_c (f : Fm) (hs : f.wt ≤ 1099511627776) : FC Try.prog 81 [fmD f] [bD f.here] := by
  obtain ⟨o, a, v, ps⟩ := f
  have ha : a.wt ≤ 1099511627776 := Nat.le_trans (atom_wt (.mk o a v ps)) hs
  have e0 : ((ps.length : Int) == 0) = decide (ps.length = 0) := len_beq _ 0
  have e1 : ((ps.length : Int) == 1) = decide (ps.length = 1) := len_beq _ 1
  have e2 : ((ps.length : Int) == 2) = decide (ps.length = 2) := len_beq _ 2
  rcases op_cases o with rfl | rfl | rfl | rfl | rfl | rfl | rfl | rfl | rfl | ⟨n1, n2, n3, n4, n5, n6, n7, n8, n9⟩
  · have hN : Fm.here (.mk 1 a v ps) = (decide (ps.length = 0) && a.none && (v == [])) := rfl
    simp only [fmD, fmC_eq, Fm.op, Fm.atom, Fm.var, Fm.parts]
    refine FC_of Try.call81 Try.func81 rfl (by kernel_rfl) (by simp only [rd, List.map_cons, List.map_nil, List.length_cons, List.length_nil, Try.ntmps81]; omega) ?_
    simp -implicitDefEqProofs only [go_sem, Try.results81]
    simp only [e0]
    refine ⟨fun h => ?_, fun h => ?_⟩
    · refine callF (l8None_c a) (by simp -implicitDefEqProofs only [go_sem, tmC_eq]) ?_
      simp -implicitDefEqProofs only [go_sem, tmC_eq]
      refine ⟨fun h1 => ?_, fun h1 => ?_⟩
      · rw [hN, h, h1]; rfl
      · rw [hN, h, h1]; rfl
    · rw [hN, h]; rfl
  · have hN : Fm.here (.mk 2 a v ps) = (decide (ps.length = 0) && a.none && (v == [])) := rfl
    simp only [fmD, fmC_eq, Fm.op, Fm.atom, Fm.var, Fm.parts]
    refine FC_of Try.call81 Try.func81 rfl (by kernel_rfl) (by simp only [rd, List.map_cons, List.map_nil, List.length_cons, List.length_nil, Try.ntmps81]; omega) ?_
    simp -implicitDefEqProofs only [go_sem, Try.results81]
    simp only [e0]
    refine ⟨fun h => ?_, fun h => ?_⟩
    · refine callF (l8None_c a) (by simp -implicitDefEqProofs only [go_sem, tmC_eq]) ?_
      simp -implicitDefEqProofs only [go_sem, tmC_eq]
      refine ⟨fun h1 => ?_, fun h1 => ?_⟩
      · rw [hN, h, h1]; rfl
      · rw [hN, h, h1]; rfl
    · rw [hN, h]; rfl
  · have hN : Fm.here (.mk 3 a v ps) = (decide (ps.length = 0) && a.atomOk && (v == [])) := rfl
    simp only [fmD, fmC_eq, Fm.op, Fm.atom, Fm.var, Fm.parts]
    refine FC_of Try.call81 Try.func81 rfl (by kernel_rfl) (by simp only [rd, List.map_cons, List.map_nil, List.length_cons, List.length_nil, Try.ntmps81]; omega) ?_
    simp -implicitDefEqProofs only [go_sem, Try.results81]
    simp only [e0]
    refine ⟨fun h => ?_, fun h => ?_⟩
    · refine callF (l2Atom_c a ha) (by simp -implicitDefEqProofs only [go_sem, tmC_eq]) ?_
      simp -implicitDefEqProofs only [go_sem, tmC_eq]
      refine ⟨fun h1 => ?_, fun h1 => ?_⟩
      · rw [hN, h, h1]; rfl
      · rw [hN, h, h1]; rfl
    · rw [hN, h]; rfl
  · have hN : Fm.here (.mk 4 a v ps) = (decide (ps.length = 1) && a.none && (v == [])) := rfl
    simp only [fmD, fmC_eq, Fm.op, Fm.atom, Fm.var, Fm.parts]
    refine FC_of Try.call81 Try.func81 rfl (by kernel_rfl) (by simp only [rd, List.map_cons, List.map_nil, List.length_cons, List.length_nil, Try.ntmps81]; omega) ?_
    simp -implicitDefEqProofs only [go_sem, Try.results81]
    simp only [e1]
    refine ⟨fun h => ?_, fun h => ?_⟩
    · refine callF (l8None_c a) (by simp -implicitDefEqProofs only [go_sem, tmC_eq]) ?_
      simp -implicitDefEqProofs only [go_sem, tmC_eq]
      refine ⟨fun h1 => ?_, fun h1 => ?_⟩
      · rw [hN, h, h1]; rfl
      · rw [hN, h, h1]; rfl
    · rw [hN, h]; rfl
  · have hN : Fm.here (.mk 5 a v ps) = (decide (ps.length = 2) && a.none && (v == [])) := rfl
    simp only [fmD, fmC_eq, Fm.op, Fm.atom, Fm.var, Fm.parts]
    refine FC_of Try.call81 Try.func81 rfl (by kernel_rfl) (by simp only [rd, List.map_cons, List.map_nil, List.length_cons, List.length_nil, Try.ntmps81]; omega) ?_
    simp -implicitDefEqProofs only [go_sem, Try.results81]
    simp only [e2]
    refine ⟨fun h => ?_, fun h => ?_⟩
    · refine callF (l8None_c a) (by simp -implicitDefEqProofs only [go_sem, tmC_eq]) ?_
      simp -implicitDefEqProofs only [go_sem, tmC_eq]
      refine ⟨fun h1 => ?_, fun h1 => ?_⟩
      · rw [hN, h, h1]; rfl
      · rw [hN, h, h1]; rfl
    · rw [hN, h]; rfl
  · have hN : Fm.here (.mk 6 a v ps) = (decide (ps.length = 2) && a.none && (v == [])) := rfl
    simp only [fmD, fmC_eq, Fm.op, Fm.atom, Fm.var, Fm.parts]
    refine FC_of Try.call81 Try.func81 rfl (by kernel_rfl) (by simp only [rd, List.map_cons, List.map_nil, List.length_cons, List.length_nil, Try.ntmps81]; omega) ?_
    simp -implicitDefEqProofs only [go_sem, Try.results81]
    simp only [e2]
    refine ⟨fun h => ?_, fun h => ?_⟩
    · refine callF (l8None_c a) (by simp -implicitDefEqProofs only [go_sem, tmC_eq]) ?_
      simp -implicitDefEqProofs only [go_sem, tmC_eq]
      refine ⟨fun h1 => ?_, fun h1 => ?_⟩
      · rw [hN, h, h1]; rfl
      · rw [hN, h, h1]; rfl
    · rw [hN, h]; rfl
  · have hN : Fm.here (.mk 7 a v ps) = (decide (ps.length = 2) && a.none && (v == [])) := rfl
    simp only [fmD, fmC_eq, Fm.op, Fm.atom, Fm.var, Fm.parts]
    refine FC_of Try.call81 Try.func81 rfl (by kernel_rfl) (by simp only [rd, List.map_cons, List.map_nil, List.length_cons, List.length_nil, Try.ntmps81]; omega) ?_
    simp -implicitDefEqProofs only [go_sem, Try.results81]
    simp only [e2]
    refine ⟨fun h => ?_, fun h => ?_⟩
    · refine callF (l8None_c a) (by simp -implicitDefEqProofs only [go_sem, tmC_eq]) ?_
      simp -implicitDefEqProofs only [go_sem, tmC_eq]
      refine ⟨fun h1 => ?_, fun h1 => ?_⟩
      · rw [hN, h, h1]; rfl
      · rw [hN, h, h1]; rfl
    · rw [hN, h]; rfl
  · have hN : Fm.here (.mk 8 a v ps) = (decide (ps.length = 1) && a.none && varOk v) := rfl
    simp only [fmD, fmC_eq, Fm.op, Fm.atom, Fm.var, Fm.parts]
    refine FC_of Try.call81 Try.func81 rfl (by kernel_rfl) (by simp only [rd, List.map_cons, List.map_nil, List.length_cons, List.length_nil, Try.ntmps81]; omega) ?_
    simp -implicitDefEqProofs only [go_sem, Try.results81]
    simp only [e1]
    refine ⟨fun h => ?_, fun h => ?_⟩
    · refine callF (l8None_c a) (by simp -implicitDefEqProofs only [go_sem, tmC_eq]) ?_
      simp -implicitDefEqProofs only [go_sem, tmC_eq]
      refine ⟨fun h1 => ?_, fun h1 => ?_⟩
      · refine callF (l2Var_c v) (by simp -implicitDefEqProofs only [go_sem]) ?_
        simp -implicitDefEqProofs only [go_sem]
        rw [hN, h, h1]; rfl
      · rw [hN, h, h1]; rfl
    · rw [hN, h]; rfl
  · have hN : Fm.here (.mk 9 a v ps) = (decide (ps.length = 1) && a.none && varOk v) := rfl
    simp only [fmD, fmC_eq, Fm.op, Fm.atom, Fm.var, Fm.parts]
    refine FC_of Try.call81 Try.func81 rfl (by kernel_rfl) (by simp only [rd, List.map_cons, List.map_nil, List.length_cons, List.length_nil, Try.ntmps81]; omega) ?_
    simp -implicitDefEqProofs only [go_sem, Try.results81]
    simp only [e1]
    refine ⟨fun h => ?_, fun h => ?_⟩
    · refine callF (l8None_c a) (by simp -implicitDefEqProofs only [go_sem, tmC_eq]) ?_
      simp -implicitDefEqProofs only [go_sem, tmC_eq]
      refine ⟨fun h1 => ?_, fun h1 => ?_⟩
      · refine callF (l2Var_c v) (by simp -implicitDefEqProofs only [go_sem]) ?_
        simp -implicitDefEqProofs only [go_sem]
        rw [hN, h, h1]; rfl
      · rw [hN, h, h1]; rfl
    · rw [hN, h]; rfl
  · have hN : Fm.here (.mk o a v ps) = false := by simp [Fm.here, isBi, isQ, Fm.op, *]
    have f1 : (o == 1) = false := by simpa using n1
    have f2 : (o == 2) = false := by simpa using n2
    have f3 : (o == 3) = false := by simpa using n3
    have f4 : (o == 4) = false := by simpa using n4
    have f5 : (o == 5) = false := by simpa using n5
    have f6 : (o == 6) = false := by simpa using n6
    have f7 : (o == 7) = false := by simpa using n7
    have f8 : (o == 8) = false := by simpa using n8
    have f9 : (o == 9) = false := by simpa using n9
    simp only [fmD, fmC_eq, Fm.op, Fm.atom, Fm.var, Fm.parts]
    refine FC_of Try.call81 Try.func81 rfl (by kernel_rfl) (by simp only [rd, List.map_cons, List.map_nil, List.length_cons, List.length_nil, Try.ntmps81]; omega) ?_
    simp -implicitDefEqProofs only [go_sem, Try.results81, f1, f2, f3, f4, f5, f6, f7, f8, f9]
    rw [hN]
def Fm.forms : Fm → Bool := Fm.fold fun o a v ps rs => (Fm.mk o a v ps).here && rs.all id
theorem Fm.forms_eq (f : Fm) : f.forms = (f.here && f.parts.all Fm.forms) := by
  unfold Fm.forms
  rw [Fm.fold_eq]
  simp only [List.all_map, Fm.eta]
  rfl
theorem l8Forms_of (a : Fm) (hs : a.wt ≤ 1099511627776) (H : ∀ x ∈ a.parts, FC Try.prog 54 [fmD x] [bD x.forms]) : FC Try.prog 54 [fmD a] [bD a.forms] := by
  have hl : a.parts.length ≤ 9223372036854775807 := by rw [Fm.wt_eq] at hs; omega
  have hN := a.forms_eq
  simp only [fmD, fmC_eq]
  refine FC_of Try.call54 Try.func54 rfl (by kernel_rfl) (by simp only [rd, List.map_cons, List.map_nil, List.length_cons, List.length_nil, Try.ntmps54]; omega) ?_
  simp -implicitDefEqProofs only [go_sem, Try.results54]
  refine callF (l8Form_c a hs) (by simp -implicitDefEqProofs only [go_sem, fmC_eq]) ?_
  simp -implicitDefEqProofs only [go_sem, fmC_eq]
  refine ⟨fun h => ?_, fun h => ?_⟩
  · rw [hN, show a.here = false by simpa using h]; rfl
  · rw [show a.here = true by simpa using h, Bool.true_and] at hN
    refine loop_rule (fun k : Nat => hd [(1, .one (.bx 1 0)), (3, vI k)] [(1, [.t (.int .i64 a.op), .t (.str a.atom.name), .t (tmS a.atom.args), .t (.str a.var), .t (fmS a.parts)])] []) (fun k => k ≤ a.parts.length ∧ a.forms = (a.parts.drop k).all Fm.forms) (fun k => a.parts.length - k) 0 (weak_hd ?_) ?_ ?_
    · simp -implicitDefEqProofs only [go_sem]
    · exact ⟨by simp, hN⟩
    · intro k ⟨hk, hr⟩
      by_cases hlt : k < a.parts.length
      · rw [List.drop_eq_getElem_cons hlt, List.all_cons] at hr
        simp -implicitDefEqProofs only [go_sem, getD_at, hlt, fmC_eq]
        refine callF (H a.parts[k] (List.getElem_mem hlt)) (by simp -implicitDefEqProofs only [go_sem, fmC_eq]) ?_
        simp -implicitDefEqProofs only [go_sem, fmC_eq]
        refine ⟨fun h => ?_, fun h => ⟨k + 1, ⟨hlt, ?_⟩, by omega, weak_hd (by simp -implicitDefEqProofs only [go_sem]; rw [wrap_s (by omega)])⟩⟩
        · rw [hr, show a.parts[k].forms = false by simpa using h]; rfl
        · rw [hr, show a.parts[k].forms = true by simpa using h]; rfl
      · simp -implicitDefEqProofs only [go_sem, hlt]
        rw [hr, List.drop_of_length_le (by omega)]; rfl
theorem l8Forms_c : ∀ a : Fm, a.wt ≤ 1099511627776 → FC Try.prog 54 [fmD a] [bD a.forms] :=
  fm_ind fun o a v xs ih hs => l8Forms_of (.mk o a v xs) hs fun x hx => ih x hx (Nat.le_trans (fparts_wt (a := .mk o a v xs) hx) hs)
def Fm.good (a : Fm) : Bool := decide (a.nodes ≤ 40) && a.forms
theorem l8Good_c (a : Fm) (hs : a.wt ≤ 1099511627776) : FC Try.prog 32 [fmD a] [bD a.good] := by
  simp only [fmD, fmC_eq]
  refine FC_of Try.call32 Try.func32 rfl (by kernel_rfl) (by simp only [rd, List.map_cons, List.map_nil, List.length_cons, List.length_nil, Try.ntmps32]; omega) ?_
  simp -implicitDefEqProofs only [go_sem, Try.results32]
  refine callF (l8Many_c a hs 40 (by omega) (by omega)) (by simp -implicitDefEqProofs only [go_sem, fmC_eq]) ?_
  simp -implicitDefEqProofs only [go_sem, fmC_eq]
  rw [show decide (manyF a 40 ≤ 40) = decide (a.nodes ≤ 40) from manyF_le a 40]
  refine ⟨fun h => ?_, fun h => ?_⟩
  · refine callF (l8Forms_c a hs) (by simp -implicitDefEqProofs only [go_sem, fmC_eq]) ?_
    simp -implicitDefEqProofs only [go_sem, fmC_eq]
    rw [Fm.good, h, Bool.true_and]
  · rw [Fm.good, h, Bool.false_and]
end Go.Proofs.Ytgfjbbbkploonaa
/-
  Contracts of functions of the program and of its laws, over plain data.
  Conditions: those that each theorem names.
-/
namespace Go.Proofs.Ytgfjbbbkploonaa
set_option linter.unusedSimpArgs false
set_option linter.unusedVariables false
set_option maxRecDepth 4000
open Go.RowKit
set_option maxHeartbeats 4000000 in
theorem hasForm_of (f : Fm) (hs : f.wt ≤ 1099511627776) (H : ∀ x ∈ f.parts, FC Try.prog 50 [fmD x] [bD x.forms]) : FC Try.prog 50 [fmD f] [bD f.forms] := by
  have H1 : ∀ x ∈ f.parts, FC Try.prog 79 [fmD x] [bD (!x.forms)] := fun x hx => by
    simp only [fmD, fmC_eq]
    refine FC_of Try.call79 Try.func79 rfl (by kernel_rfl) (by simp only [rd, List.map_cons, List.map_nil, List.length_cons, List.length_nil, Try.ntmps79]; omega) ?_
    simp -implicitDefEqProofs only [go_sem, Try.results79]
    refine callF (H x hx) (by simp -implicitDefEqProofs only [go_sem, fmC_eq]) ?_
    simp -implicitDefEqProofs only [go_sem, fmC_eq]
  have hN := f.forms_eq
  obtain ⟨o, a, v, ps⟩ := f
  have ha : a.wt ≤ 1099511627776 := Nat.le_trans (atom_wt (.mk o a v ps)) hs
  have e0 : ((ps.length : Int) != 0) = !decide (ps.length = 0) := len_bne _ 0
  have e1 : ((ps.length : Int) != 1) = !decide (ps.length = 1) := len_bne _ 1
  have e2 : ((ps.length : Int) != 2) = !decide (ps.length = 2) := len_bne _ 2
  simp only [Fm.parts] at H1 hN
  rcases op_cases o with rfl | rfl | rfl | rfl | rfl | rfl | rfl | rfl | rfl | ⟨n1, n2, n3, n4, n5, n6, n7, n8, n9⟩
  · have hH : Fm.here (.mk 1 a v ps) = (decide (ps.length = 0) && a.none && (v == [])) := rfl
    rw [hH] at hN
    have hq : isQ 1 = false := rfl
    have hb : isBi 1 = false := rfl
    simp only [fmD, fmC_eq, Fm.op, Fm.atom, Fm.var, Fm.parts]
    refine FC_of Try.call50 Try.func50 rfl (by kernel_rfl) (by simp only [rd, List.map_cons, List.map_nil, List.length_cons, List.length_nil, Try.ntmps50]; omega) ?_
    simp -implicitDefEqProofs only [go_sem, Try.results50]
    simp only [e0]
    refine ⟨fun h => ?_, fun h => ?_⟩
    · have h' : decide (ps.length = 0) = true := by simpa using h
      refine callF (isQuantifier_c 1) (by simp -implicitDefEqProofs only [go_sem, hq]) ?_
      simp -implicitDefEqProofs only [go_sem, hq]
      refine callF (isQuantifier_c 1) (by simp -implicitDefEqProofs only [go_sem, hq]) ?_
      simp -implicitDefEqProofs only [go_sem, hq]
      refine ⟨fun h1 => ?_, fun h1 => ?_⟩
      · rw [hN, show (v == []) = false by simpa using h1, Bool.and_false, Bool.false_and]
      · have h1' : (v == []) = true := by simpa using h1
        refine callF (isZeroTerm_c a) (by simp -implicitDefEqProofs only [go_sem, tmC_eq]) ?_
        simp -implicitDefEqProofs only [go_sem, tmC_eq]
        refine ⟨fun h2 => ?_, fun h2 => ?_⟩
        · rw [hN, show a.none = false by simpa using h2, Bool.and_false, Bool.false_and, Bool.false_and]
        · have h2' : a.none = true := by simpa using h2
          refine callF (containsFuncFormula_c ps (fun x => !x.forms) _ [] H1) (by simp -implicitDefEqProofs only [go_sem]) ?_
          simp -implicitDefEqProofs only [go_sem]
          rw [not_any, hN, h', h1', h2']; rfl
    · rw [hN, show decide (ps.length = 0) = false by simpa using h]; rfl
  · have hH : Fm.here (.mk 2 a v ps) = (decide (ps.length = 0) && a.none && (v == [])) := rfl
    rw [hH] at hN
    have hq : isQ 2 = false := rfl
    have hb : isBi 2 = false := rfl
    simp only [fmD, fmC_eq, Fm.op, Fm.atom, Fm.var, Fm.parts]
    refine FC_of Try.call50 Try.func50 rfl (by kernel_rfl) (by simp only [rd, List.map_cons, List.map_nil, List.length_cons, List.length_nil, Try.ntmps50]; omega) ?_
    simp -implicitDefEqProofs only [go_sem, Try.results50]
    simp only [e0]
    refine ⟨fun h => ?_, fun h => ?_⟩
    · have h' : decide (ps.length = 0) = true := by simpa using h
      refine callF (isQuantifier_c 2) (by simp -implicitDefEqProofs only [go_sem, hq]) ?_
      simp -implicitDefEqProofs only [go_sem, hq]
      refine callF (isQuantifier_c 2) (by simp -implicitDefEqProofs only [go_sem, hq]) ?_
      simp -implicitDefEqProofs only [go_sem, hq]
      refine ⟨fun h1 => ?_, fun h1 => ?_⟩
      · rw [hN, show (v == []) = false by simpa using h1, Bool.and_false, Bool.false_and]
      · have h1' : (v == []) = true := by simpa using h1
        refine callF (isZeroTerm_c a) (by simp -implicitDefEqProofs only [go_sem, tmC_eq]) ?_
        simp -implicitDefEqProofs only [go_sem, tmC_eq]
        refine ⟨fun h2 => ?_, fun h2 => ?_⟩
        · rw [hN, show a.none = false by simpa using h2, Bool.and_false, Bool.false_and, Bool.false_and]
        · have h2' : a.none = true := by simpa using h2
          refine callF (containsFuncFormula_c ps (fun x => !x.forms) _ [] H1) (by simp -implicitDefEqProofs only [go_sem]) ?_
          simp -implicitDefEqProofs only [go_sem]
          rw [not_any, hN, h', h1', h2']; rfl
    · rw [hN, show decide (ps.length = 0) = false by simpa using h]; rfl
  · have hH : Fm.here (.mk 3 a v ps) = (decide (ps.length = 0) && a.atomOk && (v == [])) := rfl
    rw [hH] at hN
    have hq : isQ 3 = false := rfl
    have hb : isBi 3 = false := rfl
    simp only [fmD, fmC_eq, Fm.op, Fm.atom, Fm.var, Fm.parts]
    refine FC_of Try.call50 Try.func50 rfl (by kernel_rfl) (by simp only [rd, List.map_cons, List.map_nil, List.length_cons, List.length_nil, Try.ntmps50]; omega) ?_
    simp -implicitDefEqProofs only [go_sem, Try.results50]
    simp only [e0]
    refine ⟨fun h => ?_, fun h => ?_⟩
    · have h' : decide (ps.length = 0) = true := by simpa using h
      refine callF (isQuantifier_c 3) (by simp -implicitDefEqProofs only [go_sem, hq]) ?_
      simp -implicitDefEqProofs only [go_sem, hq]
      refine callF (isQuantifier_c 3) (by simp -implicitDefEqProofs only [go_sem, hq]) ?_
      simp -implicitDefEqProofs only [go_sem, hq]
      refine ⟨fun h1 => ?_, fun h1 => ?_⟩
      · rw [hN, show (v == []) = false by simpa using h1, Bool.and_false, Bool.false_and]
      · have h1' : (v == []) = true := by simpa using h1
        refine callF (isValidAtom_c a ha) (by simp -implicitDefEqProofs only [go_sem, tmC_eq]) ?_
        simp -implicitDefEqProofs only [go_sem, tmC_eq]
        refine And.symm ⟨fun h2 => ?_, fun h2 => ?_⟩
        · rw [hN, show a.atomOk = false by simpa using h2, Bool.and_false, Bool.false_and, Bool.false_and]
        · have h2' : a.atomOk = true := by simpa using h2
          refine callF (containsFuncFormula_c ps (fun x => !x.forms) _ [] H1) (by simp -implicitDefEqProofs only [go_sem]) ?_
          simp -implicitDefEqProofs only [go_sem]
          rw [not_any, hN, h', h1', h2']; rfl
    · rw [hN, show decide (ps.length = 0) = false by simpa using h]; rfl
  · have hH : Fm.here (.mk 4 a v ps) = (decide (ps.length = 1) && a.none && (v == [])) := rfl
    rw [hH] at hN
    have hq : isQ 4 = false := rfl
    have hb : isBi 4 = false := rfl
    simp only [fmD, fmC_eq, Fm.op, Fm.atom, Fm.var, Fm.parts]
    refine FC_of Try.call50 Try.func50 rfl (by kernel_rfl) (by simp only [rd, List.map_cons, List.map_nil, List.length_cons, List.length_nil, Try.ntmps50]; omega) ?_
    simp -implicitDefEqProofs only [go_sem, Try.results50]
    simp only [e1]
    refine ⟨fun h => ?_, fun h => ?_⟩
    · have h' : decide (ps.length = 1) = true := by simpa using h
      refine callF (isQuantifier_c 4) (by simp -implicitDefEqProofs only [go_sem, hq]) ?_
      simp -implicitDefEqProofs only [go_sem, hq]
      refine callF (isQuantifier_c 4) (by simp -implicitDefEqProofs only [go_sem, hq]) ?_
      simp -implicitDefEqProofs only [go_sem, hq]
      refine ⟨fun h1 => ?_, fun h1 => ?_⟩
      · rw [hN, show (v == []) = false by simpa using h1, Bool.and_false, Bool.false_and]
      · have h1' : (v == []) = true := by simpa using h1
        refine callF (isZeroTerm_c a) (by simp -implicitDefEqProofs only [go_sem, tmC_eq]) ?_
        simp -implicitDefEqProofs only [go_sem, tmC_eq]
        refine ⟨fun h2 => ?_, fun h2 => ?_⟩
        · rw [hN, show a.none = false by simpa using h2, Bool.and_false, Bool.false_and, Bool.false_and]
        · have h2' : a.none = true := by simpa using h2
          refine callF (containsFuncFormula_c ps (fun x => !x.forms) _ [] H1) (by simp -implicitDefEqProofs only [go_sem]) ?_
          simp -implicitDefEqProofs only [go_sem]
          rw [not_any, hN, h', h1', h2']; rfl
    · rw [hN, show decide (ps.length = 1) = false by simpa using h]; rfl
  · have hH : Fm.here (.mk 5 a v ps) = (decide (ps.length = 2) && a.none && (v == [])) := rfl
    rw [hH] at hN
    have hq : isQ 5 = false := rfl
    have hb : isBi 5 = true := rfl
    simp only [fmD, fmC_eq, Fm.op, Fm.atom, Fm.var, Fm.parts]
    refine FC_of Try.call50 Try.func50 rfl (by kernel_rfl) (by simp only [rd, List.map_cons, List.map_nil, List.length_cons, List.length_nil, Try.ntmps50]; omega) ?_
    simp -implicitDefEqProofs only [go_sem, Try.results50]
    refine callF (isQuantifier_c 5) (by simp -implicitDefEqProofs only [go_sem, hq]) ?_
    simp -implicitDefEqProofs only [go_sem, hq]
    refine callF (isBinary_c 5) (by simp -implicitDefEqProofs only [go_sem, hb]) ?_
    simp -implicitDefEqProofs only [go_sem, hb]
    simp only [e2]
    refine ⟨fun h => ?_, fun h => ?_⟩
    · have h' : decide (ps.length = 2) = true := by simpa using h
      refine callF (isQuantifier_c 5) (by simp -implicitDefEqProofs only [go_sem, hq]) ?_
      simp -implicitDefEqProofs only [go_sem, hq]
      refine callF (isQuantifier_c 5) (by simp -implicitDefEqProofs only [go_sem, hq]) ?_
      simp -implicitDefEqProofs only [go_sem, hq]
      refine ⟨fun h1 => ?_, fun h1 => ?_⟩
      · rw [hN, show (v == []) = false by simpa using h1, Bool.and_false, Bool.false_and]
      · have h1' : (v == []) = true := by simpa using h1
        refine callF (isZeroTerm_c a) (by simp -implicitDefEqProofs only [go_sem, tmC_eq]) ?_
        simp -implicitDefEqProofs only [go_sem, tmC_eq]
        refine ⟨fun h2 => ?_, fun h2 => ?_⟩
        · rw [hN, show a.none = false by simpa using h2, Bool.and_false, Bool.false_and, Bool.false_and]
        · have h2' : a.none = true := by simpa using h2
          refine callF (containsFuncFormula_c ps (fun x => !x.forms) _ [] H1) (by simp -implicitDefEqProofs only [go_sem]) ?_
          simp -implicitDefEqProofs only [go_sem]
          rw [not_any, hN, h', h1', h2']; rfl
    · rw [hN, show decide (ps.length = 2) = false by simpa using h]; rfl
  · have hH : Fm.here (.mk 6 a v ps) = (decide (ps.length = 2) && a.none && (v == [])) := rfl
    rw [hH] at hN
    have hq : isQ 6 = false := rfl
    have hb : isBi 6 = true := rfl
    simp only [fmD, fmC_eq, Fm.op, Fm.atom, Fm.var, Fm.parts]
    refine FC_of Try.call50 Try.func50 rfl (by kernel_rfl) (by simp only [rd, List.map_cons, List.map_nil, List.length_cons, List.length_nil, Try.ntmps50]; omega) ?_
    simp -implicitDefEqProofs only [go_sem, Try.results50]
    refine callF (isQuantifier_c 6) (by simp -implicitDefEqProofs only [go_sem, hq]) ?_
    simp -implicitDefEqProofs only [go_sem, hq]
    refine callF (isBinary_c 6) (by simp -implicitDefEqProofs only [go_sem, hb]) ?_
    simp -implicitDefEqProofs only [go_sem, hb]
    simp only [e2]
    refine ⟨fun h => ?_, fun h => ?_⟩
    · have h' : decide (ps.length = 2) = true := by simpa using h
      refine callF (isQuantifier_c 6) (by simp -implicitDefEqProofs only [go_sem, hq]) ?_
      simp -implicitDefEqProofs only [go_sem, hq]
      refine callF (isQuantifier_c 6) (by simp -implicitDefEqProofs only [go_sem, hq]) ?_
      simp -implicitDefEqProofs only [go_sem, hq]
      refine ⟨fun h1 => ?_, fun h1 => ?_⟩
      · rw [hN, show (v == []) = false by simpa using h1, Bool.and_false, Bool.false_and]
      · have h1' : (v == []) = true := by simpa using h1
        refine callF (isZeroTerm_c a) (by simp -implicitDefEqProofs only [go_sem, tmC_eq]) ?_
        simp -implicitDefEqProofs only [go_sem, tmC_eq]
        refine ⟨fun h2 => ?_, fun h2 => ?_⟩
        · rw [hN, show a.none = false by simpa using h2, Bool.and_false, Bool.false_and, Bool.false_and]
        · have h2' : a.none = true := by simpa using h2
          refine callF (containsFuncFormula_c ps (fun x => !x.forms) _ [] H1) (by simp -implicitDefEqProofs only [go_sem]) ?_
          simp -implicitDefEqProofs only [go_sem]
          rw [not_any, hN, h', h1', h2']; rfl
    · rw [hN, show decide (ps.length = 2) = false by simpa using h]; rfl
  · have hH : Fm.here (.mk 7 a v ps) = (decide (ps.length = 2) && a.none && (v == [])) := rfl
    rw [hH] at hN
    have hq : isQ 7 = false := rfl
    have hb : isBi 7 = true := rfl
    simp only [fmD, fmC_eq, Fm.op, Fm.atom, Fm.var, Fm.parts]
    refine FC_of Try.call50 Try.func50 rfl (by kernel_rfl) (by simp only [rd, List.map_cons, List.map_nil, List.length_cons, List.length_nil, Try.ntmps50]; omega) ?_
    simp -implicitDefEqProofs only [go_sem, Try.results50]
    refine callF (isQuantifier_c 7) (by simp -implicitDefEqProofs only [go_sem, hq]) ?_
    simp -implicitDefEqProofs only [go_sem, hq]
    refine callF (isBinary_c 7) (by simp -implicitDefEqProofs only [go_sem, hb]) ?_
    simp -implicitDefEqProofs only [go_sem, hb]
    simp only [e2]
    refine ⟨fun h => ?_, fun h => ?_⟩
    · have h' : decide (ps.length = 2) = true := by simpa using h
      refine callF (isQuantifier_c 7) (by simp -implicitDefEqProofs only [go_sem, hq]) ?_
      simp -implicitDefEqProofs only [go_sem, hq]
      refine callF (isQuantifier_c 7) (by simp -implicitDefEqProofs only [go_sem, hq]) ?_
      simp -implicitDefEqProofs only [go_sem, hq]
      refine ⟨fun h1 => ?_, fun h1 => ?_⟩
      · rw [hN, show (v == []) = false by simpa using h1, Bool.and_false, Bool.false_and]
      · have h1' : (v == []) = true := by simpa using h1
        refine callF (isZeroTerm_c a) (by simp -implicitDefEqProofs only [go_sem, tmC_eq]) ?_
        simp -implicitDefEqProofs only [go_sem, tmC_eq]
        refine ⟨fun h2 => ?_, fun h2 => ?_⟩
        · rw [hN, show a.none = false by simpa using h2, Bool.and_false, Bool.false_and, Bool.false_and]
        · have h2' : a.none = true := by simpa using h2
          refine callF (containsFuncFormula_c ps (fun x => !x.forms) _ [] H1) (by simp -implicitDefEqProofs only [go_sem]) ?_
          simp -implicitDefEqProofs only [go_sem]
          rw [not_any, hN, h', h1', h2']; rfl
    · rw [hN, show decide (ps.length = 2) = false by simpa using h]; rfl
  · have hH : Fm.here (.mk 8 a v ps) = (decide (ps.length = 1) && a.none && varOk v) := rfl
    rw [hH] at hN
    have hq : isQ 8 = true := rfl
    have hb : isBi 8 = false := rfl
    simp only [fmD, fmC_eq, Fm.op, Fm.atom, Fm.var, Fm.parts]
    refine FC_of Try.call50 Try.func50 rfl (by kernel_rfl) (by simp only [rd, List.map_cons, List.map_nil, List.length_cons, List.length_nil, Try.ntmps50]; omega) ?_
    simp -implicitDefEqProofs only [go_sem, Try.results50]
    refine callF (isQuantifier_c 8) (by simp -implicitDefEqProofs only [go_sem, hq]) ?_
    simp -implicitDefEqProofs only [go_sem, hq]
    simp only [e1]
    refine ⟨fun h => ?_, fun h => ?_⟩
    · have h' : decide (ps.length = 1) = true := by simpa using h
      refine callF (isQuantifier_c 8) (by simp -implicitDefEqProofs only [go_sem, hq]) ?_
      simp -implicitDefEqProofs only [go_sem, hq]
      refine callF (isVariable_c v) (by simp -implicitDefEqProofs only [go_sem]) ?_
      simp -implicitDefEqProofs only [go_sem]
      refine ⟨fun h1 => ?_, fun h1 => ?_⟩
      · have h1' : varOk v = true := by simpa using h1
        refine callF (isQuantifier_c 8) (by simp -implicitDefEqProofs only [go_sem, hq]) ?_
        simp -implicitDefEqProofs only [go_sem, hq]
        refine callF (isZeroTerm_c a) (by simp -implicitDefEqProofs only [go_sem, tmC_eq]) ?_
        simp -implicitDefEqProofs only [go_sem, tmC_eq]
        refine ⟨fun h2 => ?_, fun h2 => ?_⟩
        · rw [hN, show a.none = false by simpa using h2, Bool.and_false, Bool.false_and, Bool.false_and]
        · have h2' : a.none = true := by simpa using h2
          refine callF (containsFuncFormula_c ps (fun x => !x.forms) _ [] H1) (by simp -implicitDefEqProofs only [go_sem]) ?_
          simp -implicitDefEqProofs only [go_sem]
          rw [not_any, hN, h', h1', h2']; rfl
      · rw [hN, show varOk v = false by simpa using h1, Bool.and_false, Bool.false_and]
    · rw [hN, show decide (ps.length = 1) = false by simpa using h]; rfl
  · have hH : Fm.here (.mk 9 a v ps) = (decide (ps.length = 1) && a.none && varOk v) := rfl
    rw [hH] at hN
    have hq : isQ 9 = true := rfl
    have hb : isBi 9 = false := rfl
    simp only [fmD, fmC_eq, Fm.op, Fm.atom, Fm.var, Fm.parts]
    refine FC_of Try.call50 Try.func50 rfl (by kernel_rfl) (by simp only [rd, List.map_cons, List.map_nil, List.length_cons, List.length_nil, Try.ntmps50]; omega) ?_
    simp -implicitDefEqProofs only [go_sem, Try.results50]
    refine callF (isQuantifier_c 9) (by simp -implicitDefEqProofs only [go_sem, hq]) ?_
    simp -implicitDefEqProofs only [go_sem, hq]
    simp only [e1]
    refine ⟨fun h => ?_, fun h => ?_⟩
    · have h' : decide (ps.length = 1) = true := by simpa using h
      refine callF (isQuantifier_c 9) (by simp -implicitDefEqProofs only [go_sem, hq]) ?_
      simp -implicitDefEqProofs only [go_sem, hq]
      refine callF (isVariable_c v) (by simp -implicitDefEqProofs only [go_sem]) ?_
      simp -implicitDefEqProofs only [go_sem]
      refine ⟨fun h1 => ?_, fun h1 => ?_⟩
      · have h1' : varOk v = true := by simpa using h1
        refine callF (isQuantifier_c 9) (by simp -implicitDefEqProofs only [go_sem, hq]) ?_
        simp -implicitDefEqProofs only [go_sem, hq]
        refine callF (isZeroTerm_c a) (by simp -implicitDefEqProofs only [go_sem, tmC_eq]) ?_
        simp -implicitDefEqProofs only [go_sem, tmC_eq]
        refine ⟨fun h2 => ?_, fun h2 => ?_⟩
        · rw [hN, show a.none = false by simpa using h2, Bool.and_false, Bool.false_and, Bool.false_and]
        · have h2' : a.none = true := by simpa using h2
          refine callF (containsFuncFormula_c ps (fun x => !x.forms) _ [] H1) (by simp -implicitDefEqProofs only [go_sem]) ?_
          simp -implicitDefEqProofs only [go_sem]
          rw [not_any, hN, h', h1', h2']; rfl
      · rw [hN, show varOk v = false by simpa using h1, Bool.and_false, Bool.false_and]
    · rw [hN, show decide (ps.length = 1) = false by simpa using h]; rfl
  · have hH : Fm.here (.mk o a v ps) = false := by simp [Fm.here, isBi, isQ, Fm.op, *]
    rw [hH] at hN
    have f1 : (o == 1) = false := by simpa using n1
    have f2 : (o == 2) = false := by simpa using n2
    have f3 : (o == 3) = false := by simpa using n3
    have f4 : (o == 4) = false := by simpa using n4
    have hq : isQ o = false := by simp [isQ, n8, n9]
    have hb : isBi o = false := by simp [isBi, n5, n6, n7]
    simp only [fmD, fmC_eq, Fm.op, Fm.atom, Fm.var, Fm.parts]
    refine FC_of Try.call50 Try.func50 rfl (by kernel_rfl) (by simp only [rd, List.map_cons, List.map_nil, List.length_cons, List.length_nil, Try.ntmps50]; omega) ?_
    simp -implicitDefEqProofs only [go_sem, Try.results50, f1, f2, f3, f4]
    refine callF (isQuantifier_c o) (by simp -implicitDefEqProofs only [go_sem, hq]) ?_
    simp -implicitDefEqProofs only [go_sem, hq]
    refine callF (isBinary_c o) (by simp -implicitDefEqProofs only [go_sem, hb]) ?_
    simp -implicitDefEqProofs only [go_sem, hb]
    rw [hN]; rfl
theorem hasForm_c : ∀ a : Fm, a.wt ≤ 1099511627776 → FC Try.prog 50 [fmD a] [bD a.forms] :=
  fm_ind fun o a v xs ih hs => hasForm_of (.mk o a v xs) hs fun x hx => ih x hx (Nat.le_trans (fparts_wt (a := .mk o a v xs) hx) hs)
theorem isValidFormula_c (a : Fm) (hs : a.wt ≤ 1099511627776) : FC Try.prog 28 [fmD a] [bD a.good] := by
  simp only [fmD, fmC_eq]
  refine FC_of Try.call28 Try.func28 rfl (by kernel_rfl) (by simp only [rd, List.map_cons, List.map_nil, List.length_cons, List.length_nil, Try.ntmps28]; omega) ?_
  simp -implicitDefEqProofs only [go_sem, Try.results28]
  refine callF (sizeOf_c a hs) (by simp -implicitDefEqProofs only [go_sem, fmC_eq]) ?_
  simp -implicitDefEqProofs only [go_sem, fmC_eq]
  rw [sizeF_le]
  refine ⟨fun h => ?_, fun h => ?_⟩
  · refine callF (hasForm_c a hs) (by simp -implicitDefEqProofs only [go_sem, fmC_eq]) ?_
    simp -implicitDefEqProofs only [go_sem, fmC_eq]
    rw [Fm.good, h, Bool.true_and]
  · rw [Fm.good, h, Bool.false_and]
end Go.Proofs.Ytgfjbbbkploonaa
/-
  Contracts of functions of the program and of its laws, over plain data.
  Conditions: those that each theorem names.
-/
namespace Go.Proofs.Ytgfjbbbkploonaa
set_option linter.unusedSimpArgs false
set_option linter.unusedVariables false
set_option maxRecDepth 4000
open Go.RowKit
def sideOk (xs : List Fm) : Bool := decide (xs.length ≤ 10) && xs.all Fm.good
def Sq.good (s : Sq) : Bool := sideOk s.left && sideOk s.right
theorem side_wt {s : Sq} {x : Fm} (h : x ∈ s.left ∨ x ∈ s.right) : x.wt ≤ s.wt := by
  have := s.wt_eq
  unfold fmsW at this
  rcases h with h | h
  · have := mem_sum Fm.wt _ x h; omega
  · have := mem_sum Fm.wt _ x h; omega
theorem isValidSequent_c (s : Sq) (hs : s.wt ≤ 1099511627776) : FC Try.prog 10 [sqD s] [bD s.good] := by
  have H1 : ∀ x : Fm, x ∈ s.left ∨ x ∈ s.right → FC Try.prog 27 [fmD x] [bD (!x.good)] := fun x hx => by
    have hx := Nat.le_trans (side_wt hx) hs
    simp only [fmD, fmC_eq]
    refine FC_of Try.call27 Try.func27 rfl (by kernel_rfl) (by simp only [rd, List.map_cons, List.map_nil, List.length_cons, List.length_nil, Try.ntmps27]; omega) ?_
    simp -implicitDefEqProofs only [go_sem, Try.results27]
    refine callF (isValidFormula_c x hx) (by simp -implicitDefEqProofs only [go_sem, fmC_eq]) ?_
    simp -implicitDefEqProofs only [go_sem, fmC_eq]
  simp only [sqD, sqC_eq]
  refine FC_of Try.call10 Try.func10 rfl (by kernel_rfl) (by simp only [rd, List.map_cons, List.map_nil, List.length_cons, List.length_nil, Try.ntmps10]; omega) ?_
  simp -implicitDefEqProofs only [go_sem, Try.results10]
  have hG : s.good = (sideOk s.left && sideOk s.right) := rfl
  unfold sideOk at hG
  by_cases h1 : s.left.length ≤ 10
  · by_cases h2 : s.right.length ≤ 10
    · rw [show decide (s.left.length ≤ 10) = true by simpa using h1, show decide (s.right.length ≤ 10) = true by simpa using h2, Bool.true_and, Bool.true_and] at hG
      refine ⟨fun _ => ⟨fun _ => ?_, fun h => by simp at h; omega⟩, fun h => by simp at h; omega⟩
      refine callF (containsFuncFormula_c s.left (fun x => !x.good) _ [] fun x hx => H1 x (Or.inl hx)) (by simp -implicitDefEqProofs only [go_sem]) ?_
      simp -implicitDefEqProofs only [go_sem]
      rw [not_any]
      refine ⟨fun h3 => ?_, fun h3 => ?_⟩
      · refine callF (containsFuncFormula_c s.right (fun x => !x.good) _ [] fun x hx => H1 x (Or.inr hx)) (by simp -implicitDefEqProofs only [go_sem]) ?_
        simp -implicitDefEqProofs only [go_sem]
        rw [not_any, hG, h3, Bool.true_and]
      · rw [hG, h3, Bool.false_and]
    · rw [show decide (s.right.length ≤ 10) = false by simpa using h2, Bool.false_and, Bool.and_false] at hG
      refine ⟨fun _ => ⟨fun h => by simp at h; omega, fun _ => by rw [hG]⟩, fun h => by simp at h; omega⟩
  · rw [show decide (s.left.length ≤ 10) = false by simpa using h1, Bool.false_and, Bool.false_and] at hG
    refine ⟨fun h => by simp at h; omega, fun _ => by rw [hG]⟩
theorem l18Side_c (xs : List Fm) (hs : fmsW xs ≤ 1099511627776) : FC Try.prog 48 [.one (fmS xs)] [bD (sideOk xs)] := by
  have hW : fmsW xs = xs.length + (xs.map Fm.wt).sum := rfl
  have hG : sideOk xs = (decide (xs.length ≤ 10) && xs.all Fm.good) := rfl
  refine FC_of Try.call48 Try.func48 rfl (by kernel_rfl) (by simp only [rd, List.map_cons, List.map_nil, List.length_cons, List.length_nil, Try.ntmps48]; omega) ?_
  simp -implicitDefEqProofs only [go_sem, Try.results48]
  refine loop_rule (fun k : Nat => hd [(0, vT (fmS xs)), (3, vI k)] [] []) (fun k => k ≤ xs.length ∧ k ≤ 11 ∧ xs.all Fm.good = (xs.drop k).all Fm.good) (fun k => xs.length - k) 0 (weak_hd ?_) ?_ ?_
  · simp -implicitDefEqProofs only [go_sem]
  · exact ⟨by omega, by omega, rfl⟩
  · intro k ⟨hk, hk2, hr⟩
    by_cases hlt : k < xs.length
    · have hx : xs[k].wt ≤ 1099511627776 := by have := mem_sum Fm.wt xs xs[k] (List.getElem_mem hlt); omega
      by_cases h10 : (k : Int) ≤ 10
      · have h10' : k ≤ 10 := by omega
        rw [List.drop_eq_getElem_cons hlt, List.all_cons] at hr
        simp -implicitDefEqProofs only [go_sem, getD_at, hlt, h10, h10', fmC_eq]
        refine callF (l8Good_c xs[k] hx) (by simp -implicitDefEqProofs only [go_sem, fmC_eq]) ?_
        simp -implicitDefEqProofs only [go_sem, fmC_eq]
        refine ⟨fun h => ?_, fun h => ⟨k + 1, ⟨hlt, by omega, ?_⟩, by omega, weak_hd (by simp -implicitDefEqProofs only [go_sem]; rw [wrap_s (by omega)])⟩⟩
        · rw [hG, hr, show xs[k].good = false by simpa using h, Bool.false_and, Bool.and_false]
        · rw [hr, show xs[k].good = true by simpa using h]; rfl
      · have h10' : ¬ k ≤ 10 := by omega
        simp -implicitDefEqProofs only [go_sem, hlt, h10, h10']
        rw [hG, show decide (xs.length ≤ 10) = false by simp; omega, Bool.false_and]
        rw [show decide ((xs.length : Int) ≤ 10) = false by simp; omega]
    · simp -implicitDefEqProofs only [go_sem, hlt]
      rw [hG, hr, List.drop_of_length_le (by omega), List.all_nil, Bool.and_true]
      congr 1
      rw [decide_eq_decide]; omega
theorem l18Good_c (s : Sq) (hs : s.wt ≤ 1099511627776) : FC Try.prog 25 [sqD s] [bD s.good] := by
  have hW := s.wt_eq
  have hG : s.good = (sideOk s.left && sideOk s.right) := rfl
  simp only [sqD, sqC_eq]
  refine FC_of Try.call25 Try.func25 rfl (by kernel_rfl) (by simp only [rd, List.map_cons, List.map_nil, List.length_cons, List.length_nil, Try.ntmps25]; omega) ?_
  simp -implicitDefEqProofs only [go_sem, Try.results25]
  refine callF (l18Side_c s.left (by omega)) (by simp -implicitDefEqProofs only [go_sem]) ?_
  simp -implicitDefEqProofs only [go_sem]
  refine ⟨fun h => ?_, fun h => ?_⟩
  · refine callF (l18Side_c s.right (by omega)) (by simp -implicitDefEqProofs only [go_sem]) ?_
    simp -implicitDefEqProofs only [go_sem]
    rw [hG, h, Bool.true_and]
  · rw [hG, h, Bool.false_and]
theorem specIsValidSequent_c (s : Sq) (hs : s.wt ≤ 1099511627776) : FC Try.prog 8 [sqD s] [bD s.good] := by
  simp only [sqD, sqC_eq]
  refine FC_of Try.call8 Try.func8 rfl (by kernel_rfl) (by simp only [rd, List.map_cons, List.map_nil, List.length_cons, List.length_nil, Try.ntmps8]; omega) ?_
  simp -implicitDefEqProofs only [go_sem, Try.results8]
  refine callF (l18Good_c s hs) (by simp -implicitDefEqProofs only [go_sem, sqC_eq]) ?_
  simp -implicitDefEqProofs only [go_sem, sqC_eq]
end Go.Proofs.Ytgfjbbbkploonaa
/-
  The marks that a law writes: the text of a mark; terms with marks.
  Conditions: none.
-/
namespace Go.Proofs.Ytgfjbbbkploonaa
set_option linter.unusedSimpArgs false
set_option linter.unusedVariables false
set_option maxRecDepth 4000
open Go.RowKit
def mtd : Nat → Nat → Str → Str
  | 0, _, acc => acc
  | fuel + 1, n, acc => if n = 0 then acc else mtd fuel (n / 10) (UInt8.ofNat (48 + n % 10) :: acc)
/-- The text of a mark. -/
def mtx (k : Nat) : Str := 109 :: mtd (k + 1) k []
theorem mtd_step (fuel n : Nat) (acc : Str) (h : 0 < n) : mtd (fuel + 1) n acc = mtd fuel (n / 10) (UInt8.ofNat (48 + n % 10) :: acc) := by rw [mtd, if_neg (by omega)]
theorem mtd_fuel : ∀ (f f' n : Nat) (acc : Str), n < f → n < f' → mtd f n acc = mtd f' n acc
  | 0, _, n, _, h, _ => absurd h (by omega)
  | _ + 1, 0, n, _, _, h => absurd h (by omega)
  | f + 1, f' + 1, n, acc, h, h' => by
    by_cases h0 : n = 0
    · simp [mtd, h0]
    · rw [mtd_step _ _ _ (by omega), mtd_step _ _ _ (by omega)]
      exact mtd_fuel f f' _ _ (by omega) (by omega)
theorem wrap_u8 {n : Nat} (h : n < 256) : IntKind.u8.wrap (n : Int) = n := by
  have e : IntKind.u8.wrap (n : Int) = (n : Int) % 256 := rfl
  rw [e]; omega
theorem markText_c (k : Nat) (hk0 : 0 < k) (hk : k ≤ 4611686018427387904) : FC Try.prog 58 [iD k] [sD (mtx k)] := by
  have h0 : ((k : Int) ≤ 0) = False := by simp; omega
  refine FC_of Try.call58 Try.func58 rfl (by kernel_rfl) (by simp only [rd, List.map_cons, List.map_nil, List.length_cons, List.length_nil, Try.ntmps58]; omega) ?_
  simp -implicitDefEqProofs only [go_sem, Try.results58, h0]
  refine loop_rule (fun (x : Nat × Str) => hd [(0, vI x.1), (3, vT (.str x.2))] [] []) (fun x => mtx k = 109 :: mtd (x.1 + 1) x.1 x.2 ∧ x.1 * 10 ^ x.2.length ≤ k ∧ x.2.length ≤ 19) (fun x => x.1) (k, []) (weak_hd ?_) ?_ ?_
  · simp -implicitDefEqProofs only [go_sem]
  · exact ⟨rfl, by simp, by simp⟩
  · intro ⟨n, s⟩ ⟨h1, h2, hl⟩
    have hl : s.length ≤ 19 := hl
    have hn : n ≤ k := Nat.le_trans (Nat.le_mul_of_pos_right _ (Nat.pow_pos (by omega))) h2
    have hs : s.length ≤ 18 ∨ n = 0 := by
      by_cases h : n = 0
      · exact Or.inr h
      · left
        refine Nat.le_of_not_lt fun hl => ?_
        have : 10 ^ 19 ≤ 10 ^ s.length := Nat.pow_le_pow_right (by omega) (by omega)
        have : 1 * 10 ^ s.length ≤ n * 10 ^ s.length := Nat.mul_le_mul_right _ (by omega)
        have h2 : n * 10 ^ s.length ≤ k := h2
        omega
    by_cases hp : 0 < n
    · have hp' : ((n : Int) > 0) = True := by simp; omega
      have e1 : (n : Int).tmod 10 = ((n % 10 : Nat) : Int) := by rw [Int.tmod_eq_emod_of_nonneg (by omega)]; omega
      have e2 : (n : Int).tdiv 10 = ((n / 10 : Nat) : Int) := by rw [Int.tdiv_eq_ediv_of_nonneg (by omega)]; omega
      have e3 : IntKind.i64.wrap (48 + ((n % 10 : Nat) : Int)) = ((48 + n % 10 : Nat) : Int) := by rw [wrap_in (by omega) (by omega)]; omega
      have e4 : IntKind.u8.wrap ((48 + n % 10 : Nat) : Int) = ((48 + n % 10 : Nat) : Int) := wrap_u8 (by omega)
      have e5 : IntKind.i64.wrap ((n / 10 : Nat) : Int) = ((n / 10 : Nat) : Int) := wrap_in (by omega) (by omega)
      simp -implicitDefEqProofs only [go_sem, hp', e1, e2, e3, e4, e5]
      refine ⟨by omega, ?_⟩
      refine buildDc (by simp -implicitDefEqProofs only [go_sem]) ?_
      simp -implicitDefEqProofs only [go_sem]
      have hs' : s.length ≤ 18 := by omega
      refine ⟨by omega, by omega, (n / 10, UInt8.ofNat (48 + n % 10) :: s), ⟨?_, ?_, show s.length + 1 ≤ 19 by omega⟩, by omega, weak_hd (by simp -implicitDefEqProofs only [go_sem, e2, e5])⟩
      · rw [h1]
        show (109 :: mtd (n + 1) n s : Str) = 109 :: mtd (n / 10 + 1) (n / 10) (UInt8.ofNat (48 + n % 10) :: s)
        rw [mtd_step _ _ _ hp, mtd_fuel n (n / 10 + 1) _ _ (by omega) (by omega)]
      · show n / 10 * 10 ^ (s.length + 1) ≤ k
        rw [Nat.pow_succ, Nat.mul_comm _ 10, ← Nat.mul_assoc]
        exact Nat.le_trans (Nat.mul_le_mul_right _ (by omega)) h2
    · have h0' : n = 0 := by omega
      subst h0'
      simp -implicitDefEqProofs only [go_sem]
      refine ⟨by omega, ?_⟩
      rw [h1]; simp [mtd]
end Go.Proofs.Ytgfjbbbkploonaa
/-
  What the laws' marks leave, and that they are held.
  Conditions: none.
-/
namespace Go.Proofs.Ytgfjbbbkploonaa
set_option linter.unusedSimpArgs false
set_option linter.unusedVariables false
set_option maxRecDepth 4000
open Go.RowKit
mutual
def mk1Tms : Tm → Nat → Tm × Nat
  | .mk n0 s0, k => (.mk (mtx k) (mkTms s0 (k + 1)).1, (mkTms s0 (k + 1)).2)
def mkTms : List Tm → Nat → List Tm × Nat
  | [], k => ([], k)
  | a :: xs, k => ((mk1Tms a k).1 :: (mkTms xs (mk1Tms a k).2).1, (mkTms xs (mk1Tms a k).2).2)
end
mutual
def ct1Tms : Tm → Nat
  | .mk n0 s0 => 1 + 1 + ctTms s0
def ctTms : List Tm → Nat
  | [] => 0
  | a :: xs => ct1Tms a + ctTms xs
end
mutual
theorem mk1Tms_ct : ∀ (a : Tm) (k : Nat), k ≤ (mk1Tms a k).2 ∧ (mk1Tms a k).2 ≤ k + ct1Tms a
  | .mk n0 s0, k => by have h_s0 := mkTms_ct s0 (k + 1); simp only [mk1Tms, ct1Tms]; omega
theorem mkTms_ct : ∀ (xs : List Tm) (k : Nat), k ≤ (mkTms xs k).2 ∧ (mkTms xs k).2 ≤ k + ctTms xs
  | [], k => ⟨Nat.le_refl _, Nat.le_refl _⟩
  | a :: xs, k => by have h1 := mk1Tms_ct a k; have h2 := mkTms_ct xs (mk1Tms a k).2; simp only [mkTms, ctTms]; omega
end
theorem ctTms_len : ∀ xs : List Tm, xs.length ≤ ctTms xs
  | [] => Nat.le_refl _
  | a :: xs => by have := ctTms_len xs; have : 1 ≤ ct1Tms a := by obtain ⟨n0, s0⟩ := a; simp only [ct1Tms]; omega
                  simp only [List.length_cons, ctTms]; omega
theorem markTermS_of (xs : List Tm) (H : ∀ a ∈ xs, ∀ k : Nat, 0 < k → k + ctTms a.args ≤ 4611686018427387904 → IC Try.prog 59 [] (.one (tmS a.args)) [iD k] (.one (tmS (mkTms a.args k).1)) [iD (mkTms a.args k).2]) :
    ∀ k : Nat, 0 < k → k + ctTms xs ≤ 4611686018427387904 → IC Try.prog 59 [] (.one (tmS xs)) [iD k] (.one (tmS (mkTms xs k).1)) [iD (mkTms xs k).2] := by
  intro k h0 hk
  refine IC_ofP Try.call59 Try.func59 rfl (by kernel_rfl) (by simp only [argsI, rd, List.map_cons, List.map_nil, List.nil_append, List.length_cons, List.length_nil, Try.ntmps59]; omega) (by simp only [Try.ntmps59]; omega) (fun vs => ?_)
  simp -implicitDefEqProofs only [go_sem, Try.results59, initP, initI, argsI, PI]
  refine loop_rule (fun (x : List Tm × List Tm × Nat) => hd [(0, .one (.ow 0 0)), (1000000, .one (.ow 0 0)), (1, vI x.2.2), (5, vI x.1.length)] [] [(0, ⟨true, 2, x.1.map tmC ++ pinRs vs x.1.length (x.2.1.map tmC), 0, true⟩)])
    (fun x => (mkTms xs k).1 = x.1 ++ (mkTms x.2.1 x.2.2).1 ∧ (mkTms xs k).2 = (mkTms x.2.1 x.2.2).2 ∧ 0 < x.2.2 ∧ x.2.2 + ctTms x.2.1 ≤ 4611686018427387904 ∧ x.1.length + x.2.1.length = xs.length ∧ ∀ a ∈ x.2.1, a ∈ xs) (fun x => x.2.1.length) ([], xs, k) (weak_hd ?_) ?_ ?_
  · simp -implicitDefEqProofs only [go_sem]
  · exact ⟨rfl, rfl, h0, hk, by simp, fun _ h => h⟩
  · intro ⟨dn, rest, kk⟩ ⟨h1, h2, h3, h4, h6, h5⟩
    simp only at h1 h2 h3 h4 h5 h6
    cases rest with
    | nil =>
      simp only [mkTms, List.append_nil] at h1 h2
      simp -implicitDefEqProofs only [go_sem, h1, h2]
    | cons a rest =>
      obtain ⟨n0, s0⟩ := a
      simp only [mkTms, mk1Tms, ctTms, ct1Tms] at h1 h2 h4
      have hc_s0 := mkTms_ct s0 (kk + 1)
      have w0 : IntKind.i64.wrap (((kk : Nat) : Int) + 1) = ((kk + 1 : Nat) : Int) := wrap_s (by omega)
      have hln := ctTms_len xs
      rw [List.length_cons] at h6
      have wl : IntKind.i64.wrap ((dn.length : Int) + 1) = ((dn.length + 1 : Nat) : Int) := wrap_s (by omega)
      simp -implicitDefEqProofs only [go_sem, tmC_eq (.mk _ _), Tm.name, Tm.args]
      refine callF (markText_c kk (by omega) (by omega)) (by simp -implicitDefEqProofs only [go_sem, w0]) ?_
      simp -implicitDefEqProofs only [go_sem, w0]
      refine storeD (by simp -implicitDefEqProofs only [go_sem, implies_true, w0]) ?_
      simp -implicitDefEqProofs only [go_sem, implies_true, w0]
      refine callN (l := [(0, .one (.ow 0 0)), (1000000, .one (.ow 0 0)), (5, vI dn.length), (24, .one (.cv (vs dn.length 1))), (25, vI ((kk + 1) : Nat))]) (bl := []) (el := [(0, ⟨true, 2, dn.map tmC ++ [.str (mtx kk), .pin (vs dn.length 1) (tmS s0)] :: pinRs vs (dn.length + 1) (rest.map tmC), 0, true⟩)]) 0 dn.length 1 (H (.mk n0 s0) (h5 _ (by simp)) (kk + 1) (by omega) (by show (kk + 1) + ctTms s0 ≤ _; omega)) (by simp -implicitDefEqProofs only [go_sem, w0, tmS]) rfl rfl rfl (by simp -implicitDefEqProofs only [go_sem, tmS, Tm.name, Tm.args]) rfl ?_
      simp -implicitDefEqProofs only [go_sem, w0, Tm.name, Tm.args]
      refine ⟨(dn ++ [.mk (mtx kk) (mkTms s0 (kk + 1)).1], rest, (mkTms s0 (kk + 1)).2), ⟨by simpa using h1, h2, by show 0 < (mkTms s0 (kk + 1)).2; omega, by show (mkTms s0 (kk + 1)).2 + ctTms rest ≤ _; omega, by simp; omega, fun b hb => h5 b (by simp [hb])⟩, by simp, weak_hd ?_⟩
      simp -implicitDefEqProofs only [go_sem, wl, tmC_eq (.mk _ _), Tm.name, Tm.args, List.map_append, List.append_assoc]
theorem markTermS_c (xs : List Tm) (k : Nat) (h0 : 0 < k) (hk : k + ctTms xs ≤ 4611686018427387904) : IC Try.prog 59 [] (.one (tmS xs)) [iD k] (.one (tmS (mkTms xs k).1)) [iD (mkTms xs k).2] :=
  markTermS_of xs (fun a _ => tm_ind (P := fun a => ∀ k : Nat, 0 < k → k + ctTms a.args ≤ 4611686018427387904 → IC Try.prog 59 [] (.one (tmS a.args)) [iD k] (.one (tmS (mkTms a.args k).1)) [iD (mkTms a.args k).2]) (fun n ys ih => markTermS_of ys ih) a) k h0 hk
theorem heldTermS_of (xs : List Tm) (H : ∀ a ∈ xs, ∀ k : Nat, 0 < k → k + ctTms a.args ≤ 4611686018427387904 → FC Try.prog 60 [.one (tmS (mkTms a.args k).1), iD k] [iD (mkTms a.args k).2]) :
    ∀ k : Nat, 0 < k → k + ctTms xs ≤ 4611686018427387904 → FC Try.prog 60 [.one (tmS (mkTms xs k).1), iD k] [iD (mkTms xs k).2] := by
  intro k h0 hk
  refine FC_of Try.call60 Try.func60 rfl (by kernel_rfl) (by simp only [rd, List.map_cons, List.map_nil, List.length_cons, List.length_nil, Try.ntmps60]; omega) ?_
  simp -implicitDefEqProofs only [go_sem, Try.results60]
  refine loop_rule (fun (x : List Tm × List Tm × Nat) => hd [(0, vT (.sl 2 (x.1.map tmC ++ (mkTms x.2.1 x.2.2).1.map tmC))), (1, vI x.2.2), (5, vI x.1.length)] [] [])
    (fun x => (mkTms xs k).1 = x.1 ++ (mkTms x.2.1 x.2.2).1 ∧ (mkTms xs k).2 = (mkTms x.2.1 x.2.2).2 ∧ 0 < x.2.2 ∧ x.2.2 + ctTms x.2.1 ≤ 4611686018427387904 ∧ x.1.length + x.2.1.length = xs.length ∧ ∀ a ∈ x.2.1, a ∈ xs) (fun x => x.2.1.length) ([], xs, k) (weak_hd ?_) ?_ ?_
  · simp -implicitDefEqProofs only [go_sem]
  · exact ⟨rfl, rfl, h0, hk, by simp, fun _ h => h⟩
  · intro ⟨dn, rest, kk⟩ ⟨h1, h2, h3, h4, h6, h5⟩
    simp only at h1 h2 h3 h4 h5 h6
    cases rest with
    | nil =>
      simp only [mkTms, List.append_nil] at h1 h2
      simp -implicitDefEqProofs only [go_sem, h2, mkTms]
    | cons a rest =>
      obtain ⟨n0, s0⟩ := a
      simp only [mkTms, mk1Tms, ctTms, ct1Tms] at h1 h2 h4
      have hc_s0 := mkTms_ct s0 (kk + 1)
      have w0 : IntKind.i64.wrap (((kk : Nat) : Int) + 1) = ((kk + 1 : Nat) : Int) := wrap_s (by omega)
      have hln := ctTms_len xs
      rw [List.length_cons] at h6
      have wl : IntKind.i64.wrap ((dn.length : Int) + 1) = ((dn.length + 1 : Nat) : Int) := wrap_s (by omega)
      simp -implicitDefEqProofs only [go_sem, mkTms, mk1Tms, tmC_eq (.mk _ _), Tm.name, Tm.args]
      refine drawn (by kernel_rfl) ?_
      simp -implicitDefEqProofs only [go_sem]
      refine dCallF (markText_c kk (by omega) (by omega)) (by simp -implicitDefEqProofs only [go_sem, beq_self_eq_true, bne_self_eq_false, w0]) ?_
      simp -implicitDefEqProofs only [go_sem, beq_self_eq_true, bne_self_eq_false, w0]
      refine ⟨by kernel_rfl, ?_⟩
      refine callF (H (.mk n0 s0) (h5 _ (by simp)) (kk + 1) (by omega) (by show (kk + 1) + ctTms s0 ≤ _; omega)) (by simp -implicitDefEqProofs only [go_sem, w0, Tm.name, Tm.args]) ?_
      simp -implicitDefEqProofs only [go_sem, w0, Tm.name, Tm.args]
      refine ⟨(dn ++ [.mk (mtx kk) (mkTms s0 (kk + 1)).1], rest, (mkTms s0 (kk + 1)).2), ⟨by simpa using h1, h2, by show 0 < (mkTms s0 (kk + 1)).2; omega, by show (mkTms s0 (kk + 1)).2 + ctTms rest ≤ _; omega, by simp; omega, fun b hb => h5 b (by simp [hb])⟩, by simp, weak_hd ?_⟩
      simp -implicitDefEqProofs only [go_sem, wl, tmC_eq (.mk _ _), Tm.name, Tm.args, List.map_append, List.append_assoc]
theorem heldTermS_c (xs : List Tm) (k : Nat) (h0 : 0 < k) (hk : k + ctTms xs ≤ 4611686018427387904) : FC Try.prog 60 [.one (tmS (mkTms xs k).1), iD k] [iD (mkTms xs k).2] :=
  heldTermS_of xs (fun a _ => tm_ind (P := fun a => ∀ k : Nat, 0 < k → k + ctTms a.args ≤ 4611686018427387904 → FC Try.prog 60 [.one (tmS (mkTms a.args k).1), iD k] [iD (mkTms a.args k).2]) (fun n ys ih => heldTermS_of ys ih) a) k h0 hk
mutual
def mk1Fms : Fm → Nat → Fm × Nat
  | .mk o0 (.mk n0 s0) v0 p0, k => (.mk ((k : Nat) : Int) (.mk (mtx (k + 1)) (mkTms s0 ((k + 1) + 1)).1) (mtx (mkTms s0 ((k + 1) + 1)).2) (mkFms p0 ((mkTms s0 ((k + 1) + 1)).2 + 1)).1, (mkFms p0 ((mkTms s0 ((k + 1) + 1)).2 + 1)).2)
def mkFms : List Fm → Nat → List Fm × Nat
  | [], k => ([], k)
  | a :: xs, k => ((mk1Fms a k).1 :: (mkFms xs (mk1Fms a k).2).1, (mkFms xs (mk1Fms a k).2).2)
end
mutual
def ct1Fms : Fm → Nat
  | .mk o0 (.mk n0 s0) v0 p0 => 1 + 1 + 1 + ctTms s0 + 1 + ctFms p0
def ctFms : List Fm → Nat
  | [] => 0
  | a :: xs => ct1Fms a + ctFms xs
end
mutual
theorem mk1Fms_ct : ∀ (a : Fm) (k : Nat), k ≤ (mk1Fms a k).2 ∧ (mk1Fms a k).2 ≤ k + ct1Fms a
  | .mk o0 (.mk n0 s0) v0 p0, k => by have h_s0 := mkTms_ct s0 ((k + 1) + 1); have h_p0 := mkFms_ct p0 ((mkTms s0 ((k + 1) + 1)).2 + 1); simp only [mk1Fms, ct1Fms]; omega
theorem mkFms_ct : ∀ (xs : List Fm) (k : Nat), k ≤ (mkFms xs k).2 ∧ (mkFms xs k).2 ≤ k + ctFms xs
  | [], k => ⟨Nat.le_refl _, Nat.le_refl _⟩
  | a :: xs, k => by have h1 := mk1Fms_ct a k; have h2 := mkFms_ct xs (mk1Fms a k).2; simp only [mkFms, ctFms]; omega
end
theorem ctFms_len : ∀ xs : List Fm, xs.length ≤ ctFms xs
  | [] => Nat.le_refl _
  | a :: xs => by have := ctFms_len xs; have : 1 ≤ ct1Fms a := by obtain ⟨o0, ⟨n0, s0⟩, v0, p0⟩ := a; simp only [ct1Fms]; omega
                  simp only [List.length_cons, ctFms]; omega
theorem markFormulaS_of (xs : List Fm) (H : ∀ a ∈ xs, ∀ k : Nat, 0 < k → k + ctFms a.parts ≤ 4611686018427387904 → IC Try.prog 38 [] (.one (fmS a.parts)) [iD k] (.one (fmS (mkFms a.parts k).1)) [iD (mkFms a.parts k).2]) :
    ∀ k : Nat, 0 < k → k + ctFms xs ≤ 4611686018427387904 → IC Try.prog 38 [] (.one (fmS xs)) [iD k] (.one (fmS (mkFms xs k).1)) [iD (mkFms xs k).2] := by
  intro k h0 hk
  refine IC_ofP Try.call38 Try.func38 rfl (by kernel_rfl) (by simp only [argsI, rd, List.map_cons, List.map_nil, List.nil_append, List.length_cons, List.length_nil, Try.ntmps38]; omega) (by simp only [Try.ntmps38]; omega) (fun vs => ?_)
  simp -implicitDefEqProofs only [go_sem, Try.results38, initP, initI, argsI, PI]
  refine loop_rule (fun (x : List Fm × List Fm × Nat) => hd [(0, .one (.ow 0 0)), (1000000, .one (.ow 0 0)), (1, vI x.2.2), (5, vI x.1.length)] [] [(0, ⟨true, 5, x.1.map fmC ++ pinRs vs x.1.length (x.2.1.map fmC), 0, true⟩)])
    (fun x => (mkFms xs k).1 = x.1 ++ (mkFms x.2.1 x.2.2).1 ∧ (mkFms xs k).2 = (mkFms x.2.1 x.2.2).2 ∧ 0 < x.2.2 ∧ x.2.2 + ctFms x.2.1 ≤ 4611686018427387904 ∧ x.1.length + x.2.1.length = xs.length ∧ ∀ a ∈ x.2.1, a ∈ xs) (fun x => x.2.1.length) ([], xs, k) (weak_hd ?_) ?_ ?_
  · simp -implicitDefEqProofs only [go_sem]
  · exact ⟨rfl, rfl, h0, hk, by simp, fun _ h => h⟩
  · intro ⟨dn, rest, kk⟩ ⟨h1, h2, h3, h4, h6, h5⟩
    simp only at h1 h2 h3 h4 h5 h6
    cases rest with
    | nil =>
      simp only [mkFms, List.append_nil] at h1 h2
      simp -implicitDefEqProofs only [go_sem, h1, h2]
    | cons a rest =>
      obtain ⟨o0, ⟨n0, s0⟩, v0, p0⟩ := a
      simp only [mkFms, mk1Fms, ctFms, ct1Fms] at h1 h2 h4
      have hc_s0 := mkTms_ct s0 ((kk + 1) + 1)
      have hc_p0 := mkFms_ct p0 ((mkTms s0 ((kk + 1) + 1)).2 + 1)
      have w0 : IntKind.i64.wrap (((kk : Nat) : Int) + 1) = ((kk + 1 : Nat) : Int) := wrap_s (by omega)
      have w1 : IntKind.i64.wrap ((((kk + 1) : Nat) : Int) + 1) = (((kk + 1) + 1 : Nat) : Int) := wrap_s (by omega)
      have w2 : IntKind.i64.wrap ((((mkTms s0 ((kk + 1) + 1)).2 : Nat) : Int) + 1) = (((mkTms s0 ((kk + 1) + 1)).2 + 1 : Nat) : Int) := wrap_s (by omega)
      have hln := ctFms_len xs
      rw [List.length_cons] at h6
      have wl : IntKind.i64.wrap ((dn.length : Int) + 1) = ((dn.length + 1 : Nat) : Int) := wrap_s (by omega)
      simp -implicitDefEqProofs only [go_sem, fmC_eq (.mk _ _ _ _), Fm.op, Fm.atom, Fm.var, Fm.parts, Tm.name, Tm.args]
      refine storeD (by simp -implicitDefEqProofs only [go_sem, implies_true, w0, w1, w2]) ?_
      simp -implicitDefEqProofs only [go_sem, implies_true, w0, w1, w2]
      refine callF (markText_c (kk + 1) (by omega) (by omega)) (by simp -implicitDefEqProofs only [go_sem, w0, w1, w2]) ?_
      simp -implicitDefEqProofs only [go_sem, w0, w1, w2]
      refine storeD (by simp -implicitDefEqProofs only [go_sem, implies_true, w0, w1, w2]) ?_
      simp -implicitDefEqProofs only [go_sem, implies_true, w0, w1, w2]
      refine callN (l := [(0, .one (.ow 0 0)), (1000000, .one (.ow 0 0)), (5, vI dn.length), (33, .one (.cv (vs dn.length 2))), (34, vI (((kk + 1) + 1) : Nat))]) (bl := []) (el := [(0, ⟨true, 5, dn.map fmC ++ [.int .i64 ((kk : Nat) : Int), .str (mtx (kk + 1)), .pin (vs dn.length 2) (tmS s0), .str v0, .pin (vs dn.length 4) (fmS p0)] :: pinRs vs (dn.length + 1) (rest.map fmC), 0, true⟩)]) 0 dn.length 2 (markTermS_c s0 ((kk + 1) + 1) (by omega) (by omega)) (by simp -implicitDefEqProofs only [go_sem, w0, w1, w2, tmS]) rfl rfl rfl (by simp -implicitDefEqProofs only [go_sem, tmS, Fm.op, Fm.atom, Fm.var, Fm.parts, Tm.name, Tm.args]) rfl ?_
      simp -implicitDefEqProofs only [go_sem, w0, w1, w2, Fm.op, Fm.atom, Fm.var, Fm.parts, Tm.name, Tm.args]
      refine callF (markText_c (mkTms s0 ((kk + 1) + 1)).2 (by omega) (by omega)) (by simp -implicitDefEqProofs only [go_sem, w0, w1, w2]) ?_
      simp -implicitDefEqProofs only [go_sem, w0, w1, w2]
      refine storeD (by simp -implicitDefEqProofs only [go_sem, implies_true, w0, w1, w2]) ?_
      simp -implicitDefEqProofs only [go_sem, implies_true, w0, w1, w2]
      refine callN (l := [(0, .one (.ow 0 0)), (1000000, .one (.ow 0 0)), (5, vI dn.length), (48, .one (.cv (vs dn.length 4))), (49, vI (((mkTms s0 ((kk + 1) + 1)).2 + 1) : Nat))]) (bl := []) (el := [(0, ⟨true, 5, dn.map fmC ++ [.int .i64 ((kk : Nat) : Int), .str (mtx (kk + 1)), tmS (mkTms s0 ((kk + 1) + 1)).1, .str (mtx (mkTms s0 ((kk + 1) + 1)).2), .pin (vs dn.length 4) (fmS p0)] :: pinRs vs (dn.length + 1) (rest.map fmC), 0, true⟩)]) 0 dn.length 4 (H (.mk o0 (.mk n0 s0) v0 p0) (h5 _ (by simp)) ((mkTms s0 ((kk + 1) + 1)).2 + 1) (by omega) (by show ((mkTms s0 ((kk + 1) + 1)).2 + 1) + ctFms p0 ≤ _; omega)) (by simp -implicitDefEqProofs only [go_sem, w0, w1, w2, fmS]) rfl rfl rfl (by simp -implicitDefEqProofs only [go_sem, fmS, Fm.op, Fm.atom, Fm.var, Fm.parts, Tm.name, Tm.args]) rfl ?_
      simp -implicitDefEqProofs only [go_sem, w0, w1, w2, Fm.op, Fm.atom, Fm.var, Fm.parts, Tm.name, Tm.args]
      refine ⟨(dn ++ [.mk ((kk : Nat) : Int) (.mk (mtx (kk + 1)) (mkTms s0 ((kk + 1) + 1)).1) (mtx (mkTms s0 ((kk + 1) + 1)).2) (mkFms p0 ((mkTms s0 ((kk + 1) + 1)).2 + 1)).1], rest, (mkFms p0 ((mkTms s0 ((kk + 1) + 1)).2 + 1)).2), ⟨by simpa using h1, h2, by show 0 < (mkFms p0 ((mkTms s0 ((kk + 1) + 1)).2 + 1)).2; omega, by show (mkFms p0 ((mkTms s0 ((kk + 1) + 1)).2 + 1)).2 + ctFms rest ≤ _; omega, by simp; omega, fun b hb => h5 b (by simp [hb])⟩, by simp, weak_hd ?_⟩
      simp -implicitDefEqProofs only [go_sem, wl, fmC_eq (.mk _ _ _ _), Fm.op, Fm.atom, Fm.var, Fm.parts, Tm.name, Tm.args, List.map_append, List.append_assoc]
theorem markFormulaS_c (xs : List Fm) (k : Nat) (h0 : 0 < k) (hk : k + ctFms xs ≤ 4611686018427387904) : IC Try.prog 38 [] (.one (fmS xs)) [iD k] (.one (fmS (mkFms xs k).1)) [iD (mkFms xs k).2] :=
  markFormulaS_of xs (fun a _ => fm_ind (P := fun a => ∀ k : Nat, 0 < k → k + ctFms a.parts ≤ 4611686018427387904 → IC Try.prog 38 [] (.one (fmS a.parts)) [iD k] (.one (fmS (mkFms a.parts k).1)) [iD (mkFms a.parts k).2]) (fun o b v ps ih => markFormulaS_of ps ih) a) k h0 hk
theorem heldFormulaS_of (xs : List Fm) (H : ∀ a ∈ xs, ∀ k : Nat, 0 < k → k + ctFms a.parts ≤ 4611686018427387904 → FC Try.prog 41 [.one (fmS (mkFms a.parts k).1), iD k] [iD (mkFms a.parts k).2]) :
    ∀ k : Nat, 0 < k → k + ctFms xs ≤ 4611686018427387904 → FC Try.prog 41 [.one (fmS (mkFms xs k).1), iD k] [iD (mkFms xs k).2] := by
  intro k h0 hk
  refine FC_of Try.call41 Try.func41 rfl (by kernel_rfl) (by simp only [rd, List.map_cons, List.map_nil, List.length_cons, List.length_nil, Try.ntmps41]; omega) ?_
  simp -implicitDefEqProofs only [go_sem, Try.results41]
  refine loop_rule (fun (x : List Fm × List Fm × Nat) => hd [(0, vT (.sl 5 (x.1.map fmC ++ (mkFms x.2.1 x.2.2).1.map fmC))), (1, vI x.2.2), (5, vI x.1.length)] [] [])
    (fun x => (mkFms xs k).1 = x.1 ++ (mkFms x.2.1 x.2.2).1 ∧ (mkFms xs k).2 = (mkFms x.2.1 x.2.2).2 ∧ 0 < x.2.2 ∧ x.2.2 + ctFms x.2.1 ≤ 4611686018427387904 ∧ x.1.length + x.2.1.length = xs.length ∧ ∀ a ∈ x.2.1, a ∈ xs) (fun x => x.2.1.length) ([], xs, k) (weak_hd ?_) ?_ ?_
  · simp -implicitDefEqProofs only [go_sem]
  · exact ⟨rfl, rfl, h0, hk, by simp, fun _ h => h⟩
  · intro ⟨dn, rest, kk⟩ ⟨h1, h2, h3, h4, h6, h5⟩
    simp only at h1 h2 h3 h4 h5 h6
    cases rest with
    | nil =>
      simp only [mkFms, List.append_nil] at h1 h2
      simp -implicitDefEqProofs only [go_sem, h2, mkFms]
    | cons a rest =>
      obtain ⟨o0, ⟨n0, s0⟩, v0, p0⟩ := a
      simp only [mkFms, mk1Fms, ctFms, ct1Fms] at h1 h2 h4
      have hc_s0 := mkTms_ct s0 ((kk + 1) + 1)
      have hc_p0 := mkFms_ct p0 ((mkTms s0 ((kk + 1) + 1)).2 + 1)
      have w0 : IntKind.i64.wrap (((kk : Nat) : Int) + 1) = ((kk + 1 : Nat) : Int) := wrap_s (by omega)
      have w1 : IntKind.i64.wrap ((((kk + 1) : Nat) : Int) + 1) = (((kk + 1) + 1 : Nat) : Int) := wrap_s (by omega)
      have w2 : IntKind.i64.wrap ((((mkTms s0 ((kk + 1) + 1)).2 : Nat) : Int) + 1) = (((mkTms s0 ((kk + 1) + 1)).2 + 1 : Nat) : Int) := wrap_s (by omega)
      have hln := ctFms_len xs
      rw [List.length_cons] at h6
      have wl : IntKind.i64.wrap ((dn.length : Int) + 1) = ((dn.length + 1 : Nat) : Int) := wrap_s (by omega)
      simp -implicitDefEqProofs only [go_sem, mkFms, mk1Fms, fmC_eq (.mk _ _ _ _), Fm.op, Fm.atom, Fm.var, Fm.parts, Tm.name, Tm.args]
      simp only [bne_self_eq_false]
      simp -implicitDefEqProofs only [go_sem, w0, w1, w2]
      refine drawn (by kernel_rfl) ?_
      simp -implicitDefEqProofs only [go_sem]
      refine dCallF (markText_c (kk + 1) (by omega) (by omega)) (by simp -implicitDefEqProofs only [go_sem, beq_self_eq_true, bne_self_eq_false, w0, w1, w2]) ?_
      simp -implicitDefEqProofs only [go_sem, beq_self_eq_true, bne_self_eq_false, w0, w1, w2]
      refine ⟨by kernel_rfl, ?_⟩
      refine callF (heldTermS_c s0 ((kk + 1) + 1) (by omega) (by omega)) (by simp -implicitDefEqProofs only [go_sem, w0, w1, w2, Fm.op, Fm.atom, Fm.var, Fm.parts, Tm.name, Tm.args]) ?_
      simp -implicitDefEqProofs only [go_sem, w0, w1, w2, Fm.op, Fm.atom, Fm.var, Fm.parts, Tm.name, Tm.args]
      refine drawn (by kernel_rfl) ?_
      simp -implicitDefEqProofs only [go_sem]
      refine dCallF (markText_c (mkTms s0 ((kk + 1) + 1)).2 (by omega) (by omega)) (by simp -implicitDefEqProofs only [go_sem, beq_self_eq_true, bne_self_eq_false, w0, w1, w2]) ?_
      simp -implicitDefEqProofs only [go_sem, beq_self_eq_true, bne_self_eq_false, w0, w1, w2]
      refine ⟨by kernel_rfl, ?_⟩
      refine callF (H (.mk o0 (.mk n0 s0) v0 p0) (h5 _ (by simp)) ((mkTms s0 ((kk + 1) + 1)).2 + 1) (by omega) (by show ((mkTms s0 ((kk + 1) + 1)).2 + 1) + ctFms p0 ≤ _; omega)) (by simp -implicitDefEqProofs only [go_sem, w0, w1, w2, Fm.op, Fm.atom, Fm.var, Fm.parts, Tm.name, Tm.args]) ?_
      simp -implicitDefEqProofs only [go_sem, w0, w1, w2, Fm.op, Fm.atom, Fm.var, Fm.parts, Tm.name, Tm.args]
      refine ⟨(dn ++ [.mk ((kk : Nat) : Int) (.mk (mtx (kk + 1)) (mkTms s0 ((kk + 1) + 1)).1) (mtx (mkTms s0 ((kk + 1) + 1)).2) (mkFms p0 ((mkTms s0 ((kk + 1) + 1)).2 + 1)).1], rest, (mkFms p0 ((mkTms s0 ((kk + 1) + 1)).2 + 1)).2), ⟨by simpa using h1, h2, by show 0 < (mkFms p0 ((mkTms s0 ((kk + 1) + 1)).2 + 1)).2; omega, by show (mkFms p0 ((mkTms s0 ((kk + 1) + 1)).2 + 1)).2 + ctFms rest ≤ _; omega, by simp; omega, fun b hb => h5 b (by simp [hb])⟩, by simp, weak_hd ?_⟩
      simp -implicitDefEqProofs only [go_sem, wl, fmC_eq (.mk _ _ _ _), Fm.op, Fm.atom, Fm.var, Fm.parts, Tm.name, Tm.args, List.map_append, List.append_assoc]
theorem heldFormulaS_c (xs : List Fm) (k : Nat) (h0 : 0 < k) (hk : k + ctFms xs ≤ 4611686018427387904) : FC Try.prog 41 [.one (fmS (mkFms xs k).1), iD k] [iD (mkFms xs k).2] :=
  heldFormulaS_of xs (fun a _ => fm_ind (P := fun a => ∀ k : Nat, 0 < k → k + ctFms a.parts ≤ 4611686018427387904 → FC Try.prog 41 [.one (fmS (mkFms a.parts k).1), iD k] [iD (mkFms a.parts k).2]) (fun o b v ps ih => heldFormulaS_of ps ih) a) k h0 hk
def mkTTerm : Tm → Nat → Tm × Nat
  | .mk n0 s0, k => (.mk n0 (mkTms s0 k).1, (mkTms s0 k).2)
def ctTTerm : Tm → Nat
  | .mk n0 s0 => ctTms s0
theorem mkTTerm_ct : ∀ (a : Tm) (k : Nat), k ≤ (mkTTerm a k).2 ∧ (mkTTerm a k).2 ≤ k + ctTTerm a
  | .mk n0 s0, k => by have h0 := mkTms_ct s0 k; simp only [mkTTerm, ctTTerm]; omega
theorem markTerm_c (a : Tm) (k : Nat) (h0 : 0 < k) (hk : k + ctTTerm a ≤ 4611686018427387904) : IC Try.prog 39 [] (.agg (tmC a)) [iD k] (.agg (tmC (mkTTerm a k).1)) [iD (mkTTerm a k).2] := by
  obtain ⟨n0, s0⟩ := a
  simp only [ctTTerm] at hk
  have hc0 := mkTms_ct s0 k
  simp only [tmC_eq (.mk _ _), Tm.name, Tm.args, mkTTerm]
  refine IC_of Try.call39 Try.func39 rfl (by kernel_rfl) (by simp only [argsI, rd, List.map_cons, List.map_nil, List.nil_append, List.length_cons, List.length_nil, Try.ntmps39]; omega) (by simp only [Try.ntmps39]; omega) ⟨⟨by simp, by simp [T.isPin]⟩, smallG_rd _⟩ trivial ?_
  simp -implicitDefEqProofs only [go_sem, Try.results39, initI, argsI, PI]
  refine callId (l := [(1000000, .agg [.t (.str n0), .ow 1 0]), (2, .one (.bx 2 0)), (6, .one (.ow 1 0)), (7, vI (k : Nat))]) (bl := [(2, [.t (.str n0), .ow 1 0])]) (el := [(1, ⟨true, 2, (s0).map tmC, 0, true⟩)]) (markTermS_c s0 k (by omega) (by omega)) (by simp -implicitDefEqProofs only [go_sem, tmC_eq (.mk _ _), Tm.name, Tm.args, tmS]) rfl rfl rfl (by simp -implicitDefEqProofs only [go_sem, tmC_eq (.mk _ _), Tm.name, Tm.args, tmS]) rfl ?_
  simp -implicitDefEqProofs only [go_sem, tmC_eq (.mk _ _), Tm.name, Tm.args, tmS]
theorem heldTerm_c (a : Tm) (k : Nat) (h0 : 0 < k) (hk : k + ctTTerm a ≤ 4611686018427387904) : FC Try.prog 40 [.agg (tmC (mkTTerm a k).1), iD k] [iD (mkTTerm a k).2] := by
  obtain ⟨n0, s0⟩ := a
  simp only [ctTTerm] at hk
  have hc0 := mkTms_ct s0 k
  simp only [tmC_eq (.mk _ _), Tm.name, Tm.args, mkTTerm]
  refine FC_of Try.call40 Try.func40 rfl (by kernel_rfl) (by simp only [rd, List.map_cons, List.map_nil, List.length_cons, List.length_nil, Try.ntmps40]; omega) ?_
  simp -implicitDefEqProofs only [go_sem, Try.results40]
  refine callF (heldTermS_c s0 k (by omega) (by omega)) (by simp -implicitDefEqProofs only [go_sem, tmC_eq (.mk _ _), Tm.name, Tm.args]) ?_
  simp -implicitDefEqProofs only [go_sem, tmC_eq (.mk _ _), Tm.name, Tm.args]
def mkTFormula : Fm → Nat → Fm × Nat
  | .mk o0 (.mk n0 s0) v0 p0, k => (.mk o0 (.mk n0 (mkTTerm (.mk n0 s0) k).1.args) v0 (mkFms p0 (mkTTerm (.mk n0 s0) k).2).1, (mkFms p0 (mkTTerm (.mk n0 s0) k).2).2)
def ctTFormula : Fm → Nat
  | .mk o0 (.mk n0 s0) v0 p0 => ctTTerm (.mk n0 s0) + ctFms p0
theorem mkTFormula_ct : ∀ (a : Fm) (k : Nat), k ≤ (mkTFormula a k).2 ∧ (mkTFormula a k).2 ≤ k + ctTFormula a
  | .mk o0 (.mk n0 s0) v0 p0, k => by have h0 := mkTTerm_ct (.mk n0 s0) k; have h37 := mkFms_ct p0 (mkTTerm (.mk n0 s0) k).2; simp only [mkTFormula, ctTFormula]; omega
theorem markFormula_c (a : Fm) (k : Nat) (h0 : 0 < k) (hk : k + ctTFormula a ≤ 4611686018427387904) : IC Try.prog 16 [] (.agg (fmC a)) [iD k] (.agg (fmC (mkTFormula a k).1)) [iD (mkTFormula a k).2] := by
  obtain ⟨o0, ⟨n0, s0⟩, v0, p0⟩ := a
  simp only [ctTFormula] at hk
  have hc0 := mkTTerm_ct (.mk n0 s0) k
  have hc1 := mkFms_ct p0 (mkTTerm (.mk n0 s0) k).2
  simp only [fmC_eq (.mk _ _ _ _), tmC_eq (.mk _ _), Fm.op, Fm.atom, Fm.var, Fm.parts, Tm.name, Tm.args, mkTFormula, mkTTerm]
  refine IC_of Try.call16 Try.func16 rfl (by kernel_rfl) (by simp only [argsI, rd, List.map_cons, List.map_nil, List.nil_append, List.length_cons, List.length_nil, Try.ntmps16]; omega) (by simp only [Try.ntmps16]; omega) ⟨⟨by simp, by simp [T.isPin]⟩, smallG_rd _⟩ trivial ?_
  simp -implicitDefEqProofs only [go_sem, Try.results16, initI, argsI, PI]
  refine callId (l := [(1000000, .agg [.t (.int .i64 o0), .t (.str n0), .ow 2 0, .t (.str v0), .ow 4 0]), (2, .one (.bx 2 0)), (6, .agg [.t (.str n0), .ow 2 0]), (7, vI (k : Nat))]) (bl := [(2, [.t (.int .i64 o0), .t (.str n0), .ow 2 0, .t (.str v0), .ow 4 0])]) (el := [(2, ⟨true, 2, (s0).map tmC, 0, true⟩), (4, ⟨true, 5, (p0).map fmC, 0, true⟩)]) (markTerm_c (.mk n0 s0) k (by omega) (by omega)) (by simp -implicitDefEqProofs only [go_sem, fmC_eq (.mk _ _ _ _), tmC_eq (.mk _ _), Fm.op, Fm.atom, Fm.var, Fm.parts, Tm.name, Tm.args, mkTTerm, tmS]) rfl rfl rfl (by simp -implicitDefEqProofs only [go_sem, fmC_eq (.mk _ _ _ _), tmC_eq (.mk _ _), Fm.op, Fm.atom, Fm.var, Fm.parts, Tm.name, Tm.args, mkTTerm, tmS]) rfl ?_
  simp -implicitDefEqProofs only [go_sem, fmC_eq (.mk _ _ _ _), tmC_eq (.mk _ _), Fm.op, Fm.atom, Fm.var, Fm.parts, Tm.name, Tm.args, mkTTerm, tmS]
  refine callId (l := [(1000000, .agg [.t (.int .i64 o0), .t (.str n0), .ow 2 0, .t (.str v0), .ow 4 0]), (2, .one (.bx 2 0)), (10, .one (.ow 4 0)), (11, vI ((mkTTerm (.mk n0 s0) k).2 : Nat))]) (bl := [(2, [.t (.int .i64 o0), .t (.str n0), .ow 2 0, .t (.str v0), .ow 4 0])]) (el := [(2, ⟨true, 2, ((mkTms s0 k).1).map tmC, 0, true⟩), (4, ⟨true, 5, (p0).map fmC, 0, true⟩)]) (markFormulaS_c p0 (mkTTerm (.mk n0 s0) k).2 (by omega) (by omega)) (by simp -implicitDefEqProofs only [go_sem, fmC_eq (.mk _ _ _ _), tmC_eq (.mk _ _), Fm.op, Fm.atom, Fm.var, Fm.parts, Tm.name, Tm.args, mkTTerm, fmS]) rfl rfl rfl (by simp -implicitDefEqProofs only [go_sem, fmC_eq (.mk _ _ _ _), tmC_eq (.mk _ _), Fm.op, Fm.atom, Fm.var, Fm.parts, Tm.name, Tm.args, mkTTerm, fmS]) rfl ?_
  simp -implicitDefEqProofs only [go_sem, fmC_eq (.mk _ _ _ _), tmC_eq (.mk _ _), Fm.op, Fm.atom, Fm.var, Fm.parts, Tm.name, Tm.args, mkTTerm, fmS]
theorem heldFormula_c (a : Fm) (k : Nat) (h0 : 0 < k) (hk : k + ctTFormula a ≤ 4611686018427387904) : FC Try.prog 17 [.agg (fmC (mkTFormula a k).1), iD k] [iD (mkTFormula a k).2] := by
  obtain ⟨o0, ⟨n0, s0⟩, v0, p0⟩ := a
  simp only [ctTFormula] at hk
  have hc0 := mkTTerm_ct (.mk n0 s0) k
  have hc1 := mkFms_ct p0 (mkTTerm (.mk n0 s0) k).2
  simp only [fmC_eq (.mk _ _ _ _), tmC_eq (.mk _ _), Fm.op, Fm.atom, Fm.var, Fm.parts, Tm.name, Tm.args, mkTFormula]
  refine FC_of Try.call17 Try.func17 rfl (by kernel_rfl) (by simp only [rd, List.map_cons, List.map_nil, List.length_cons, List.length_nil, Try.ntmps17]; omega) ?_
  simp -implicitDefEqProofs only [go_sem, Try.results17]
  refine callF (heldTerm_c (.mk n0 s0) k (by omega) (by omega)) (by simp -implicitDefEqProofs only [go_sem, fmC_eq (.mk _ _ _ _), tmC_eq (.mk _ _), Fm.op, Fm.atom, Fm.var, Fm.parts, Tm.name, Tm.args, mkTTerm]) ?_
  simp -implicitDefEqProofs only [go_sem, fmC_eq (.mk _ _ _ _), tmC_eq (.mk _ _), Fm.op, Fm.atom, Fm.var, Fm.parts, Tm.name, Tm.args, mkTTerm]
  refine callF (heldFormulaS_c p0 (mkTTerm (.mk n0 s0) k).2 (by omega) (by omega)) (by simp -implicitDefEqProofs only [go_sem, fmC_eq (.mk _ _ _ _), tmC_eq (.mk _ _), Fm.op, Fm.atom, Fm.var, Fm.parts, Tm.name, Tm.args, mkTTerm]) ?_
  simp -implicitDefEqProofs only [go_sem, fmC_eq (.mk _ _ _ _), tmC_eq (.mk _ _), Fm.op, Fm.atom, Fm.var, Fm.parts, Tm.name, Tm.args, mkTTerm]
def mkTSequent : Sq → Nat → Sq × Nat
  | ⟨l0, r0⟩, k => (⟨(mkFms l0 k).1, (mkFms r0 (mkFms l0 k).2).1⟩, (mkFms r0 (mkFms l0 k).2).2)
def ctTSequent : Sq → Nat
  | ⟨l0, r0⟩ => ctFms l0 + ctFms r0
theorem mkTSequent_ct : ∀ (a : Sq) (k : Nat), k ≤ (mkTSequent a k).2 ∧ (mkTSequent a k).2 ≤ k + ctTSequent a
  | ⟨l0, r0⟩, k => by have h0 := mkFms_ct l0 k; have h26 := mkFms_ct r0 (mkFms l0 k).2; simp only [mkTSequent, ctTSequent]; omega
theorem markSequent_c (a : Sq) (k : Nat) (h0 : 0 < k) (hk : k + ctTSequent a ≤ 4611686018427387904) : IC Try.prog 15 [] (.agg (sqC a)) [iD k] (.agg (sqC (mkTSequent a k).1)) [iD (mkTSequent a k).2] := by
  obtain ⟨l0, r0⟩ := a
  simp only [ctTSequent] at hk
  have hc0 := mkFms_ct l0 k
  have hc1 := mkFms_ct r0 (mkFms l0 k).2
  simp only [sqC_eq, mkTSequent]
  refine IC_of Try.call15 Try.func15 rfl (by kernel_rfl) (by simp only [argsI, rd, List.map_cons, List.map_nil, List.nil_append, List.length_cons, List.length_nil, Try.ntmps15]; omega) (by simp only [Try.ntmps15]; omega) ⟨⟨by simp, by simp [T.isPin]⟩, smallG_rd _⟩ trivial ?_
  simp -implicitDefEqProofs only [go_sem, Try.results15, initI, argsI, PI]
  refine callId (l := [(1000000, .agg [.ow 0 0, .ow 1 0]), (2, .one (.bx 2 0)), (6, .one (.ow 0 0)), (7, vI (k : Nat))]) (bl := [(2, [.ow 0 0, .ow 1 0])]) (el := [(0, ⟨true, 5, (l0).map fmC, 0, true⟩), (1, ⟨true, 5, (r0).map fmC, 0, true⟩)]) (markFormulaS_c l0 k (by omega) (by omega)) (by simp -implicitDefEqProofs only [go_sem, sqC_eq, fmS]) rfl rfl rfl (by simp -implicitDefEqProofs only [go_sem, sqC_eq, fmS]) rfl ?_
  simp -implicitDefEqProofs only [go_sem, sqC_eq, fmS]
  refine callId (l := [(1000000, .agg [.ow 0 0, .ow 1 0]), (2, .one (.bx 2 0)), (10, .one (.ow 1 0)), (11, vI ((mkFms l0 k).2 : Nat))]) (bl := [(2, [.ow 0 0, .ow 1 0])]) (el := [(0, ⟨true, 5, ((mkFms l0 k).1).map fmC, 0, true⟩), (1, ⟨true, 5, (r0).map fmC, 0, true⟩)]) (markFormulaS_c r0 (mkFms l0 k).2 (by omega) (by omega)) (by simp -implicitDefEqProofs only [go_sem, sqC_eq, fmS]) rfl rfl rfl (by simp -implicitDefEqProofs only [go_sem, sqC_eq, fmS]) rfl ?_
  simp -implicitDefEqProofs only [go_sem, sqC_eq, fmS]
end Go.Proofs.Ytgfjbbbkploonaa
/-
  Bounds for marks; the cells of marked formulas.
  Conditions: none.
-/
namespace Go.Proofs.Ytgfjbbbkploonaa
set_option linter.unusedSimpArgs false
set_option linter.unusedVariables false
set_option maxRecDepth 4000
open Go.RowKit
theorem wt_mkF (o : Int) (ps : List Fm) : (mkF o ps).wt = ps.length + (ps.map Fm.wt).sum := by
  rw [Fm.wt_eq]
  show (Tm.mk [] []).wt + 0 + ps.length + _ = _
  rw [Tm.wt_eq]
  simp [Tm.name, Tm.args, mkF, Fm.parts]
mutual
theorem ct1Tms_wt : ∀ a : Tm, ct1Tms a ≤ 2 + 2 * a.wt
  | .mk n s => by
    have := ctTms_wt s
    rw [Tm.wt_eq, ct1Tms]; unfold tmsW at this
    simp only [Tm.name, Tm.args]; omega
theorem ctTms_wt : ∀ xs : List Tm, ctTms xs ≤ 2 * tmsW xs
  | [] => by simp [ctTms]
  | a :: xs => by
    have h1 := ct1Tms_wt a
    have h2 := ctTms_wt xs
    unfold tmsW at h2 ⊢
    rw [ctTms, List.length_cons, List.map_cons, List.sum_cons]; omega
end
mutual
theorem ct1Fms_wt : ∀ a : Fm, ct1Fms a ≤ 4 + 4 * a.wt
  | .mk o (.mk n s) v p => by
    have h1 := ctTms_wt s
    have h2 := ctFms_wt p
    rw [Fm.wt_eq, ct1Fms]; unfold fmsW at h2; unfold tmsW at h1
    simp only [Fm.atom, Fm.var, Fm.parts]
    rw [Tm.wt_eq]
    simp only [Tm.name, Tm.args]; omega
theorem ctFms_wt : ∀ xs : List Fm, ctFms xs ≤ 4 * fmsW xs
  | [] => by simp [ctFms]
  | a :: xs => by
    have h1 := ct1Fms_wt a
    have h2 := ctFms_wt xs
    unfold fmsW at h2 ⊢
    rw [ctFms, List.length_cons, List.map_cons, List.sum_cons]; omega
end
theorem ctTFormula_wt (a : Fm) : ctTFormula a ≤ 4 * a.wt := by
  obtain ⟨o, ⟨n, s⟩, v, p⟩ := a
  have h1 := ctTms_wt s
  have h2 := ctFms_wt p
  rw [Fm.wt_eq, ctTFormula, ctTTerm]; unfold fmsW at h2; unfold tmsW at h1
  simp only [Fm.atom, Fm.var, Fm.parts]
  rw [Tm.wt_eq]
  simp only [Tm.name, Tm.args]; omega
theorem mkTFormula_cells (f : Fm) (k : Nat) : fmC (mkTFormula f k).1 = [.int .i64 f.op, .str f.atom.name, .sl 2 ((mkTFormula f k).1.atom.args.map tmC), .str f.var, .sl 5 ((mkTFormula f k).1.parts.map fmC)] := by
  obtain ⟨o, ⟨n, s⟩, v, p⟩ := f
  rw [fmC_eq]; rfl
end Go.Proofs.Ytgfjbbbkploonaa
