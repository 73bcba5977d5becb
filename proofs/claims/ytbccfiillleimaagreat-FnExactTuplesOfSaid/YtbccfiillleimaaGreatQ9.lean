/-
  FnExactTuplesOf returns true for all arguments, and its arguments read afterwards as they read before.
  Conditions: none.
-/
import Derived.Test.YtbccfiillleimaaGreatQ8
import Derived.Test.YtbccfiillleimaaGreatQ7
import Derived.Test.YtbccfiillleimaaGreatQ5
import Derived.Test.YtbccfiillleimaaGreatRows
import Derived.Test.YtbccfiillleimaaGreatQ1
import Derived.Test.YtbccfiillleimaaGreatQ4
import Derived.ProofKit
import Derived.OpenShut
import Derived.ShutString
import Derived.ChangeOld
namespace Go.Proofs.YtbccfiillleimaaGreat
set_option linter.unusedSimpArgs false
set_option linter.unusedVariables false
set_option linter.unusedSectionVars false
set_option maxRecDepth 4000
open Go.RowKit
def mk1Tmss : (List Tm) → Nat → (List Tm) × Nat
 | s0, k => ((mkTms s0 k).1, (mkTms s0 k).2)
def mkTmss : List (List Tm) → Nat → List (List Tm) × Nat
 | [], k => ([], k)
 | a :: xs, k => ((mk1Tmss a k).1 :: (mkTmss xs (mk1Tmss a k).2).1, (mkTmss xs (mk1Tmss a k).2).2)
def ct1Tmss : (List Tm) → Nat
 | s0 => 1 + ctTms s0
def ctTmss : List (List Tm) → Nat
 | [] => 0
 | a :: xs => ct1Tmss a + ctTmss xs
theorem mk1Tmss_ct : ∀ (a : (List Tm)) (k : Nat), k ≤ (mk1Tmss a k).2 ∧ (mk1Tmss a k).2 ≤ k + ct1Tmss a
 | s0, k => by have h_s0 := mkTms_ct s0 k; simp only [mk1Tmss, ct1Tmss]; omega
theorem mkTmss_ct : ∀ (xs : List (List Tm)) (k : Nat), k ≤ (mkTmss xs k).2 ∧ (mkTmss xs k).2 ≤ k + ctTmss xs
 | [], k => ⟨Nat.le_refl _, Nat.le_refl _⟩
 | a :: xs, k => by have h1 := mk1Tmss_ct a k; have h2 := mkTmss_ct xs (mk1Tmss a k).2; simp only [mkTmss, ctTmss]; omega
theorem ctTmss_len : ∀ xs : List (List Tm), xs.length ≤ ctTmss xs
  | [] => Nat.le_refl _
  | a :: xs => by have := ctTmss_len xs; have : 1 ≤ ct1Tmss a := by simp only [ct1Tmss]; omega
                  simp only [List.length_cons, ctTmss]; omega
theorem markTermSS_of (xs : List (List Tm)) :
  ∀ k : Nat, 0 < k → k + ctTmss xs ≤ 4611686018427387904 → IC Tryz.prog 22 [] (.one (tmSS xs)) [iD k] (.one (tmSS (mkTmss xs k).1)) [iD (mkTmss xs k).2] := by
 intro k h0 hk
 refine IC_ofP Tryz.call22 Tryz.func22 rfl (by kernel_rfl) (by simp only [argsI, rd, List.map_cons, List.map_nil, List.nil_append, List.length_cons, List.length_nil, Tryz.ntmps22]; omega) (by simp only [Tryz.ntmps22]; omega) (fun vs => ?_)
 simp -implicitDefEqProofs only [go_sem, Tryz.results22, initP, initI, argsI, PI]
 refine loop_rule (fun (x : List (List Tm) × List (List Tm) × Nat) => hd [(0, .one (.ow 0 0)), (1000000, .one (.ow 0 0)), (1, vI x.2.2), (5, vI x.1.length)] [] [(0, ⟨true, 1, x.1.map (fun s => [tmS s]) ++ pinRs vs x.1.length (x.2.1.map (fun s => [tmS s])), 0, true⟩)])
  (fun x => (mkTmss xs k).1 = x.1 ++ (mkTmss x.2.1 x.2.2).1 ∧ (mkTmss xs k).2 = (mkTmss x.2.1 x.2.2).2 ∧ 0 < x.2.2 ∧ x.2.2 + ctTmss x.2.1 ≤ 4611686018427387904 ∧ x.1.length + x.2.1.length = xs.length ∧ ∀ a ∈ x.2.1, a ∈ xs) (fun x => x.2.1.length) ([], xs, k) (weak_hd ?_) ?_ ?_
 ·simp -implicitDefEqProofs only [go_sem]
 ·exact ⟨rfl, rfl, h0, hk, by simp, fun _ h => h⟩
 ·intro ⟨dn, rest, kk⟩ ⟨h1, h2, h3, h4, h6, h5⟩
  simp only at h1 h2 h3 h4 h5 h6
  cases rest with
  | nil =>
   simp only [mkTmss, List.append_nil] at h1 h2
   simp -implicitDefEqProofs only [go_sem, h1, h2]
  | cons s0 rest =>
   simp only [mkTmss, mk1Tmss, ctTmss, ct1Tmss] at h1 h2 h4
   have hc_s0 := mkTms_ct s0 kk
   have hln := ctTmss_len xs
   rw [List.length_cons] at h6
   have wl : IntKind.i64.wrap ((dn.length : Int) + 1) = ((dn.length + 1 : Nat) : Int) := wrap_s (by omega)
   simp -implicitDefEqProofs only [go_sem, List.map_cons]
   refine callN (l := [(0, .one (.ow 0 0)), (1000000, .one (.ow 0 0)), (5, vI dn.length), (15, .one (.cv (vs dn.length 0))), (16, vI (kk : Nat))]) (bl := []) (el := [(0, ⟨true, 1, dn.map (fun s => [tmS s]) ++ [.pin (vs dn.length 0) (tmS s0)] :: pinRs vs (dn.length + 1) (rest.map (fun s => [tmS s])), 0, true⟩)]) 0 dn.length 0 (markTermS_c s0 kk (by omega) (by omega)) (by simp -implicitDefEqProofs only [go_sem, tmS]) rfl rfl rfl (by simp -implicitDefEqProofs only [go_sem, tmS]) rfl ?_
   simp -implicitDefEqProofs only [go_sem, wl]
   refine ⟨(dn ++ [(mkTms s0 kk).1], rest, (mkTms s0 kk).2), ⟨by simpa using h1, h2, by show 0 < (mkTms s0 kk).2; omega, by show (mkTms s0 kk).2 + ctTmss rest ≤ _; omega, by simp; omega, fun b hb => h5 b (by simp [hb])⟩, by simp, weak_hd ?_⟩
   simp -implicitDefEqProofs only [go_sem, wl, List.map_cons, List.map_append, List.append_assoc]
theorem markTermSS_c (xs : List (List Tm)) (k : Nat) (h0 : 0 < k) (hk : k + ctTmss xs ≤ 4611686018427387904) : IC Tryz.prog 22 [] (.one (tmSS xs)) [iD k] (.one (tmSS (mkTmss xs k).1)) [iD (mkTmss xs k).2] := markTermSS_of xs k h0 hk
theorem heldTermSS_of (xs : List (List Tm)) :
  ∀ k : Nat, 0 < k → k + ctTmss xs ≤ 4611686018427387904 → FC Tryz.prog 39 [.one (tmSS (mkTmss xs k).1), iD k] [iD (mkTmss xs k).2] := by
 intro k h0 hk
 refine FC_of Tryz.call39 Tryz.func39 rfl (by kernel_rfl) (by simp only [rd, List.map_cons, List.map_nil, List.length_cons, List.length_nil, Tryz.ntmps39]; omega) ?_
 simp -implicitDefEqProofs only [go_sem, Tryz.results39]
 refine loop_rule (fun (x : List (List Tm) × List (List Tm) × Nat) => hd [(0, vT (.sl 1 (x.1.map (fun s => [tmS s]) ++ (mkTmss x.2.1 x.2.2).1.map (fun s => [tmS s])))), (1, vI x.2.2), (5, vI x.1.length)] [] [])
  (fun x => (mkTmss xs k).1 = x.1 ++ (mkTmss x.2.1 x.2.2).1 ∧ (mkTmss xs k).2 = (mkTmss x.2.1 x.2.2).2 ∧ 0 < x.2.2 ∧ x.2.2 + ctTmss x.2.1 ≤ 4611686018427387904 ∧ x.1.length + x.2.1.length = xs.length ∧ ∀ a ∈ x.2.1, a ∈ xs) (fun x => x.2.1.length) ([], xs, k) (weak_hd ?_) ?_ ?_
 ·simp -implicitDefEqProofs only [go_sem]
 ·exact ⟨rfl, rfl, h0, hk, by simp, fun _ h => h⟩
 ·intro ⟨dn, rest, kk⟩ ⟨h1, h2, h3, h4, h6, h5⟩
  simp only at h1 h2 h3 h4 h5 h6
  cases rest with
  | nil =>
   simp only [mkTmss, List.append_nil] at h1 h2
   simp -implicitDefEqProofs only [go_sem, h2, mkTmss]
  | cons s0 rest =>
   simp only [mkTmss, mk1Tmss, ctTmss, ct1Tmss] at h1 h2 h4
   have hc_s0 := mkTms_ct s0 kk
   have hln := ctTmss_len xs
   rw [List.length_cons] at h6
   have wl : IntKind.i64.wrap ((dn.length : Int) + 1) = ((dn.length + 1 : Nat) : Int) := wrap_s (by omega)
   simp -implicitDefEqProofs only [go_sem, mkTmss, mk1Tmss, List.map_cons]
   refine callF (heldTermS_c s0 kk (by omega) (by omega)) (by simp -implicitDefEqProofs only [go_sem, wl]) ?_
   simp -implicitDefEqProofs only [go_sem, wl]
   refine ⟨(dn ++ [(mkTms s0 kk).1], rest, (mkTms s0 kk).2), ⟨by simpa using h1, h2, by show 0 < (mkTms s0 kk).2; omega, by show (mkTms s0 kk).2 + ctTmss rest ≤ _; omega, by simp; omega, fun b hb => h5 b (by simp [hb])⟩, by simp, weak_hd ?_⟩
   simp -implicitDefEqProofs only [go_sem, wl, List.map_cons, List.map_append, List.append_assoc]
theorem heldTermSS_c (xs : List (List Tm)) (k : Nat) (h0 : 0 < k) (hk : k + ctTmss xs ≤ 4611686018427387904) : FC Tryz.prog 39 [.one (tmSS (mkTmss xs k).1), iD k] [iD (mkTmss xs k).2] := heldTermSS_of xs k h0 hk
end Go.Proofs.YtbccfiillleimaaGreat
namespace Go.Proofs.YtbccfiillleimaaGreat
set_option linter.unusedSimpArgs false
set_option linter.unusedVariables false
set_option linter.unusedSectionVars false
set_option maxRecDepth 4000
open Go.RowKit
mutual
def mk1Exs : Ex → Nat → Ex × Nat
 | .mk (.mk o0 (.mk n0 s0) v0 p0) t0 e0, k => (.mk (.mk ((k : Nat) : Int) (.mk (mtx (k + 1)) (mkTms s0 ((k + 1) + 1)).1) (mtx (mkTms s0 ((k + 1) + 1)).2) (mkFms p0 ((mkTms s0 ((k + 1) + 1)).2 + 1)).1) (mkTms t0 (mkFms p0 ((mkTms s0 ((k + 1) + 1)).2 + 1)).2).1 (mkExs e0 (mkTms t0 (mkFms p0 ((mkTms s0 ((k + 1) + 1)).2 + 1)).2).2).1, (mkExs e0 (mkTms t0 (mkFms p0 ((mkTms s0 ((k + 1) + 1)).2 + 1)).2).2).2)
def mkExs : List Ex → Nat → List Ex × Nat
 | [], k => ([], k)
 | a :: xs, k => ((mk1Exs a k).1 :: (mkExs xs (mk1Exs a k).2).1, (mkExs xs (mk1Exs a k).2).2)
end
mutual
def ct1Exs : Ex → Nat
 | .mk (.mk o0 (.mk n0 s0) v0 p0) t0 e0 => 1 + 1 + 1 + ctTms s0 + 1 + ctFms p0 + ctTms t0 + ctExs e0
def ctExs : List Ex → Nat
 | [] => 0
 | a :: xs => ct1Exs a + ctExs xs
end
mutual
theorem mk1Exs_ct : ∀ (a : Ex) (k : Nat), k ≤ (mk1Exs a k).2 ∧ (mk1Exs a k).2 ≤ k + ct1Exs a
 | .mk (.mk o0 (.mk n0 s0) v0 p0) t0 e0, k => by have h_s0 := mkTms_ct s0 ((k + 1) + 1); have h_p0 := mkFms_ct p0 ((mkTms s0 ((k + 1) + 1)).2 + 1); have h_t0 := mkTms_ct t0 (mkFms p0 ((mkTms s0 ((k + 1) + 1)).2 + 1)).2; have h_e0 := mkExs_ct e0 (mkTms t0 (mkFms p0 ((mkTms s0 ((k + 1) + 1)).2 + 1)).2).2; simp only [mk1Exs, ct1Exs]; omega
theorem mkExs_ct : ∀ (xs : List Ex) (k : Nat), k ≤ (mkExs xs k).2 ∧ (mkExs xs k).2 ≤ k + ctExs xs
 | [], k => ⟨Nat.le_refl _, Nat.le_refl _⟩
 | a :: xs, k => by have h1 := mk1Exs_ct a k; have h2 := mkExs_ct xs (mk1Exs a k).2; simp only [mkExs, ctExs]; omega
end
theorem ctExs_len : ∀ xs : List Ex, xs.length ≤ ctExs xs
  | [] => Nat.le_refl _
  | a :: xs => by have := ctExs_len xs; have : 1 ≤ ct1Exs a := by obtain ⟨⟨o0, ⟨n0, s0⟩, v0, p0⟩, t0, e0⟩ := a; simp only [ct1Exs]; omega
                  simp only [List.length_cons, ctExs]; omega
theorem markExpansionS_of (xs : List Ex) (H : ∀ a ∈ xs, ∀ k : Nat, 0 < k → k + ctExs a.parts ≤ 4611686018427387904 → IC Tryz.prog 90 [] (.one (exS a.parts)) [iD k] (.one (exS (mkExs a.parts k).1)) [iD (mkExs a.parts k).2]) :
  ∀ k : Nat, 0 < k → k + ctExs xs ≤ 4611686018427387904 → IC Tryz.prog 90 [] (.one (exS xs)) [iD k] (.one (exS (mkExs xs k).1)) [iD (mkExs xs k).2] := by
 intro k h0 hk
 refine IC_ofP Tryz.call90 Tryz.func90 rfl (by kernel_rfl) (by simp only [argsI, rd, List.map_cons, List.map_nil, List.nil_append, List.length_cons, List.length_nil, Tryz.ntmps90]; omega) (by simp only [Tryz.ntmps90]; omega) (fun vs => ?_)
 simp -implicitDefEqProofs only [go_sem, Tryz.results90, initP, initI, argsI, PI]
 refine loop_rule (fun (x : List Ex × List Ex × Nat) => hd [(0, .one (.ow 0 0)), (1000000, .one (.ow 0 0)), (1, vI x.2.2), (5, vI x.1.length)] [] [(0, ⟨true, 7, x.1.map exC ++ pinRs vs x.1.length (x.2.1.map exC), 0, true⟩)])
  (fun x => (mkExs xs k).1 = x.1 ++ (mkExs x.2.1 x.2.2).1 ∧ (mkExs xs k).2 = (mkExs x.2.1 x.2.2).2 ∧ 0 < x.2.2 ∧ x.2.2 + ctExs x.2.1 ≤ 4611686018427387904 ∧ x.1.length + x.2.1.length = xs.length ∧ ∀ a ∈ x.2.1, a ∈ xs) (fun x => x.2.1.length) ([], xs, k) (weak_hd ?_) ?_ ?_
 ·simp -implicitDefEqProofs only [go_sem]
 ·exact ⟨rfl, rfl, h0, hk, by simp, fun _ h => h⟩
 ·intro ⟨dn, rest, kk⟩ ⟨h1, h2, h3, h4, h6, h5⟩
  simp only at h1 h2 h3 h4 h5 h6
  cases rest with
  | nil =>
   simp only [mkExs, List.append_nil] at h1 h2
   simp -implicitDefEqProofs only [go_sem, h1, h2]
  | cons a rest =>
   obtain ⟨⟨o0, ⟨n0, s0⟩, v0, p0⟩, t0, e0⟩ := a
   simp only [mkExs, mk1Exs, ctExs, ct1Exs] at h1 h2 h4
   have hc_s0 := mkTms_ct s0 ((kk + 1) + 1)
   have hc_p0 := mkFms_ct p0 ((mkTms s0 ((kk + 1) + 1)).2 + 1)
   have hc_t0 := mkTms_ct t0 (mkFms p0 ((mkTms s0 ((kk + 1) + 1)).2 + 1)).2
   have hc_e0 := mkExs_ct e0 (mkTms t0 (mkFms p0 ((mkTms s0 ((kk + 1) + 1)).2 + 1)).2).2
   have w0 : IntKind.i64.wrap (((kk : Nat) : Int) + 1) = ((kk + 1 : Nat) : Int) := wrap_s (by omega)
   have w1 : IntKind.i64.wrap ((((kk + 1) : Nat) : Int) + 1) = (((kk + 1) + 1 : Nat) : Int) := wrap_s (by omega)
   have w2 : IntKind.i64.wrap ((((mkTms s0 ((kk + 1) + 1)).2 : Nat) : Int) + 1) = (((mkTms s0 ((kk + 1) + 1)).2 + 1 : Nat) : Int) := wrap_s (by omega)
   have hln := ctExs_len xs
   rw [List.length_cons] at h6
   have wl : IntKind.i64.wrap ((dn.length : Int) + 1) = ((dn.length + 1 : Nat) : Int) := wrap_s (by omega)
   simp -implicitDefEqProofs only [go_sem, exC_eq (.mk _ _ _), Ex.form, Ex.terms, Ex.parts, Fm.op, Fm.atom, Fm.var, Fm.parts, Tm.name, Tm.args]
   refine storeD (by simp -implicitDefEqProofs only [go_sem, implies_true, w0, w1, w2]) ?_
   simp -implicitDefEqProofs only [go_sem, implies_true, w0, w1, w2]
   refine callF (markText_c (kk + 1) (by omega) (by omega)) (by simp -implicitDefEqProofs only [go_sem, w0, w1, w2]) ?_
   simp -implicitDefEqProofs only [go_sem, w0, w1, w2]
   refine storeD (by simp -implicitDefEqProofs only [go_sem, implies_true, w0, w1, w2]) ?_
   simp -implicitDefEqProofs only [go_sem, implies_true, w0, w1, w2]
   refine callN (l := [(0, .one (.ow 0 0)), (1000000, .one (.ow 0 0)), (5, vI dn.length), (36, .one (.cv (vs dn.length 2))), (37, vI (((kk + 1) + 1) : Nat))]) (bl := []) (el := [(0, ⟨true, 7, dn.map exC ++ [.int .i64 ((kk : Nat) : Int), .str (mtx (kk + 1)), .pin (vs dn.length 2) (tmS s0), .str v0, .pin (vs dn.length 4) (fmS p0), .pin (vs dn.length 5) (tmS t0), .pin (vs dn.length 6) (exS e0)] :: pinRs vs (dn.length + 1) (rest.map exC), 0, true⟩)]) 0 dn.length 2 (markTermS_c s0 ((kk + 1) + 1) (by omega) (by omega)) (by simp -implicitDefEqProofs only [go_sem, w0, w1, w2, tmS]) rfl rfl rfl (by simp -implicitDefEqProofs only [go_sem, tmS, Ex.form, Ex.terms, Ex.parts, Fm.op, Fm.atom, Fm.var, Fm.parts, Tm.name, Tm.args]) rfl ?_
   simp -implicitDefEqProofs only [go_sem, w0, w1, w2, Ex.form, Ex.terms, Ex.parts, Fm.op, Fm.atom, Fm.var, Fm.parts, Tm.name, Tm.args]
   refine callF (markText_c (mkTms s0 ((kk + 1) + 1)).2 (by omega) (by omega)) (by simp -implicitDefEqProofs only [go_sem, w0, w1, w2]) ?_
   simp -implicitDefEqProofs only [go_sem, w0, w1, w2]
   refine storeD (by simp -implicitDefEqProofs only [go_sem, implies_true, w0, w1, w2]) ?_
   simp -implicitDefEqProofs only [go_sem, implies_true, w0, w1, w2]
   refine callN (l := [(0, .one (.ow 0 0)), (1000000, .one (.ow 0 0)), (5, vI dn.length), (53, .one (.cv (vs dn.length 4))), (54, vI (((mkTms s0 ((kk + 1) + 1)).2 + 1) : Nat))]) (bl := []) (el := [(0, ⟨true, 7, dn.map exC ++ [.int .i64 ((kk : Nat) : Int), .str (mtx (kk + 1)), tmS (mkTms s0 ((kk + 1) + 1)).1, .str (mtx (mkTms s0 ((kk + 1) + 1)).2), .pin (vs dn.length 4) (fmS p0), .pin (vs dn.length 5) (tmS t0), .pin (vs dn.length 6) (exS e0)] :: pinRs vs (dn.length + 1) (rest.map exC), 0, true⟩)]) 0 dn.length 4 (markFormulaS_c p0 ((mkTms s0 ((kk + 1) + 1)).2 + 1) (by omega) (by omega)) (by simp -implicitDefEqProofs only [go_sem, w0, w1, w2, fmS]) rfl rfl rfl (by simp -implicitDefEqProofs only [go_sem, fmS, Ex.form, Ex.terms, Ex.parts, Fm.op, Fm.atom, Fm.var, Fm.parts, Tm.name, Tm.args]) rfl ?_
   simp -implicitDefEqProofs only [go_sem, w0, w1, w2, Ex.form, Ex.terms, Ex.parts, Fm.op, Fm.atom, Fm.var, Fm.parts, Tm.name, Tm.args]
   refine callN (l := [(0, .one (.ow 0 0)), (1000000, .one (.ow 0 0)), (5, vI dn.length), (60, .one (.cv (vs dn.length 5))), (61, vI ((mkFms p0 ((mkTms s0 ((kk + 1) + 1)).2 + 1)).2 : Nat))]) (bl := []) (el := [(0, ⟨true, 7, dn.map exC ++ [.int .i64 ((kk : Nat) : Int), .str (mtx (kk + 1)), tmS (mkTms s0 ((kk + 1) + 1)).1, .str (mtx (mkTms s0 ((kk + 1) + 1)).2), fmS (mkFms p0 ((mkTms s0 ((kk + 1) + 1)).2 + 1)).1, .pin (vs dn.length 5) (tmS t0), .pin (vs dn.length 6) (exS e0)] :: pinRs vs (dn.length + 1) (rest.map exC), 0, true⟩)]) 0 dn.length 5 (markTermS_c t0 (mkFms p0 ((mkTms s0 ((kk + 1) + 1)).2 + 1)).2 (by omega) (by omega)) (by simp -implicitDefEqProofs only [go_sem, w0, w1, w2, tmS]) rfl rfl rfl (by simp -implicitDefEqProofs only [go_sem, tmS, Ex.form, Ex.terms, Ex.parts, Fm.op, Fm.atom, Fm.var, Fm.parts, Tm.name, Tm.args]) rfl ?_
   simp -implicitDefEqProofs only [go_sem, w0, w1, w2, Ex.form, Ex.terms, Ex.parts, Fm.op, Fm.atom, Fm.var, Fm.parts, Tm.name, Tm.args]
   refine callN (l := [(0, .one (.ow 0 0)), (1000000, .one (.ow 0 0)), (5, vI dn.length), (67, .one (.cv (vs dn.length 6))), (68, vI ((mkTms t0 (mkFms p0 ((mkTms s0 ((kk + 1) + 1)).2 + 1)).2).2 : Nat))]) (bl := []) (el := [(0, ⟨true, 7, dn.map exC ++ [.int .i64 ((kk : Nat) : Int), .str (mtx (kk + 1)), tmS (mkTms s0 ((kk + 1) + 1)).1, .str (mtx (mkTms s0 ((kk + 1) + 1)).2), fmS (mkFms p0 ((mkTms s0 ((kk + 1) + 1)).2 + 1)).1, tmS (mkTms t0 (mkFms p0 ((mkTms s0 ((kk + 1) + 1)).2 + 1)).2).1, .pin (vs dn.length 6) (exS e0)] :: pinRs vs (dn.length + 1) (rest.map exC), 0, true⟩)]) 0 dn.length 6 (H (.mk (.mk o0 (.mk n0 s0) v0 p0) t0 e0) (h5 _ (by simp)) (mkTms t0 (mkFms p0 ((mkTms s0 ((kk + 1) + 1)).2 + 1)).2).2 (by omega) (by show (mkTms t0 (mkFms p0 ((mkTms s0 ((kk + 1) + 1)).2 + 1)).2).2 + ctExs e0 ≤ _; omega)) (by simp -implicitDefEqProofs only [go_sem, w0, w1, w2, exS]) rfl rfl rfl (by simp -implicitDefEqProofs only [go_sem, exS, Ex.form, Ex.terms, Ex.parts, Fm.op, Fm.atom, Fm.var, Fm.parts, Tm.name, Tm.args]) rfl ?_
   simp -implicitDefEqProofs only [go_sem, w0, w1, w2, Ex.form, Ex.terms, Ex.parts, Fm.op, Fm.atom, Fm.var, Fm.parts, Tm.name, Tm.args]
   refine ⟨(dn ++ [.mk (.mk ((kk : Nat) : Int) (.mk (mtx (kk + 1)) (mkTms s0 ((kk + 1) + 1)).1) (mtx (mkTms s0 ((kk + 1) + 1)).2) (mkFms p0 ((mkTms s0 ((kk + 1) + 1)).2 + 1)).1) (mkTms t0 (mkFms p0 ((mkTms s0 ((kk + 1) + 1)).2 + 1)).2).1 (mkExs e0 (mkTms t0 (mkFms p0 ((mkTms s0 ((kk + 1) + 1)).2 + 1)).2).2).1], rest, (mkExs e0 (mkTms t0 (mkFms p0 ((mkTms s0 ((kk + 1) + 1)).2 + 1)).2).2).2), ⟨by simpa using h1, h2, by show 0 < (mkExs e0 (mkTms t0 (mkFms p0 ((mkTms s0 ((kk + 1) + 1)).2 + 1)).2).2).2; omega, by show (mkExs e0 (mkTms t0 (mkFms p0 ((mkTms s0 ((kk + 1) + 1)).2 + 1)).2).2).2 + ctExs rest ≤ _; omega, by simp; omega, fun b hb => h5 b (by simp [hb])⟩, by simp, weak_hd ?_⟩
   simp -implicitDefEqProofs only [go_sem, wl, exC_eq (.mk _ _ _), Ex.form, Ex.terms, Ex.parts, Fm.op, Fm.atom, Fm.var, Fm.parts, Tm.name, Tm.args, List.map_append, List.append_assoc]
theorem markExpansionS_c (xs : List Ex) (k : Nat) (h0 : 0 < k) (hk : k + ctExs xs ≤ 4611686018427387904) : IC Tryz.prog 90 [] (.one (exS xs)) [iD k] (.one (exS (mkExs xs k).1)) [iD (mkExs xs k).2] :=
 markExpansionS_of xs (fun a _ => ex_ind (P := fun a => ∀ k : Nat, 0 < k → k + ctExs a.parts ≤ 4611686018427387904 → IC Tryz.prog 90 [] (.one (exS a.parts)) [iD k] (.one (exS (mkExs a.parts k).1)) [iD (mkExs a.parts k).2]) (fun _ _ ps ih => markExpansionS_of ps ih) a) k h0 hk
end Go.Proofs.YtbccfiillleimaaGreat
namespace Go.Proofs.YtbccfiillleimaaGreat
set_option linter.unusedSimpArgs false
set_option linter.unusedVariables false
set_option linter.unusedSectionVars false
set_option maxRecDepth 4000
open Go.RowKit
def mkTExpansion : Ex → Nat → Ex × Nat
 | .mk (.mk o0 (.mk n0 s0) v0 p0) t0 e0, k => (.mk (.mk o0 (.mk n0 (mkTms s0 k).1) v0 (mkFms p0 (mkTms s0 k).2).1) (mkTms t0 (mkFms p0 (mkTms s0 k).2).2).1 (mkExs e0 (mkTms t0 (mkFms p0 (mkTms s0 k).2).2).2).1, (mkExs e0 (mkTms t0 (mkFms p0 (mkTms s0 k).2).2).2).2)
def ctTExpansion : Ex → Nat
 | .mk (.mk _ (.mk _ s0) _ p0) t0 e0 => ctTms s0 + ctFms p0 + ctTms t0 + ctExs e0
theorem mkTExpansion_ct : ∀ (a : Ex) (k : Nat), k ≤ (mkTExpansion a k).2 ∧ (mkTExpansion a k).2 ≤ k + ctTExpansion a
 | .mk (.mk o0 (.mk n0 s0) v0 p0) t0 e0, k => by
  have h1 := mkTms_ct s0 k
  have h2 := mkFms_ct p0 (mkTms s0 k).2
  have h3 := mkTms_ct t0 (mkFms p0 (mkTms s0 k).2).2
  have h4 := mkExs_ct e0 (mkTms t0 (mkFms p0 (mkTms s0 k).2).2).2
  simp only [mkTExpansion, ctTExpansion]; omega
mutual
theorem ct1Exs_wt : ∀ a : Ex, ct1Exs a ≤ 6 + 6 * a.wt
 | .mk (.mk o (.mk n s) v p) t e => by
  have h1 := ctTms_wt s
  have h2 := ctFms_wt p
  have h3 := ctTms_wt t
  have h4 := ctExs_wt e
  rw [Ex.wt_eq, ct1Exs]; unfold fmsW at h2; unfold exsW at h4
  simp only [Ex.form, Ex.terms, Ex.parts]
  rw [Fm.wt_eq]
  simp only [Fm.atom, Fm.var, Fm.parts]
  rw [Tm.wt_eq]
  have e1 : tmsW s = s.length + (s.map Tm.wt).sum := rfl
  simp only [Tm.name, Tm.args]; omega
theorem ctExs_wt : ∀ xs : List Ex, ctExs xs ≤ 6 * exsW xs
 | [] => by simp [ctExs]
 | a :: xs => by
  have h1 := ct1Exs_wt a
  have h2 := ctExs_wt xs
  unfold exsW at h2 ⊢
  rw [ctExs, List.length_cons, List.map_cons, List.sum_cons]; omega
end
theorem ctTExpansion_wt (a : Ex) : ctTExpansion a ≤ 6 * a.wt := by
 obtain ⟨⟨o, ⟨n, s⟩, v, p⟩, t, e⟩ := a
 have h1 := ctTms_wt s
 have h2 := ctFms_wt p
 have h3 := ctTms_wt t
 have h4 := ctExs_wt e
 rw [Ex.wt_eq, ctTExpansion]; unfold fmsW at h2; unfold exsW at h4
 simp only [Ex.form, Ex.terms, Ex.parts]
 rw [Fm.wt_eq]
 simp only [Fm.atom, Fm.var, Fm.parts]
 rw [Tm.wt_eq]
 have e1 : tmsW s = s.length + (s.map Tm.wt).sum := rfl
 simp only [Tm.name, Tm.args]; omega
theorem mkTExpansion_cells (e : Ex) (k : Nat) : exC (mkTExpansion e k).1 = [.int .i64 e.form.op, .str e.form.atom.name, .sl 2 ((mkTExpansion e k).1.form.atom.args.map tmC), .str e.form.var, .sl 5 ((mkTExpansion e k).1.form.parts.map fmC), .sl 2 ((mkTExpansion e k).1.terms.map tmC), .sl 7 ((mkTExpansion e k).1.parts.map exC)] := by
 obtain ⟨⟨o, ⟨n, s⟩, v, p⟩, t, ps⟩ := e
 rw [exC_eq]; rfl
theorem markExpansion_c (a : Ex) (k : Nat) (h0 : 0 < k) (hk : k + ctTExpansion a ≤ 4611686018427387904) : IC Tryz.prog 36 [] (.agg (exC a)) [iD k] (.agg (exC (mkTExpansion a k).1)) [iD (mkTExpansion a k).2] := by
 obtain ⟨⟨o0, ⟨n0, s0⟩, v0, p0⟩, t0, e0⟩ := a
 simp only [ctTExpansion] at hk
 have hc0 := mkTms_ct s0 k
 have hc1 := mkFms_ct p0 (mkTms s0 k).2
 have hc2 := mkTms_ct t0 (mkFms p0 (mkTms s0 k).2).2
 have H1 := markFormula_c (.mk o0 (.mk n0 s0) v0 p0) k h0 (by simp only [ctTFormula, ctTTerm]; omega)
 have H2 := markTermS_c t0 (mkFms p0 (mkTms s0 k).2).2 (by omega) (by omega)
 have H3 := markExpansionS_c e0 (mkTms t0 (mkFms p0 (mkTms s0 k).2).2).2 (by omega) (by omega)
 simp only [fmC_eq (.mk _ _ _ _), exC_eq (.mk _ _ _), tmC_eq (.mk _ _), Ex.form, Ex.terms, Ex.parts, Fm.op, Fm.atom, Fm.var, Fm.parts, Tm.name, Tm.args, mkTExpansion, mkTFormula, mkTTerm] at H1 H2 H3 ⊢
 generalize (mkTms s0 k).1 = s1 at H1 ⊢
 generalize (mkFms p0 (mkTms s0 k).2).1 = p1 at H1 ⊢
 generalize (mkFms p0 (mkTms s0 k).2).2 = k2 at H1 H2 H3 ⊢
 generalize (mkTms t0 k2).1 = t1 at H2 ⊢
 generalize (mkTms t0 k2).2 = k3 at H2 H3 ⊢
 generalize (mkExs e0 k3).1 = e1 at H3 ⊢
 generalize (mkExs e0 k3).2 = k4 at H3 ⊢
 refine IC_of Tryz.call36 Tryz.func36 rfl (by kernel_rfl) (by simp only [argsI, rd, List.map_cons, List.map_nil, List.nil_append, List.length_cons, List.length_nil, Tryz.ntmps36]; omega) (by simp only [Tryz.ntmps36]; omega) ⟨⟨by simp, by simp [T.isPin]⟩, smallG_rd _⟩ trivial ?_
 simp -implicitDefEqProofs only [go_sem, Tryz.results36, initI, argsI, PI]
 refine callIdL [1000000, 2, 6, 7] (H1) (by simp -implicitDefEqProofs only [go_sem]) (by simp -implicitDefEqProofs only [go_sem]) (by simp -implicitDefEqProofs only [go_sem]) (by simp -implicitDefEqProofs only [go_sem]) (by simp -implicitDefEqProofs only [go_sem]) rfl ?_
 simp -implicitDefEqProofs only [go_sem]
 refine callIdL [1000000, 2, 10, 11] (H2) (by simp -implicitDefEqProofs only [go_sem]) (by simp -implicitDefEqProofs only [go_sem]) (by simp -implicitDefEqProofs only [go_sem]) (by simp -implicitDefEqProofs only [go_sem]) (by simp -implicitDefEqProofs only [go_sem]) rfl ?_
 simp -implicitDefEqProofs only [go_sem]
 refine callIdL [1000000, 2, 14, 15] (H3) (by simp -implicitDefEqProofs only [go_sem]) (by simp -implicitDefEqProofs only [go_sem]) (by simp -implicitDefEqProofs only [go_sem]) (by simp -implicitDefEqProofs only [go_sem]) (by simp -implicitDefEqProofs only [go_sem]) rfl ?_
 simp -implicitDefEqProofs only [go_sem]
end Go.Proofs.YtbccfiillleimaaGreat
namespace Go.Proofs.YtbccfiillleimaaGreat
set_option linter.unusedSimpArgs false
set_option linter.unusedVariables false
set_option linter.unusedSectionVars false
set_option maxRecDepth 4000
open Go.RowKit
set_option maxHeartbeats 400000 in
theorem eqTermSS_c (xs ys : List (List Tm)) : FC Tryz.prog 20 [.one (tmSS xs), .one (tmSS ys)] [bD (same xs ys)] := by
 refine FC_wf (fun hw => ?_) Tryz.call20
 have hl : xs.length ≤ 9223372036854775807 := by simpa [wfDs, wfT] using hw.1.1
 have hl2 : ys.length ≤ 9223372036854775807 := by simpa [wfDs, wfT] using hw.2.1.1
 refine FC_of Tryz.call20 Tryz.func20 rfl (by kernel_rfl) (by simp only [rd, List.map_cons, List.map_nil, List.length_cons, List.length_nil, Tryz.ntmps20]; omega) ?_
 simp -implicitDefEqProofs only [go_sem, Tryz.results20]
 refine ⟨fun h => ?_, fun h => ?_⟩
 ·rw [same_no.2 (by rintro rfl; simp at h)]
 ·have hlen : xs.length = ys.length := by simp at h; omega
  refine loop_rule (fun k : Nat => hd [(0, vT (tmSS xs)), (1, vT (tmSS ys)), (4, vB false), (5, vI k)] [] []) (fun k => k ≤ xs.length ∧ same xs ys = same (xs.drop k) (ys.drop k)) (fun k => xs.length - k) 0 (weak_hd ?_) ?_ ?_
  ·simp -implicitDefEqProofs only [go_sem]
  ·simp
  ·intro k ⟨hk, hr⟩
   by_cases hlt : k < xs.length
   ·have hk2 : k < ys.length := by omega
    simp -implicitDefEqProofs only [go_sem, List.length_map, hlt]
    refine drawn (by kernel_rfl) ?_
    simp -implicitDefEqProofs only [go_sem, List.length_map, getD_at, hlt, hk2]
    refine dCallF (eqTermS_c xs[k] ys[k]) (by simp -implicitDefEqProofs only [go_sem]) ?_
    simp -implicitDefEqProofs only [go_sem]
    refine ⟨by kernel_rfl, fun h => ?_, fun h => ?_⟩
    ·rw [hr, List.drop_eq_getElem_cons hlt, List.drop_eq_getElem_cons hk2, same_cons, show same xs[k] ys[k] = false by simpa using h]; rfl
    ·rw [List.drop_eq_getElem_cons hlt, List.drop_eq_getElem_cons hk2, same_cons, show same xs[k] ys[k] = true by simpa using h, Bool.true_and] at hr
     rw [wrap_s (by omega)]
     exact ⟨k + 1, ⟨by omega, hr⟩, by omega, weak_hd (by simp -implicitDefEqProofs only [go_sem])⟩
   ·simp -implicitDefEqProofs only [go_sem, List.length_map, hlt]
    rw [hr, List.drop_of_length_le (by omega), List.drop_of_length_le (by omega), same_nil]
theorem pth_wt : ∀ e : Ex, ∀ pos, nodeS e pos = true → ∀ l ∈ pth e, tmsW l ≤ e.wt := ex_ind fun f ts ps ih pos hn l hl => by
 rw [pth_eq] at hl
 have hW := (Ex.mk f ts ps).wt_eq
 have eT : (Ex.mk f ts ps).terms = ts := rfl
 have eP : (Ex.mk f ts ps).parts = ps := rfl
 have eF : (Ex.mk f ts ps).form = f := rfl
 have hp := (nodeS_parts hn).1
 have hln := (nodeS_len hn).1
 simp only [eT, eP, eF] at hW hp hln
 unfold pthJ at hl
 split at hl
 ·rename_i h9
  have hq : isQ f.op = true := by
   have h9 : (f.op == 9) = true := h9
   unfold isQ; rw [h9, Bool.or_true]
  have hln := hln hq
  obtain ⟨m, hm, hl⟩ := List.mem_flatten.1 hl
  obtain ⟨i, hi, rfl⟩ := List.getElem_of_mem hm
  have hi' : i < ps.length := by rw [List.length_mapIdx] at hi; exact hi
  rw [List.getElem_mapIdx] at hl
  obtain ⟨l', hl', rfl⟩ := List.mem_map.1 hl
  have h1 := ih ps[i] (List.getElem_mem hi') _ (hp i hi') l' hl'
  have hit : i < ts.length := by omega
  have h2 := mem_sum Tm.wt ts ts[i] (List.getElem_mem hit)
  have h3 := mem_sum Ex.wt ps ps[i] (List.getElem_mem hi')
  have hTW : tmsW ts = ts.length + (ts.map Tm.wt).sum := rfl
  rw [eT, getD_eq hit]
  unfold tmsW at h1 ⊢
  rw [List.length_cons, List.map_cons, List.sum_cons]
  omega
 ·rw [List.mem_singleton] at hl
  subst hl
  exact Nat.zero_le _
theorem ctTmss_wt (B : Nat) : ∀ xs : List (List Tm), (∀ l ∈ xs, tmsW l ≤ B) → ctTmss xs ≤ xs.length * (1 + 2 * B)
 | [], _ => by simp [ctTmss]
 | a :: xs, h => by
  have h1 := ctTmss_wt B xs fun l hl => h l (by simp [hl])
  have h2 := ctTms_wt a
  have h3 := h a (by simp)
  rw [ctTmss, ct1Tmss, List.length_cons, Nat.add_mul]
  omega
theorem tupR_ct (e : Ex) (he : e.wt ≤ 1048576) : ctTmss (tupR e) ≤ 1099511627776 * 4 := by
 unfold tupR
 split
 ·rename_i h
  unfold tupOk at h
  rw [Bool.and_eq_true] at h
  obtain ⟨-, hn, h60⟩ := specOk_node h.1
  have h1 := ctTmss_wt 1048576 (pth e) fun l hl => Nat.le_trans (pth_wt e true hn l hl) he
  have h2 := (pth_len e).1
  have h3 : (pth e).length * (1 + 2 * 1048576) ≤ 60 * (1 + 2 * 1048576) := Nat.mul_le_mul (by omega) (Nat.le_refl _)
  omega
 ·simp [ctTmss]
set_option maxHeartbeats 4000000 in
theorem lawTuplesOf_c (e : Ex) : FC Tryz.prog 7 [exD e] [bD true] := by
 have HZ := szExpansion_c e 1048576 (by omega) (by omega)
 simp only [exD, exC_eq e] at HZ ⊢
 refine FC_ofN Tryz.call7 Tryz.func7 rfl (by kernel_rfl) (by simp only [rd, List.map_cons, List.map_nil, List.length_cons, List.length_nil, Tryz.ntmps7]; omega) ?_
 simp -implicitDefEqProofs only [go_sem, Tryz.results7]
 refine callF (HZ) (by simp -implicitDefEqProofs only [go_sem]) ?_
 simp -implicitDefEqProofs only [go_sem]
 refine ⟨fun h => trivial, fun h => ?_⟩
 have hw : e.wt ≤ 1048576 := by have := (szR_pos (by simpa using h)).1; omega
 have HS := specTuplesOf_c e hw
 have HI := implTuplesOf_c e hw
 have HT := toExpansion_c e hw
 have HE := eqExpansion_c e e
 have hcR := tupR_ct e hw
 generalize tupOk e = G at HS HI
 generalize tupR e = R at HS HI hcR
 have HF := eqTermSS_c R R
 simp only [exD, exC_eq e] at HS HI HT HE HF
 refine callF (HT) (by simp -implicitDefEqProofs only [go_sem]) ?_
 simp -implicitDefEqProofs only [go_sem]
 refine callF (HS) (by simp -implicitDefEqProofs only [go_sem]) ?_
 simp -implicitDefEqProofs only [go_sem]
 refine callF (HT) (by simp -implicitDefEqProofs only [go_sem]) ?_
 simp -implicitDefEqProofs only [go_sem]
 refine callF (HI) (by simp -implicitDefEqProofs only [go_sem]) ?_
 simp -implicitDefEqProofs only [go_sem]
 refine callF (HF) (by simp -implicitDefEqProofs only [go_sem, same_self]) ?_
 simp -implicitDefEqProofs only [go_sem, same_self]
 refine ⟨fun h => by simp at h, fun _ => ?_⟩
 refine drawn (by kernel_rfl) ?_
 simp -implicitDefEqProofs only [go_sem]
 refine dCallF (HT) (by simp -implicitDefEqProofs only [go_sem]) ?_
 simp -implicitDefEqProofs only [go_sem]
 refine dCallF (HE) (by simp -implicitDefEqProofs only [go_sem]) ?_
 simp -implicitDefEqProofs only [go_sem]
 refine ⟨by kernel_rfl, fun h => ?_, fun _ => ?_⟩
 ·simp [same_self] at h
 have hc := ctTExpansion_wt e
 have HM := markExpansion_c e 1 (by omega) (by omega)
 have HM2 := markTermSS_c R 1 (by omega) (by omega)
 have HL := heldTermSS_c R 1 (by omega) (by omega)
 have hm := (mkTExpansion_ct e 1).1
 have hmR := (mkTmss_ct R 1).1
 rw [mkTExpansion_cells] at HM
 generalize (mkTExpansion e 1).2 = k1 at HM hm
 generalize (mkTmss R 1).2 = k2 at HM2 HL hmR
 generalize (mkTmss R 1).1 = r1 at HM2 HL
 generalize (mkTExpansion e 1).1.form.atom.args = f2 at HM
 generalize (mkTExpansion e 1).1.form.parts = f5 at HM
 generalize (mkTExpansion e 1).1.terms = f6 at HM
 generalize (mkTExpansion e 1).1.parts = f7 at HM
 rw [exC_eq] at HM
 refine callIdL [1, 2, 4, 5, 6, 7, 8, 46, 47] (HM) (by simp -implicitDefEqProofs only [go_sem]) (by simp -implicitDefEqProofs only [go_sem]) (by simp -implicitDefEqProofs only [go_sem]) (by simp -implicitDefEqProofs only [go_sem]) (by simp -implicitDefEqProofs only [go_sem]) rfl ?_
 simp -implicitDefEqProofs only [go_sem]
 refine callF (HF) (by simp -implicitDefEqProofs only [go_sem, same_self]) ?_
 simp -implicitDefEqProofs only [go_sem, same_self]
 refine ⟨fun h => by simp at h, fun _ => ?_⟩
 refine callIdL [1, 2, 4, 5, 7, 8, 62, 63] (HM2) (by simp -implicitDefEqProofs only [go_sem]) (by simp -implicitDefEqProofs only [go_sem]) (by simp -implicitDefEqProofs only [go_sem]) (by simp -implicitDefEqProofs only [go_sem]) (by simp -implicitDefEqProofs only [go_sem]) rfl ?_
 simp -implicitDefEqProofs only [go_sem]
 refine callF (HL) (by simp -implicitDefEqProofs only [go_sem]) ?_
 simp -implicitDefEqProofs only [go_sem]
 refine ⟨fun h => by simp at h, fun _ => ?_⟩
 refine callF (HT) (by simp -implicitDefEqProofs only [go_sem]) ?_
 simp -implicitDefEqProofs only [go_sem]
 refine callF (HI) (by simp -implicitDefEqProofs only [go_sem]) ?_
 simp -implicitDefEqProofs only [go_sem]
 refine callF (HF) (by simp -implicitDefEqProofs only [go_sem, same_self]) ?_
 simp -implicitDefEqProofs only [go_sem, same_self]
 refine ⟨fun h => by simp at h, fun _ => ?_⟩
 refine callF (HL) (by simp -implicitDefEqProofs only [go_sem]) ?_
 simp -implicitDefEqProofs only [go_sem]
 refine ⟨fun h => by simp at h, fun _ => trivial⟩
end Go.Proofs.YtbccfiillleimaaGreat
namespace Go.Proofs.YtbccfiillleimaaGreat
set_option linter.unusedSimpArgs false
set_option linter.unusedVariables false
set_option linter.unusedSectionVars false
set_option maxRecDepth 4000
open Go.ChangeShapes Go.WideShapes Go.ChangeAt Go.RowKit
theorem rtupl_own : ownKnob Tryz.prog.godebug = none := by kernel_rfl
theorem rtupl_laidOut : laidOutB Tryz.prog = true := by kernel_rfl
def rtuplTypes (t : TypeId) : Bool := t == 3 || t == 9 || t == 24 || t == 22 || t == 27 || t == 25 || t == 56 || t == 54
theorem rtuplTypes_ok : ∀ t, rtuplTypes t = true → typeOk Tryz.prog rtuplTypes t = true := by
 intro t h
 simp only [rtuplTypes, Bool.or_eq_true, beq_iff_eq] at h
 rcases h with ((((((rfl | rfl) | rfl) | rfl) | rfl) | rfl) | rfl) | rfl <;> kernel_rfl
set_option maxRecDepth 100000 in
theorem rtupl_lifted (os : Os) (started : os.Started) (H : Type) (enc : TypeId × Value → H) :
  ReturnsInHanded {} Tryz.checked os 7 .any (Rows.fnExactTuplesOfSpec.pre6 enc Tryz.prog Tryz.f7 Rows.fnExactTuplesOfRow.domain false)
   (Rows.fnExactTuplesOfSpec.post enc Tryz.prog Tryz.f7 false true false false) := by
 refine returnsInHanded_of_change (C := Tryz.checked) rtupl_own started (by kernel_rfl) Tryz.func7
  (ChangeSpec.witness6 (enc := enc) (C := Tryz.checked) false ⟨#[], #[.agg #[.int .i64 0, .string .empty, .slice none 0 0, .string .empty, .slice none 0 0, .slice none 0 0, .slice none 0 0]], []⟩ 8 (by kernel_rfl) (by kernel_rfl) (by kernel_rfl) (by kernel_rfl)) ?_
 intro W base args ds gs before hval0 hW hcnd _
 have hval : ∀ (j : Nat) t v, Tryz.f7.params[j]? = some t → args[j]? = some v → Value.okWide Tryz.prog W .any base t v := hval0
 have hW' := hW
 obtain ⟨p, q, hA0, hV, rfl, hfz, hnd⟩ := hW
 have hA : DataW.TrodAll enc Tryz.prog W 0 (fun _ => true) true Tryz.f7.params.toList args.toList ds p := hA0
 rw [Tryz.params7] at hA hval
 obtain ⟨v0, vs0, d0, ds0, p0, q0, hargs, rfl, rfl, h0, r0⟩ := trodAll_cons hA
 obtain ⟨rfl, rfl, rfl⟩ := trodAll_nil r0
 obtain rfl : args = #[v0] := by cases args; simp_all
 obtain ⟨rfl, rfl⟩ := trodVars_none hV
 have k0 := h0
 have lt0 : ∀ x ∈ p0, x.block < W.heap.size := by obtain ⟨m, hm⟩ := k0; exact DataW.trod_lt m _ _ _ hm
 obtain ⟨cs0, rfl, _⟩ := okWide_struct Tryz.underlying56 (hval 0 56 v0 rfl rfl)
 obtain ⟨s0, hs0⟩ : ∃ s : Ex, RepD W (· < W.heap.size) (exD s) (.agg cs0) := by
  obtain ⟨m, hm⟩ := h0
  obtain ⟨d, hr, hs⟩ := rep_of_trod rtuplTypes_ok m _ _ _ (by rfl) hm
  obtain ⟨s, e⟩ := sh_expansion _ hs
  exact ⟨s, cs0.toList, rfl, e ▸ hr⟩
 have hs : RepDs W (· < W.heap.size) [exD s0] [.agg cs0] := ⟨_, _, rfl, hs0, rfl⟩
 clear hA0 hval0
 refine ((lawTuplesOf_c s0).use (vs := [.agg cs0]) hs).mono fun e W' ⟨us, fp, he, ho, _, _, bel⟩ => ?_
 obtain ⟨u, us', f1, f2, rfl, _, ⟨rfl, _⟩, hu⟩ := ho
 obtain ⟨rfl, _⟩ := hu
 subst he
 exact ⟨_, rfl, _, _, _, [], _, [], hW', trodAll_mk1 (shut_bool Tryz.underlying4 _),
  (trodAll_cons_mk (Below.trod rtupl_laidOut (by kernel_rfl) (of_decide_eq_true (by kernel_rfl)) k0 bel lt0) trodAll_mk0), rfl, bel.frame _, fun h => by cases h⟩
theorem rtupl_h0 : (Rows.fnExactTuplesOfRow.wf (OpenSpec.ofChange Rows.fnExactTuplesOfSpec)) = true := by kernel_rfl
theorem rtupl_h1 : (laidOutB Tryz.checked.prog) = true := by kernel_rfl
theorem rtupl_h2 : (mapsRowed Tryz.checked.prog) = true := by kernel_rfl
theorem rtupl_h3 : (Tryz.f7.params.all (Tryz.checked.prog.readableRec ·)) = true := by kernel_rfl
theorem rtupl_h4 : (namedTie Tryz.checked.prog Rows.fnExactTuplesOfRow.named Rows.fnExactTuplesOfSpec.vars) = true := by kernel_rfl
theorem rtupl_h5 : ((Rows.fnExactTuplesOfRow.stops == [])) = true := by kernel_rfl
theorem rtupl_h6 : ((Tryz.checked.prog.stops == [])) = true := by kernel_rfl
theorem rtupl_h7 : ((Rows.fnExactTuplesOfRow.knobs == [])) = true := by kernel_rfl
theorem rtupl_h8 : ((Tryz.checked.prog.stopKnobs == [])) = true := by kernel_rfl
theorem rtupl_h9 : ((Rows.fnExactTuplesOfRow.inPlace == Tryz.checked.prog.inPlace 7)) = true := by kernel_rfl
theorem rtupl_h10 : ((Rows.fnExactTuplesOfRow.unfollowed == Tryz.checked.prog.unfollowed 7)) = true := by kernel_rfl
theorem rtupl_h11 : ((Rows.fnExactTuplesOfRow.recurses == Tryz.checked.prog.recurses 7)) = true := by kernel_rfl
theorem rtupl_h12 : ((Rows.fnExactTuplesOfRow.named == Tryz.checked.prog.varsNamed 7)) = true := by kernel_rfl
theorem rtupl_h13 : ((Rows.fnExactTuplesOfRow.maps == (Tryz.f7.params.toList ++ Rows.fnExactTuplesOfSpec.plain.varTypes Tryz.checked.prog).any (Tryz.checked.prog.mapsRec ·))) = true := by kernel_rfl
theorem rtupl_h14 : ((Rows.fnExactTuplesOfRow.ifaces == (Tryz.f7.params.toList ++ Rows.fnExactTuplesOfSpec.plain.varTypes Tryz.checked.prog).any (Tryz.checked.prog.ifacesRec ·))) = true := by kernel_rfl
theorem rtupl_h15 : ((Rows.fnExactTuplesOfRow.mapsOut == Tryz.checked.prog.mapsAmong Tryz.f7.resultTypes.toList)) = true := by kernel_rfl
theorem rtupl_h16 : ((Rows.fnExactTuplesOfRow.loops == (Tryz.f7.params.toList ++ Rows.fnExactTuplesOfSpec.plain.varTypes Tryz.checked.prog).any (Tryz.checked.prog.loopsFrom ·))) = true := by kernel_rfl
theorem rtupl_h17 : ((Rows.fnExactTuplesOfRow.wideKeys == (Tryz.f7.params.toList ++ Rows.fnExactTuplesOfSpec.plain.varTypes Tryz.checked.prog ++ Tryz.f7.resultTypes.toList).any (Tryz.checked.prog.wideKeysFrom ·))) = true := by kernel_rfl
theorem rtupl_h18 : (Rows.fnExactTuplesOfSpec.vars.all (Tryz.checked.prog.varReadable ·)) = true := by kernel_rfl
theorem rtupl_h19 : (Tryz.f7.resultTypes.all (fun t => Tryz.checked.prog.readableRec t && decide (t < Tryz.checked.prog.types.size))) = true := by kernel_rfl
theorem rtupl_h20 : ((Rows.fnExactTuplesOfRow.ifacesOut == Tryz.f7.resultTypes.toList.any (Tryz.checked.prog.ifacesRec ·))) = true := by kernel_rfl
theorem rtupl_h21 : ((Rows.fnExactTuplesOfRow.loopsOut == Tryz.f7.resultTypes.toList.any (Tryz.checked.prog.loopsFrom ·))) = true := by kernel_rfl
theorem rtupl_h22 : ((Rows.fnExactTuplesOfRow.plainKeys == Tryz.checked.prog.plainKeys)) = true := by kernel_rfl
theorem rtupl_h23 : (Rows.fnExactTuplesOfRow.shortTexts.isNone) = true := by kernel_rfl
theorem rtupl_h24 : (Tryz.checked.prog.stopsHeard) = true := by kernel_rfl
theorem rtupl_h25 : (Tryz.checked.prog.mayEnter) = true := by kernel_rfl
theorem rtupl_h26 : ((Rows.fnExactTuplesOfRow.lifted == Tryz.checked.prog.liftsFinal)) = true := by kernel_rfl
theorem rtupl_h27 : ((Tryz.checked.prog.make == some Rows.fnExactTuplesOfRow.make)) = true := by kernel_rfl
theorem rtupl_h28 : ((Rows.fnExactTuplesOfRow.kinds == (if Rows.fnExactTuplesOfRow.domain.isEmpty then [] else Tryz.f7.params.toList.map fun t => match Tryz.checked.prog.underlying t with | some (.int k) => some k | _ => none))) = true := by kernel_rfl
theorem rtupl_h29 : ((Rows.fnExactTuplesOfRow.pinned == Rows.fnExactTuplesOfRow.pinnedBy)) = true := by kernel_rfl
theorem rtupl_h30 : ((Rows.fnExactTuplesOfRow.veiled == (Tryz.f7.params.toList ++ Rows.fnExactTuplesOfSpec.plain.varTypes Tryz.checked.prog ++ Tryz.f7.resultTypes.toList).any (Tryz.checked.prog.veiledRec ·))) = true := by kernel_rfl
theorem rtupl_h31 : (Rows.fnExactTuplesOfRow.veiledFits Tryz.checked.prog Tryz.f7.params.toList (Tryz.f7.params.toList ++ Rows.fnExactTuplesOfSpec.plain.varTypes Tryz.checked.prog ++ Tryz.f7.resultTypes.toList)) = true := by kernel_rfl
theorem rtupl_closed : joinedFacts Tryz.checked.prog 7 Tryz.f7 Rows.fnExactTuplesOfSpec Rows.fnExactTuplesOfRow = true := by
 unfold joinedFacts
 simp only [Bool.and_eq_true]
 exact ⟨⟨⟨⟨⟨⟨⟨⟨⟨⟨⟨⟨⟨⟨⟨⟨⟨⟨⟨⟨⟨⟨⟨⟨⟨⟨⟨⟨⟨⟨⟨rtupl_h0, rtupl_h1⟩, rtupl_h2⟩, rtupl_h3⟩, rtupl_h4⟩, rtupl_h5⟩, rtupl_h6⟩, rtupl_h7⟩, rtupl_h8⟩, rtupl_h9⟩, rtupl_h10⟩, rtupl_h11⟩, rtupl_h12⟩, rtupl_h13⟩, rtupl_h14⟩, rtupl_h15⟩, rtupl_h16⟩, rtupl_h17⟩, rtupl_h18⟩, rtupl_h19⟩, rtupl_h20⟩, rtupl_h21⟩, rtupl_h22⟩, rtupl_h23⟩, rtupl_h24⟩, rtupl_h25⟩, rtupl_h26⟩, rtupl_h27⟩, rtupl_h28⟩, rtupl_h29⟩, rtupl_h30⟩, rtupl_h31⟩
theorem tuplesOf_holds : Rows.FnExactTuplesOfSaid :=
 OpenClaim.holds_of_wide 7 Tryz.f7 rfl rfl rfl rfl rfl rfl rfl ⟨rfl, rfl, rfl, rfl, rfl⟩ rfl rfl rfl rfl rfl (by kernel_rfl) Tryz.func7 rtupl_closed
  (of_decide_eq_true (by kernel_rfl)) (by unfold Func.isWrapper; rw [if_neg (of_decide_eq_false (by kernel_rfl))]; exact ⟨rfl, rfl⟩)
  (fun os started H enc _ => rtupl_lifted os started H enc)
#print axioms tuplesOf_holds
end Go.Proofs.YtbccfiillleimaaGreat
