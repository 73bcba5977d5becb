/-
  Resolvents: impl's ResolveOn walked.
  Conditions: those that each theorem names.
-/
import Derived.Test.YtggialagjkhdfaaW24
namespace Go.Proofs.Ytggialagjkhdfaa
open Go.RowKit

set_option maxHeartbeats 400000 in
theorem isPropVariable_any (v : Int) (w : World) : Calls Try.prog 116 #[.int .i64 v] w fun e w' => e = .returned (.bool (inB v 1 12)) ∧ w' = w := by
  go_enter Try.func116, Try.ntmps116
  go_wp2_with (go_at_call 76; refine (within_any _ _ _ _).mono ?_; rintro e w' ⟨rfl, hw⟩; rw [hw]; clear hw)
  go_ret
  exact ⟨rfl, rfl⟩

set_option maxRecDepth 100000 in
set_option maxHeartbeats 2000000 in
theorem resolveOn_any (va vb : Value) (a b : List Int) (v : Int) (w : World) (ha : Ints w va a) (hb : Ints w vb b) :
    Calls Try.prog 85 #[va, vb, .int .i64 v] w fun e w' => ∃ u, e = .returned (.tuple #[u, .bool (resOut a b v).isSome]) ∧
      Fresh w.heap.size w' (ints ((resOut a b v).getD [])) [u] ∧ Below w.heap.size w w' := by
  have HA := hid fun wx (hb : Below w.heap.size w wx) => ha.keep (Keeps.of_below hb)
  have HB := hid fun wx (hx : Below w.heap.size w wx) => hb.keep (Keeps.of_below hx)
  have NIL : Hid (∀ wx, Fresh w.heap.size wx (ints []) [.slice none 0 0]) := hid fun wx => ⟨[], ⟨none, 0, rfl, Nat.le_refl _, by omega, Or.inl ⟨rfl, rfl⟩⟩, List.nodup_nil, by simp⟩
  obtain ⟨aa, ca, rfl, ka, ma, -⟩ := ha.form
  obtain ⟨ab, cb, rfl, kb, mb, -⟩ := hb.form
  clear ha hb
  go_enter Try.func85, Try.ntmps85
  cases g0 : isClause a with
  | false =>
    have hn : Hid (resOut a b v = none) := hid (by unfold resOut; rw [if_neg (by rw [g0]; simp)])
    go_wp2_with fail
    refine (isPropClause_any _ _ _ (HA.out _ (Below.refl _ _))).mono ?_
    rintro e w0 ⟨rfl, hq⟩
    have hb0 := hq.below w.heap.size
    rw [g0]
    clear hq
    go_wp2_with fail
    go_ret2
    exact ⟨_, by rw [hn.out]; rfl, by rw [hn.out]; exact NIL.out _, hb0⟩
  | true =>
  cases g1 : isClause b with
  | false =>
    have hn : Hid (resOut a b v = none) := hid (by unfold resOut; rw [if_neg (by rw [g1]; simp)])
    go_wp2_with fail
    refine (isPropClause_any _ _ _ (HA.out _ (Below.refl _ _))).mono ?_
    rintro e w0 ⟨rfl, hq⟩
    have hb0 := hq.below w.heap.size
    rw [g0]
    clear hq
    go_wp2_with fail
    refine (isPropClause_any _ _ _ (HB.out _ hb0)).mono ?_
    rintro e w1 ⟨rfl, hq⟩
    have hb1 := hb0.trans (hq.below w.heap.size)
    rw [g1]
    clear hq
    go_wp2_with fail
    go_ret2
    exact ⟨_, by rw [hn.out]; rfl, by rw [hn.out]; exact NIL.out _, hb1⟩
  | true =>
  cases g2 : inB v 1 12 with
  | false =>
    have hn : Hid (resOut a b v = none) := hid (by unfold resOut; rw [if_neg (by rw [g2]; simp)])
    go_wp2_with fail
    refine (isPropClause_any _ _ _ (HA.out _ (Below.refl _ _))).mono ?_
    rintro e w0 ⟨rfl, hq⟩
    have hb0 := hq.below w.heap.size
    rw [g0]
    clear hq
    go_wp2_with fail
    refine (isPropClause_any _ _ _ (HB.out _ hb0)).mono ?_
    rintro e w1 ⟨rfl, hq⟩
    have hb1 := hb0.trans (hq.below w.heap.size)
    rw [g1]
    clear hq
    go_wp2_with fail
    refine (isPropVariable_any _ _).mono ?_
    rintro e w2 ⟨rfl, hw⟩
    rw [hw, g2]
    clear hw
    go_wp2_with fail
    go_ret2
    exact ⟨_, by rw [hn.out]; rfl, by rw [hn.out]; exact NIL.out _, hb1⟩
  | true =>
  have hneg : IntKind.i64.wrap (-v) = -v := by rw [IntKind.wrap_i64]; have := inB_iff.1 g2; omega
  cases g3 : a.contains v with
  | false =>
    have hn : Hid (resOut a b v = none) := hid (by unfold resOut; rw [if_pos ⟨g0, g1, g2⟩]; unfold Go.Proofs.Ytggialagjkhdfaa.resolve; rw [if_neg (by rw [g3]; simp)])
    go_wp2_with fail
    refine (isPropClause_any _ _ _ (HA.out _ (Below.refl _ _))).mono ?_
    rintro e w0 ⟨rfl, hq⟩
    have hb0 := hq.below w.heap.size
    rw [g0]
    clear hq
    go_wp2_with fail
    refine (isPropClause_any _ _ _ (HB.out _ hb0)).mono ?_
    rintro e w1 ⟨rfl, hq⟩
    have hb1 := hb0.trans (hq.below w.heap.size)
    rw [g1]
    clear hq
    go_wp2_with fail
    refine (isPropVariable_any _ _).mono ?_
    rintro e w2 ⟨rfl, hw⟩
    rw [hw, g2]
    clear hw
    go_wp2_with fail
    refine (containsInt_any _ _ _ _ (HA.out _ hb1)).mono ?_
    rintro e w3 ⟨rfl, hq⟩
    have hb3 := hb1.trans (hq.below w.heap.size)
    rw [g3]
    clear hq
    go_wp2_with fail
    go_ret2
    exact ⟨_, by rw [hn.out]; rfl, by rw [hn.out]; exact NIL.out _, hb3⟩
  | true =>
  cases g4 : b.contains (-v) with
  | false =>
    have hn : Hid (resOut a b v = none) := hid (by unfold resOut; rw [if_pos ⟨g0, g1, g2⟩]; unfold Go.Proofs.Ytggialagjkhdfaa.resolve; rw [if_neg (by rw [g4]; simp)])
    go_wp2_with fail
    refine (isPropClause_any _ _ _ (HA.out _ (Below.refl _ _))).mono ?_
    rintro e w0 ⟨rfl, hq⟩
    have hb0 := hq.below w.heap.size
    rw [g0]
    clear hq
    go_wp2_with fail
    refine (isPropClause_any _ _ _ (HB.out _ hb0)).mono ?_
    rintro e w1 ⟨rfl, hq⟩
    have hb1 := hb0.trans (hq.below w.heap.size)
    rw [g1]
    clear hq
    go_wp2_with fail
    refine (isPropVariable_any _ _).mono ?_
    rintro e w2 ⟨rfl, hw⟩
    rw [hw, g2]
    clear hw
    go_wp2_with fail
    refine (containsInt_any _ _ _ _ (HA.out _ hb1)).mono ?_
    rintro e w3 ⟨rfl, hq⟩
    have hb3 := hb1.trans (hq.below w.heap.size)
    rw [g3]
    clear hq
    go_wp2_with fail
    refine (containsInt_any _ _ _ _ (HB.out _ hb3)).mono ?_
    rintro e w4 ⟨rfl, hq⟩
    have hb4 := hb3.trans (hq.below w.heap.size)
    rw [g4]
    clear hq
    go_wp2_with fail
    go_ret2
    exact ⟨_, by rw [hn.out]; rfl, by rw [hn.out]; exact NIL.out _, hb4⟩
  | true =>
  go_wp2_with fail
  refine (isPropClause_any _ _ _ (HA.out _ (Below.refl _ _))).mono ?_
  rintro e w0 ⟨rfl, hq⟩
  have hb0 := hq.below w.heap.size
  rw [g0]
  clear hq
  go_wp2_with fail
  refine (isPropClause_any _ _ _ (HB.out _ hb0)).mono ?_
  rintro e w1 ⟨rfl, hq⟩
  have hb1 := hb0.trans (hq.below w.heap.size)
  rw [g1]
  clear hq
  go_wp2_with fail
  refine (isPropVariable_any _ _).mono ?_
  rintro e w2 ⟨rfl, hw⟩
  rw [hw, g2]
  clear hw
  go_wp2_with fail
  refine (containsInt_any _ _ _ _ (HA.out _ hb1)).mono ?_
  rintro e w3 ⟨rfl, hq⟩
  have hb3 := hb1.trans (hq.below w.heap.size)
  rw [g3]
  clear hq
  go_wp2_with fail
  refine (containsInt_any _ _ _ _ (HB.out _ hb3)).mono ?_
  rintro e w4 ⟨rfl, hq⟩
  have hb4 := hb3.trans (hq.below w.heap.size)
  rw [g4]
  clear hq
  have hlen := hid (show (a ++ b).length ≤ 24 by have := isClause_len g0; have := isClause_len g1; simp; omega)
  have hbd : Hid (∀ x ∈ a ++ b, -12 ≤ x ∧ x ≤ 12) := hid (fun x hx => by rcases List.mem_append.1 hx with h | h; exact isClause_bound g0 x h; exact isClause_bound g1 x h)
  have hres := hid (resOut_yes g0 g1 g2 g3 g4)
  have hl12 := hid fun out => impB_len (out := out) g0 g1 g2 g3 g4
  have hpos : Hid (0 < (a ++ b).length) := hid (by have := List.length_pos_of_mem (List.contains_iff_mem.1 g3); simp; omega)
  have hv12 := inB_iff.1 g2
  have g0 := hid g0
  have g1 := hid g1
  have g2 := hid g2
  have g3 := hid g3
  have g4 := hid g4
  have hb5 := (hb4.alloc hb4.size (.cells #[] 3)).alloc (hb4.alloc hb4.size (.cells #[] 3)).size (.cells #[.slice aa a.length ca, .slice ab b.length cb] 24)
  have R2 := Rows2.two (w := (w4.alloc (.cells #[] 3)).alloc (.cells #[.slice aa a.length ca, .slice ab b.length cb] 24)) (b := w4.heap.size + 1) (va := .slice aa a.length ca) (vb := .slice ab b.length cb) (by go_simp) (by go_simp) (HA.out _ hb5) (HB.out _ hb5)
  have HO0 : Hid (OwnsInts ((w4.alloc (.cells #[] 3)).alloc (.cells #[.slice aa a.length ca, .slice ab b.length cb] 24)) w.heap.size (.slice (some ⟨w4.heap.size, 0, none⟩) 0 0) []) := hid ((OwnsInts.empty hb4.size).alloc _)
  have HSZ : Hid (((w4.alloc (.cells #[] 3)).alloc (.cells #[.slice aa a.length ca, .slice ab b.length cb] 24)).heap.size = w4.heap.size + 2) := hid (by simp)
  go_wp2_with fail
  refine (concat_any _ _ _ R2 (by have := hlen.out; simp [tally] at this ⊢; omega)).mono ?_
  rintro e wc ⟨u, rfl, how, hbc⟩
  obtain ⟨L, hL⟩ : ∃ L, Hid (a ++ b = L) := ⟨_, hid rfl⟩
  rw [show List.flatten [a, b] = L from by rw [← hL.out]; simp] at how
  rw [hL.out] at hlen hbd hres hl12 hpos
  obtain ⟨bc, cc, cur, rfl, hbcs, hcur, -, -, -, hcells⟩ := how.block (by
    rcases how.1.2 with ⟨rfl, h0⟩ | ⟨g, cap, cur, rfl, _⟩
    · have := hpos.out; omega
    · simp [Value.ownBlock])
  rw [HSZ.out] at hbcs
  have CE : ∀ j (hj : j < L.length), wc.cell? ⟨bc, j, none⟩ = some (.int .i64 L[j]) := fun j hj => by rw [cell_block hcur, hcells j hj]
  have hbcl : bc < wc.heap.size := (Array.getElem?_eq_some_iff.1 hcur).1
  have HO1 := hid (HO0.out.below hbc)
  have HB6 := hid (hb5.trans (hbc.mono hb5.size))
  have CE := hid CE
  clear hcells hcur how HO0 R2 hb5 hbc hb4 hb3 hb1 hb0 HA HB
  have hLl : L.length ≤ 24 := hlen.out
  go_wp2_with fail
  go_loopw [8, 43] (fun o i wr => ∃ (k : Nat) (out : List Int) (bo : Nat), k ≤ L.length ∧ i = .int .i64 k ∧ Hid (impB [] v L = impB out v (L.drop k)) ∧ Hid (out.length ≤ k ∧ ∀ x ∈ out, I64 x) ∧ Hid (OwnsInts wr w.heap.size o out) ∧ Hid (o.ownBlock = some bo ∧ bo ≠ bc ∧ bc < wr.heap.size) ∧ Hid (∀ j (hj : j < L.length), wr.cell? ⟨bc, j, none⟩ = some (.int .i64 L[j])) ∧ Hid (Below w.heap.size w wr)) (fun _ i _ => L.length - (intOf i).toNat)
  case atStart => exact ⟨0, [], w4.heap.size, Nat.zero_le _, rfl, hid (by simp), hid ⟨Nat.le_refl _, by simp⟩, HO1, hid ⟨rfl, by omega, hbcl⟩, CE, HB6⟩
  case round =>
    obtain ⟨k, out, bo, hk, rfl, ht, hout, hown, hblk, hce, hbel⟩ := hrel
    by_cases hlt : k < L.length
    · obtain ⟨x, hx⟩ : ∃ x, Hid (L[k] = x) := ⟨_, hid rfl⟩
      have hxb : -12 ≤ x ∧ x ≤ 12 := by rw [← hx.out]; exact hbd.out _ (List.getElem_mem _)
      have hc0 := hce.out k hlt
      rw [hx.out] at hc0
      have hu : Hid (impB [] v L = if x = v ∨ x = -v ∨ out.contains x = true then impB out v (L.drop (k + 1)) else if out.contains (-x) = true then none else impB (out ++ [x]) v (L.drop (k + 1))) := hid (by
        rw [ht.out, drop_cons hlt, impB, hx.out])
      have hnx : IntKind.i64.wrap (-x) = -x := by rw [IntKind.wrap_i64]; omega
      clear ht
      by_cases e1 : x = v
      · have d1 : (x == v) = true := by simp [e1]
        have hu2 : Hid (impB [] v L = impB out v (L.drop (k + 1))) := hid (by rw [hu.out, if_pos (Or.inl e1)])
        have E1 := hid e1
        clear e1
        go_wp2_with fail
        go_roundw
        case rel => exact ⟨k + 1, out, bo, by omega, by go_num, hu2, hid ⟨by have := hout.out.1; omega, hout.out.2⟩, hown, hblk, hce, hbel⟩
        case measure => simp [intOf]; omega
      · have d1 : (x == v) = false := by simp [e1]
        by_cases e2 : x = -v
        · have d2 : (x == -v) = true := by simp [e2]
          have hu2 : Hid (impB [] v L = impB out v (L.drop (k + 1))) := hid (by rw [hu.out, if_pos (Or.inr (Or.inl e2))])
          have E1 := hid e1
          have E2 := hid e2
          clear e1 e2
          go_wp2_with fail
          go_roundw
          case rel => exact ⟨k + 1, out, bo, by omega, by go_num, hu2, hid ⟨by have := hout.out.1; omega, hout.out.2⟩, hown, hblk, hce, hbel⟩
          case measure => simp [intOf]; omega
        · have d2 : (x == -v) = false := by simp [e2]
          have E1 := hid e1
          have E2 := hid e2
          clear e1 e2
          cases g5 : out.contains x with
          | true =>
            have hu2 : Hid (impB [] v L = impB out v (L.drop (k + 1))) := hid (by rw [hu.out, if_pos (Or.inr (Or.inr g5))])
            go_wp2_with fail
            refine (containsInt_any _ out _ _ hown.out.ints).mono ?_
            rintro e w6 ⟨rfl, hq⟩
            rw [g5]
            have hown := hid (hown.out.qt hq)
            have hbel := hid (hbel.out.trans (hq.below _))
            have hce : Hid (∀ j (hj : j < L.length), w6.cell? ⟨bc, j, none⟩ = some (.int .i64 L[j])) := hid fun j hj => hq.keeps _ _ (hce.out j hj)
            have hblk : Hid (u8.ownBlock = some bo ∧ bo ≠ bc ∧ bc < w6.heap.size) := hid ⟨hblk.out.1, hblk.out.2.1, by obtain ⟨n, rfl⟩ := hq; exact hblk.out.2.2⟩
            clear hq
            go_wp2_with fail
            go_roundw
            case rel => exact ⟨k + 1, out, bo, by omega, by go_num, hu2, hid ⟨by have := hout.out.1; omega, hout.out.2⟩, hown, hblk, hce, hbel⟩
            case measure => simp [intOf]; omega
          | false =>
            cases g6 : out.contains (-x) with
            | true =>
              have hu2 : Hid (impB [] v L = none) := hid (by rw [hu.out, if_neg (by simp [E1.out, E2.out, g5, -List.contains_eq_mem]), if_pos g6])
              go_wp2_with fail
              refine (containsInt_any _ out _ _ hown.out.ints).mono ?_
              rintro e w6 ⟨rfl, hq⟩
              rw [g5]
              have hown := hid (hown.out.qt hq)
              have hbel := hid (hbel.out.trans (hq.below _))
              clear hq
              go_wp2_with fail
              refine (containsInt_any _ out _ _ hown.out.ints).mono ?_
              rintro e w7 ⟨rfl, hq⟩
              rw [g6]
              have hbel := hid (hbel.out.trans (hq.below _))
              clear hq
              go_wp2_with fail
              go_ret2
              exact ⟨_, by rw [hres.out, hu2.out]; rfl, by rw [hres.out, hu2.out]; exact NIL.out _, hbel.out⟩
            | false =>
              have hu2 : Hid (impB [] v L = impB (out ++ [x]) v (L.drop (k + 1))) := hid (by rw [hu.out, if_neg (by simp [E1.out, E2.out, g5, -List.contains_eq_mem]), if_neg (by rw [g6]; simp)])
              go_wp2_with fail
              refine (containsInt_any _ out _ _ hown.out.ints).mono ?_
              rintro e w6 ⟨rfl, hq⟩
              rw [g5]
              have hown := hid (hown.out.qt hq)
              have hbel := hid (hbel.out.trans (hq.below _))
              have hce : Hid (∀ j (hj : j < L.length), w6.cell? ⟨bc, j, none⟩ = some (.int .i64 L[j])) := hid fun j hj => hq.keeps _ _ (hce.out j hj)
              have hblk : Hid (u8.ownBlock = some bo ∧ bo ≠ bc ∧ bc < w6.heap.size) := hid ⟨hblk.out.1, hblk.out.2.1, by obtain ⟨n, rfl⟩ := hq; exact hblk.out.2.2⟩
              clear hq
              go_wp2_with fail
              refine (containsInt_any _ out _ _ hown.out.ints).mono ?_
              rintro e w7 ⟨rfl, hq⟩
              rw [g6]
              have hown := hid (hown.out.qt hq)
              have hbel := hid (hbel.out.trans (hq.below _))
              have hce : Hid (∀ j (hj : j < L.length), w7.cell? ⟨bc, j, none⟩ = some (.int .i64 L[j])) := hid fun j hj => hq.keeps _ _ (hce.out j hj)
              have hblk : Hid (u8.ownBlock = some bo ∧ bo ≠ bc ∧ bc < w7.heap.size) := hid ⟨hblk.out.1, hblk.out.2.1, by obtain ⟨n, rfl⟩ := hq; exact hblk.out.2.2⟩
              clear hq
              go_wp2_with (at_builtin; go_must (refine append_int_own x rfl rfl hown.out rfl rfl (by unfold I64; omega) (by have := hout.out.1; omega) hbel.out.size hblk.out.1 ?_))
              intro v' w8 hown8 hbel8 hgr8 bq hbq hbo
              have hlt7 := hblk.out.2.2
              have hown8 := hid hown8
              have hblk8 : Hid (v'.ownBlock = some bq ∧ bq ≠ bc ∧ bc < w8.heap.size) := hid ⟨hbq, by rcases hbo with h | h; rw [h]; exact hblk.out.2.1; omega, by have := hgr8.size; omega⟩
              have hce8 : Hid (∀ j (hj : j < L.length), w8.cell? ⟨bc, j, none⟩ = some (.int .i64 L[j])) := hid fun j hj => hgr8.cell (hce.out j hj) (by intro h; exact hblk.out.2.1 (Option.some.inj h).symm)
              have hbel8 := hid (hbel.out.trans hbel8)
              clear hgr8 hbq hbo hlt7
              go_wp2_with fail
              go_roundw
              case rel => exact ⟨k + 1, out ++ [x], bq, by omega, by go_num, hu2, hid ⟨by have := hout.out.1; simp; omega, fun y hy => by
                rcases List.mem_append.1 hy with hy | hy
                · exact hout.out.2 y hy
                · simp at hy; subst hy; unfold I64; omega⟩, hown8, hblk8, hce8, hbel8⟩
              case measure => simp [intOf]; omega
    · have hs : Hid (impB [] v L = some out) := hid (by rw [ht.out, drop_end hlt]; rfl)
      have hl := hl12.out out hs.out
      go_wp2_with fail
      refine (sortOwned_any _ out _ _ hown.out (by rw [hblk.out.1]; simp) hl).mono ?_
      rintro e w6 ⟨rfl, hfr, hb6⟩
      go_wp2_with fail
      go_ret2
      exact ⟨_, by rw [hres.out, hs.out]; rfl, by rw [hres.out, hs.out]; exact hfr, hbel.out.trans hb6⟩
end Go.Proofs.Ytggialagjkhdfaa
