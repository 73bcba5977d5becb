/-
  impl's check of a refutation, walked.
  Conditions: those that each theorem names.
-/
import Derived.Test.YtggialagjkhdfaaW26
namespace Go.Proofs.Ytggialagjkhdfaa
open Go.RowKit

theorem clauseNo_clause {set : List (List Int)} {ss : List PStep} {k : Nat} (hset : isSet set = true) (hprev : ∀ i (h : i < ss.length), i < k → isClause ss[i].clause = true) (hk : k ≤ ss.length) {x : Int} (hx : inB x 0 ((set.length : Int) + k - 1) = true) :
    isClause (clauseNo set ss x.toNat) = true := by
  have hx := inB_iff.1 hx
  unfold clauseNo
  split
  · rename_i hlt
    unfold isSet at hset
    rw [Bool.and_eq_true, List.all_eq_true] at hset
    rw [List.getD, List.getElem?_eq_getElem hlt]
    exact hset.2 _ (List.getElem_mem _)
  · rename_i hge
    have hlt : x.toNat - set.length < ss.length := by omega
    rw [List.getD, List.getElem?_eq_getElem hlt]
    exact hprev _ hlt (by omega)

theorem good_impl {set : List (List Int)} {ss : List PStep} {k : Nat} {s : PStep} (hset : isSet set = true) (hprev : ∀ i (h : i < ss.length), i < k → isClause ss[i].clause = true) (hk : k ≤ ss.length)
    (h1 : inB s.left 0 ((set.length : Int) + k - 1) = true) (h2 : inB s.right 0 ((set.length : Int) + k - 1) = true) :
    goodStep set ss k s = decide (resOut (clauseTo set ss k s.left) (clauseTo set ss k s.right) s.pivot = some s.clause) := by
  unfold goodStep clauseTo resOut
  rw [h1, h2, if_pos rfl, if_pos rfl]
  cases h3 : inB s.pivot 1 12 with
  | true => rw [if_pos ⟨clauseNo_clause hset hprev hk h1, clauseNo_clause hset hprev hk h2, rfl⟩]; rfl
  | false => rw [if_neg (by simp)]; simp

set_option maxRecDepth 100000 in
set_option maxHeartbeats 2000000 in
theorem implCheck_any (sv tv : Value) (set : List (List Int)) (ss : List PStep) (w : World) (h1 : Rows2 w sv set) (h2 : Steps w tv ss) :
    Calls Try.prog 36 #[sv, tv] w fun e w' => e = .returned (.tuple #[.int .i64 (checkOut set ss), .bool (checkOk set ss)]) ∧ Below w.heap.size w w' := by
  have HV := hid (isValidClauses_any sv set w h1)
  have HA := hid fun wx (hb : Below w.heap.size w wx) => h1.keep (Keeps.of_below hb)
  have HB := hid fun wx (hb : Below w.heap.size w wx) => h2.keep (Keeps.of_below hb)
  obtain ⟨a1, c1, rfl, k1, m1, -⟩ := h1.form
  obtain ⟨a2, c2, rfl, k2, m2, r2⟩ := h2.form
  clear h1 h2
  go_enter Try.func36, Try.ntmps36
  cases g1 : isSet set with
  | false =>
    have ho : Hid (checkOk set ss = false ∧ checkOut set ss = 0) := hid (by unfold checkOut checkOk; rw [g1]; exact ⟨rfl, rfl⟩)
    rw [g1] at HV
    go_wp2_with fail
    refine HV.out.mono ?_
    rintro e w1 ⟨rfl, hq⟩
    go_wp2_with fail
    go_ret2
    exact ⟨by rw [ho.out.1, ho.out.2]; rfl, hq.below _⟩
  | true =>
    rw [g1] at HV
    cases g2 : inB ss.length 1 200 with
    | false =>
      have ho : Hid (checkOk set ss = false ∧ checkOut set ss = 0) := hid (by unfold checkOut checkOk; rw [g2]; simp)
      go_wp2_with fail
      refine HV.out.mono ?_
      rintro e w1 ⟨rfl, hq⟩
      go_wp2_with fail
      refine (within_any _ _ _ _).mono ?_
      rintro e w2 ⟨rfl, hw⟩
      rw [hw, g2]
      clear hw
      go_wp2_with fail
      go_ret2
      exact ⟨by rw [ho.out.1, ho.out.2]; rfl, hq.below _⟩
    | true =>
      have ho : Hid (checkOk set ss = true ∧ checkOut set ss = checkFrom set ss 0 ss) := hid (by unfold checkOut checkOk; rw [g1, g2]; exact ⟨rfl, rfl⟩)
      have hlen := set_len g1
      have hle : 1 ≤ ss.length ∧ ss.length ≤ 200 := by have := inB_iff.1 g2; omega
      have HS := hid g1
      go_wp2_with fail
      refine HV.out.mono ?_
      rintro e w1 ⟨rfl, hq⟩
      have hb1 := hq.below w.heap.size
      clear hq
      go_wp2_with fail
      refine (within_any _ _ _ _).mono ?_
      rintro e w2 ⟨rfl, hw⟩
      rw [hw, g2]
      clear hw g1 g2 HV
      go_wp2_with fail
      go_loopw [25] (fun i wr => ∃ (k : Nat), k ≤ ss.length ∧ i = .int .i64 k ∧ Hid (checkFrom set ss 0 ss = checkFrom set ss k (ss.drop k)) ∧ Hid (∀ i (h : i < ss.length), i < k → isClause ss[i].clause = true) ∧ Hid (Below w.heap.size w wr)) (fun i _ => ss.length - (intOf i).toNat)
      case atStart => exact ⟨0, Nat.zero_le _, rfl, hid (by simp), hid (fun i _ h => by omega), hid hb1⟩
      case round =>
        obtain ⟨k, hk, rfl, ht, hv, hbel⟩ := hrel
        by_cases hlt : k < ss.length
        · obtain ⟨b, o, u, rfl, e1, e2, e3, e4, i1, i2, i3, hc⟩ := r2 k hlt
          have e1 := cell_later hbel.out e1
          have e2 := cell_later hbel.out e2
          have e3 := cell_later hbel.out e3
          have e4 := cell_later hbel.out e4
          have hu : Hid (checkFrom set ss 0 ss = if goodStep set ss k ss[k] then checkFrom set ss (k + 1) (ss.drop (k + 1)) else k) := by
            have := ht.out
            rw [drop_cons hlt, checkFrom] at this
            exact hid this
          obtain ⟨s, hs⟩ : ∃ s, Hid (ss[k] = s) := ⟨_, hid rfl⟩
          rw [hs.out] at e1 e2 e3 i1 i2 i3 hc hu
          have HCL := hid fun wx (hb : Below w.heap.size w wx) => hc.keep (Keeps.of_below hb)
          obtain ⟨au, cu, rfl, -, -, -⟩ := hc.form
          clear hc r2 ht
          go_wp2_with fail
          have hb2 := hbel.out.alloc hbel.out.size (.cells #[.int .i64 s.left, .int .i64 s.right, .int .i64 s.pivot, .slice au s.clause.length cu] 89)
          have q0 : (wr.alloc (.cells #[.int .i64 s.left, .int .i64 s.right, .int .i64 s.pivot, .slice au s.clause.length cu] 89)).cell? ⟨wr.heap.size, 0, none⟩ = some (.int .i64 s.left) := by go_simp
          have q1 : (wr.alloc (.cells #[.int .i64 s.left, .int .i64 s.right, .int .i64 s.pivot, .slice au s.clause.length cu] 89)).cell? ⟨wr.heap.size, 1, none⟩ = some (.int .i64 s.right) := by go_simp
          have q2 : (wr.alloc (.cells #[.int .i64 s.left, .int .i64 s.right, .int .i64 s.pivot, .slice au s.clause.length cu] 89)).cell? ⟨wr.heap.size, 2, none⟩ = some (.int .i64 s.pivot) := by go_simp
          have q3 : (wr.alloc (.cells #[.int .i64 s.left, .int .i64 s.right, .int .i64 s.pivot, .slice au s.clause.length cu] 89)).cell? ⟨wr.heap.size, 3, none⟩ = some (.slice au s.clause.length cu) := by go_simp
          generalize wr.alloc (.cells #[.int .i64 s.left, .int .i64 s.right, .int .i64 s.pivot, .slice au s.clause.length cu] 89) = W1 at *
          obtain ⟨ua, hua, hca⟩ := clauseAt_any _ _ c2 set ss k s.left W1 (HA.out W1 hb2) (HB.out W1 hb2) hk (by omega) (by omega)
          obtain ⟨ub, hub, hcb⟩ := clauseAt_any _ _ c2 set ss k s.right W1 (HA.out W1 hb2) (HB.out W1 hb2) hk (by omega) (by omega)
          have HCa := hid fun n => hca _ (Qt.of n)
          have HCb := hid hcb
          have HUA := hid hua
          have HUB := hid hub
          have HB2 := hid hb2
          have hkc : k ≤ c2 := by omega
          clear hca hcb hua hub hb2 e1 e2 e3 e4
          go_quiet ((go_at_call 84; exact Calls.quiet_of (HCa.out _)))
          obtain ⟨W2, hW2⟩ : ∃ W2, W1.drewN nq = W2 := ⟨_, rfl⟩
          have hqW : Qt W1 W2 := ⟨nq, hW2.symm⟩
          rw [hW2]
          have q0 := hqW.keeps _ _ q0
          have q1 := hqW.keeps _ _ q1
          have q2 := hqW.keeps _ _ q2
          have q3 := hqW.keeps _ _ q3
          have HCb2 := hid fun n => HCb.out (W2.drewN n) (hqW.drewN n)
          have HB3 := hid (HB2.out.trans (hqW.below _))
          have HUA2 := hid (HUA.out.keep hqW.keeps)
          have HUB2 := hid (HUB.out.keep hqW.keeps)
          clear hW2 hqW
          go_wp2_with fail
          go_quiet ((go_at_call 84; exact Calls.quiet_of (HCb2.out _)))
          have HBn := hid (HB3.out.trans ((Qt.of nq).below w.heap.size))
          have HUA3 := hid (HUA2.out.keep (Qt.of nq).keeps)
          have HUB3 := hid (HUB2.out.keep (Qt.of nq).keeps)
          cases g1 : inB s.left 0 ((set.length : Int) + k - 1) with
          | false =>
            have hbad : Hid (goodStep set ss k s = false) := hid (by unfold goodStep; rw [g1]; rfl)
            go_wp2_with fail
            go_ret2
            exact ⟨by rw [ho.out.1, ho.out.2, hu.out, hbad.out]; rfl, HBn.out⟩
          | true =>
          cases g2 : inB s.right 0 ((set.length : Int) + k - 1) with
          | false =>
            have hbad : Hid (goodStep set ss k s = false) := hid (by unfold goodStep; rw [g1, g2]; rfl)
            go_wp2_with fail
            go_ret2
            exact ⟨by rw [ho.out.1, ho.out.2, hu.out, hbad.out]; rfl, HBn.out⟩
          | true =>
          have hgd := hid (good_impl HS.out hv.out hk g1 g2)
          have q3n : (W2.drewN nq).cell? ⟨wr.heap.size, 3, none⟩ = some (.slice au s.clause.length cu) := q3
          have hlt3 : wr.heap.size < (W2.drewN nq).heap.size := World.block_lt_of_cell? _ _ q3n
          obtain ⟨rr, hrr⟩ : ∃ rr, Hid (resOut (clauseTo set ss k s.left) (clauseTo set ss k s.right) s.pivot = rr) := ⟨_, hid rfl⟩
          go_wp2_with fail
          refine (resolveOn_any ua ub _ _ s.pivot _ HUA3.out HUB3.out).mono ?_
          rintro e w5 ⟨ur, rfl, hfr, hb5⟩
          rw [hrr.out] at hfr ⊢
          rw [hrr.out] at hgd
          have HB5 := hid (HBn.out.trans (hb5.mono HBn.out.size))
          have q3 := cell_later hb5 q3n
          have HFR := hid hfr
          clear hb5 hfr q3n hlt3
          cases rr with
          | none =>
            have hbad : Hid (goodStep set ss k s = false) := hid (by rw [hgd.out]; simp)
            go_wp2_with fail
            go_ret2
            exact ⟨by rw [ho.out.1, ho.out.2, hu.out, hbad.out]; rfl, HB5.out⟩
          | some r =>
            have HFR : Hid (Ints w5 ur r) := hid HFR.out.rep
            rw [Option.isSome_some]
            go_wp2_with fail
            refine (equalInts_any _ _ r s.clause _ HFR.out (HCL.out _ HB5.out)).mono ?_
            rintro e w6 ⟨rfl, hq6⟩
            have HB6 := hid (HB5.out.trans (hq6.below _))
            clear hq6
            cases hsame : r == s.clause with
            | false =>
              have hbad : Hid (goodStep set ss k s = false) := hid (by rw [hgd.out]; simp only [Option.some.injEq, decide_eq_false_iff_not]; intro h; rw [h, beq_self_eq_true] at hsame; cases hsame)
              go_wp2_with fail
              go_ret2
              exact ⟨by rw [ho.out.1, ho.out.2, hu.out, hbad.out]; rfl, HB6.out⟩
            | true =>
              have hgood : Hid (goodStep set ss k s = true) := hid (by rw [hgd.out]; simp only [Option.some.injEq, decide_eq_true_eq]; exact eq_of_beq hsame)
              go_wp2_with fail
              go_roundw
              case rel =>
                refine ⟨k + 1, by omega, by go_num, hid (by rw [hu.out, if_pos hgood.out]), hid (fun i h hi => ?_), HB6⟩
                by_cases hik : i = k
                · subst hik
                  rw [hs.out]
                  exact good_clause HS.out hv.out hk hgood.out
                · exact hv.out i h (by omega)
              case measure => simp [intOf]; omega
        · have hk' : k = ss.length := by omega
          subst hk'
          obtain ⟨b, o, u, rfl, -, -, -, e4, -, -, -, hc⟩ := r2 (ss.length - 1) (by omega)
          obtain ⟨au, cu, rfl, -, -, -⟩ := hc.form
          have e4 := cell_later hbel.out e4
          have hu : Hid (checkFrom set ss 0 ss = if 0 < ss[ss.length - 1].clause.length then (ss.length : Int) else -1) := by
            have := ht.out
            rw [drop_end hlt, checkFrom] at this
            exact hid (by rw [this]; simp [List.getD, show ss.length - 1 < ss.length by omega])
          have hw1 : IntKind.i64.wrap ((ss.length : Int) - 1) = ((ss.length - 1 : Nat) : Int) := by rw [IntKind.wrap_i64]; omega
          have hcast : (ss.length : Int) - 1 = ((ss.length - 1 : Nat) : Int) := by omega
          clear ht r2 hc
          by_cases hz : 0 < ss[ss.length - 1].clause.length
          · go_wp2_with fail
            go_ret2
            exact ⟨by rw [ho.out.1, ho.out.2, hu.out, if_pos hz]; rfl, hbel.out⟩
          · have hz0 : ¬ (0 : Int) < (ss[ss.length - 1].clause.length : Int) := by omega
            go_wp2_with fail
            go_ret2
            exact ⟨by rw [ho.out.1, ho.out.2, hu.out, if_neg hz]; rfl, hbel.out⟩
end Go.Proofs.Ytggialagjkhdfaa
