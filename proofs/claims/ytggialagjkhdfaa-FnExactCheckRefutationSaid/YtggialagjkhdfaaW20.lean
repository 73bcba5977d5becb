/-
  The reference's check of a refutation, walked.
  Conditions: those that each theorem names.
-/
import Derived.Test.YtggialagjkhdfaaW19
namespace Go.Proofs.Ytggialagjkhdfaa
open Go.RowKit

set_option maxRecDepth 100000 in
set_option maxHeartbeats 2000000 in
theorem l15Check_any (sv tv : Value) (set : List (List Int)) (ss : List PStep) (w : World) (h1 : Rows2 w sv set) (h2 : Steps w tv ss) (hset : isSet set = true) (hne : 1 ≤ ss.length) (hle : ss.length ≤ 200) :
    Calls Try.prog 82 #[sv, tv] w fun e w' => e = .returned (.int .i64 (checkFrom set ss 0 ss)) ∧ Below w.heap.size w w' := by
  have HA := hid fun wx (hb : Below w.heap.size w wx) => h1.keep (Keeps.of_below hb)
  have HB := hid fun wx (hb : Below w.heap.size w wx) => h2.keep (Keeps.of_below hb)
  have hlen := set_len hset
  have HS := hid hset
  obtain ⟨a1, c1, rfl, k1, m1, -⟩ := h1.form
  obtain ⟨a2, c2, rfl, k2, m2, r2⟩ := h2.form
  clear h1 h2 hset
  go_enter Try.func82, Try.ntmps82
  go_wp2_with fail
  go_loopw [6] (fun i wr => ∃ (k : Nat), k ≤ ss.length ∧ i = .int .i64 k ∧ wr.cell? ⟨w.heap.size, 0, none⟩ = some (.slice a1 set.length c1) ∧ wr.cell? ⟨w.heap.size, 1, none⟩ = some (.slice a2 ss.length c2) ∧
      Hid (checkFrom set ss 0 ss = checkFrom set ss k (ss.drop k)) ∧ Hid (∀ i (h : i < ss.length), i < k → isClause ss[i].clause = true) ∧ Below w.heap.size w wr) (fun i _ => ss.length - (intOf i).toNat)
  case atStart => exact ⟨0, Nat.zero_le _, rfl, by go_simp, by go_simp, hid (by simp), hid (fun i _ h => by omega), (Below.refl _ _).alloc (Nat.le_refl _) _⟩
  case round =>
    obtain ⟨k, hk, rfl, p0, p1, ht, hv, hbel⟩ := hrel
    by_cases hlt : k < ss.length
    · obtain ⟨b, o, u, rfl, e1, e2, e3, e4, i1, i2, i3, hc⟩ := r2 k hlt
      have e1 := cell_later hbel e1
      have e2 := cell_later hbel e2
      have e3 := cell_later hbel e3
      have e4 := cell_later hbel e4
      have hu : Hid (checkFrom set ss 0 ss = if goodStep set ss k ss[k] then checkFrom set ss (k + 1) (ss.drop (k + 1)) else k) := by
        have := ht.out
        rw [drop_cons hlt, checkFrom] at this
        exact this
      obtain ⟨s, hs⟩ : ∃ s, Hid (ss[k] = s) := ⟨_, hid rfl⟩
      rw [hs.out] at e1 e2 e3 i1 i2 i3 hc hu
      have HBL := hid hbel
      have hsz : w.heap.size < wr.heap.size := by
        have := World.block_lt_of_cell? _ _ p0
        exact this
      have HSZ := hid hsz
      have HCL := hid fun wx (hb : Below w.heap.size w wx) => hc.keep (Keeps.of_below hb)
      obtain ⟨au, cu, rfl, -, -, -⟩ := hc.form
      clear ht r2 hc hbel hsz
      have hw1 : IntKind.i64.wrap ((set.length : Int) + k) = (set.length : Int) + k := by rw [IntKind.wrap_i64]; omega
      have hw2 : IntKind.i64.wrap ((set.length : Int) + k - 1) = (set.length : Int) + k - 1 := by rw [IntKind.wrap_i64]; omega
      cases g1 : inB s.left 0 ((set.length : Int) + k - 1) with
      | false =>
        have hbad : Hid (goodStep set ss k s = false) := hid (by unfold goodStep; rw [g1]; rfl)
        go_wp2_with fail
        refine (l1In_any _ _ _ _).mono ?_
        rintro e w2 ⟨rfl, hw⟩
        rw [hw, g1]
        clear hw
        go_wp2_with fail
        go_ret
        exact ⟨ret_int (by rw [hu.out, hbad.out]; rfl), HBL.out.alloc HBL.out.size _⟩
      | true =>
      cases g2 : inB s.right 0 ((set.length : Int) + k - 1) with
      | false =>
        have hbad : Hid (goodStep set ss k s = false) := hid (by unfold goodStep; rw [g1, g2]; rfl)
        go_wp2_with fail
        refine (l1In_any _ _ _ _).mono ?_
        rintro e w2 ⟨rfl, hw⟩
        rw [hw, g1]
        clear hw
        go_wp2_with fail
        refine (l1In_any _ _ _ _).mono ?_
        rintro e w2 ⟨rfl, hw⟩
        rw [hw, g2]
        clear hw
        go_wp2_with fail
        go_ret
        exact ⟨ret_int (by rw [hu.out, hbad.out]; rfl), HBL.out.alloc HBL.out.size _⟩
      | true =>
      cases g3 : inB s.pivot 1 12 with
      | false =>
        have hbad : Hid (goodStep set ss k s = false) := hid (by unfold goodStep; rw [g1, g2, g3]; rfl)
        go_wp2_with fail
        refine (l1In_any _ _ _ _).mono ?_
        rintro e w2 ⟨rfl, hw⟩
        rw [hw, g1]
        clear hw
        go_wp2_with fail
        refine (l1In_any _ _ _ _).mono ?_
        rintro e w2 ⟨rfl, hw⟩
        rw [hw, g2]
        clear hw
        go_wp2_with fail
        refine (l1In_any _ _ _ _).mono ?_
        rintro e w2 ⟨rfl, hw⟩
        rw [hw, g3]
        clear hw
        go_wp2_with fail
        go_ret
        exact ⟨ret_int (by rw [hu.out, hbad.out]; rfl), HBL.out.alloc HBL.out.size _⟩
      | true =>
        go_wp2_with fail
        refine (l1In_any _ _ _ _).mono ?_
        rintro e w2 ⟨rfl, hw⟩
        rw [hw, g1]
        clear hw
        go_wp2_with fail
        refine (l1In_any _ _ _ _).mono ?_
        rintro e w2 ⟨rfl, hw⟩
        rw [hw, g2]
        clear hw
        go_wp2_with fail
        refine (l1In_any _ _ _ _).mono ?_
        rintro e w2 ⟨rfl, hw⟩
        rw [hw, g3]
        clear hw
        have ⟨l, hl, hl2⟩ : ∃ l : Nat, Hid (s.left = l) ∧ l < set.length + ss.length := ⟨s.left.toNat, by have := inB_iff.1 g1; exact ⟨hid (by omega), by omega⟩⟩
        have ⟨r, hr, hr2⟩ : ∃ r : Nat, Hid (s.right = r) ∧ r < set.length + ss.length := ⟨s.right.toNat, by have := inB_iff.1 g2; exact ⟨hid (by omega), by omega⟩⟩
        have hp := inB_iff.1 g3
        go_wp2_with fail
        have hb1 := HBL.out.alloc HBL.out.size (.cells #[.int .i64 s.left, .int .i64 s.right, .int .i64 s.pivot, .slice au s.clause.length cu] 89)
        have q0 : (wr.alloc (.cells #[.int .i64 s.left, .int .i64 s.right, .int .i64 s.pivot, .slice au s.clause.length cu] 89)).cell? ⟨wr.heap.size, 0, none⟩ = some (.int .i64 s.left) := by go_simp
        have q1 : (wr.alloc (.cells #[.int .i64 s.left, .int .i64 s.right, .int .i64 s.pivot, .slice au s.clause.length cu] 89)).cell? ⟨wr.heap.size, 1, none⟩ = some (.int .i64 s.right) := by go_simp
        have q2 : (wr.alloc (.cells #[.int .i64 s.left, .int .i64 s.right, .int .i64 s.pivot, .slice au s.clause.length cu] 89)).cell? ⟨wr.heap.size, 2, none⟩ = some (.int .i64 s.pivot) := by go_simp
        have q3 : (wr.alloc (.cells #[.int .i64 s.left, .int .i64 s.right, .int .i64 s.pivot, .slice au s.clause.length cu] 89)).cell? ⟨wr.heap.size, 3, none⟩ = some (.slice au s.clause.length cu) := by go_simp
        have p0 : (wr.alloc (.cells #[.int .i64 s.left, .int .i64 s.right, .int .i64 s.pivot, .slice au s.clause.length cu] 89)).cell? ⟨w.heap.size, 0, none⟩ = some (.slice a1 set.length c1) := (World.cell?_alloc_lt _ _ _ HSZ.out).trans p0
        have p1 : (wr.alloc (.cells #[.int .i64 s.left, .int .i64 s.right, .int .i64 s.pivot, .slice au s.clause.length cu] 89)).cell? ⟨w.heap.size, 1, none⟩ = some (.slice (some ⟨b, o, none⟩) ss.length c2) := (World.cell?_alloc_lt _ _ _ HSZ.out).trans p1
        generalize wr.alloc (.cells #[.int .i64 s.left, .int .i64 s.right, .int .i64 s.pivot, .slice au s.clause.length cu] 89) = W1 at *
        obtain ⟨ua, hua, hca⟩ := clause_any w.heap.size _ _ set ss l W1 p0 p1 (HA.out W1 hb1) (HB.out W1 hb1) hl2
        obtain ⟨ub, hub, hcb⟩ := clause_any w.heap.size _ _ set ss r W1 p0 p1 (HA.out W1 hb1) (HB.out W1 hb1) hr2
        rw [← hl.out] at hca
        rw [← hr.out] at hcb
        have HCa := hid hca
        have HCb := hid hcb
        have hvl : ∀ n, n < set.length + k → isClause (clauseNo set ss n) = true := fun n hn => by
          unfold clauseNo
          split
          · rename_i hlt2
            have hset := HS.out
            unfold isSet at hset
            rw [Bool.and_eq_true, List.all_eq_true] at hset
            rw [List.getD, List.getElem?_eq_getElem hlt2]
            exact hset.2 _ (List.getElem_mem _)
          · have hlt2 : n - set.length < ss.length := by omega
            rw [List.getD, List.getElem?_eq_getElem hlt2]
            exact hv.out _ hlt2 (by omega)
        have hvA := hvl l (by have := inB_iff.1 g1; have := hl.out; omega)
        have hvB := hvl r (by have := inB_iff.1 g2; have := hr.out; omega)
        have HR := hid fun wx (hq : Keeps W1 wx) => l15Resolve_any ua ub (clauseNo set ss l) (clauseNo set ss r) s.pivot wx (hua.keep hq) (hub.keep hq) hp.1 hp.2 (isClause_bound hvB) (by have := isClause_len hvA; omega) (by have := isClause_len hvB; omega)
        have HB1 := hid hb1
        have HP := hid (And.intro p0 p1)
        have HQ3 := hid q3
        clear hca hcb hua hub hvl hvA hvB hb1 p0 p1 e1 e2 e3 e4 q3 hw1 hw2
        go_region_held3 (fun w' => w'.cell? ⟨wr.heap.size, 0, none⟩ = some (.int .i64 s.left) ∧ w'.cell? ⟨wr.heap.size, 1, none⟩ = some (.int .i64 s.right) ∧ w'.cell? ⟨wr.heap.size, 2, none⟩ = some (.int .i64 s.pivot)) (first | exact ⟨q0, q1, q2⟩ | exact ⟨hq1.keeps _ _ q0, hq1.keeps _ _ q1, hq1.keeps _ _ q2⟩ | exact ⟨(hq1.trans hq2).keeps _ _ q0, (hq1.trans hq2).keeps _ _ q1, (hq1.trans hq2).keeps _ _ q2⟩ | exact ⟨cell_later hb3 ((hq1.trans hq2).keeps _ _ q0), cell_later hb3 ((hq1.trans hq2).keeps _ _ q1), cell_later hb3 ((hq1.trans hq2).keeps _ _ q2)⟩) (first | (go_at_call_of 114 (Value.int IntKind.i64 s.left); refine (HCa.out _ ((Qt.refl W1).drew)).mono ?_; rintro e w3 ⟨rfl, hq1⟩) | (go_at_call_of 114 (Value.int IntKind.i64 s.right); refine (HCb.out _ ((Qt.refl W1).drew.trans hq1)).mono ?_; rintro e w4 ⟨rfl, hq2⟩) | (go_at_call 113; refine (HR.out _ (((Qt.refl W1).drew.trans hq1).trans hq2).keeps).mono ?_; rintro e w5 ⟨ur, rfl, hfr, hb3⟩))
        have hqq := ((Qt.refl W1).drew.trans hq1).trans hq2
        have B4 := HB1.out.trans (hqq.below w.heap.size)
        have HB5 := hid (B4.trans (hb3.mono B4.size))
        have p0 : w5.cell? ⟨w.heap.size, 0, none⟩ = some (.slice a1 set.length c1) := cell_later hb3 (hqq.keeps _ _ HP.out.1)
        have p1 : w5.cell? ⟨w.heap.size, 1, none⟩ = some (.slice (some ⟨b, o, none⟩) ss.length c2) := cell_later hb3 (hqq.keeps _ _ HP.out.2)
        have q3 : w5.cell? ⟨wr.heap.size, 3, none⟩ = some (.slice au s.clause.length cu) := cell_later hb3 (hqq.keeps _ _ HQ3.out)
        have HFR := hid hfr
        have hgd : Hid (goodStep set ss k s = decide (resolve (clauseNo set ss l) (clauseNo set ss r) s.pivot = some s.clause)) := hid (by unfold goodStep; rw [g1, g2, g3, hl.out, hr.out]; simp)
        clear hqq B4 hb3 hfr q0 q1 q2 hq1 hq2 HR HCa HCb
        cases hres : resolve (clauseNo set ss l) (clauseNo set ss r) s.pivot with
        | none =>
          have hbad : Hid (goodStep set ss k s = false) := hid (by rw [hgd.out, hres]; simp)
          have hno : (Option.isSome (none : Option (List Int))) = false := rfl
          go_wp2_with fail
          go_ret
          exact ⟨ret_int (by rw [hu.out, hbad.out]; rfl), HB5.out⟩
        | some rr =>
          rw [hres] at HFR
          have hyes : (Option.isSome (some rr)) = true := rfl
          go_wp2_with fail
          refine (l1Same_any _ _ rr s.clause _ HFR.out.rep (HCL.out _ HB5.out)).mono ?_
          rintro e w6 ⟨rfl, hq6⟩
          have HB6 := hid (HB5.out.trans (hq6.below _))
          have p0 := hq6.keeps _ _ p0
          have p1 := hq6.keeps _ _ p1
          clear hq6
          cases hsame : rr == s.clause with
          | false =>
            have hbad : Hid (goodStep set ss k s = false) := hid (by rw [hgd.out, hres]; simp only [Option.some.injEq, decide_eq_false_iff_not]; intro h; rw [h, beq_self_eq_true] at hsame; cases hsame)
            go_wp2_with fail
            go_ret
            exact ⟨ret_int (by rw [hu.out, hbad.out]; rfl), HB6.out⟩
          | true =>
            have hgood : Hid (goodStep set ss k s = true) := hid (by rw [hgd.out, hres]; simp only [Option.some.injEq, decide_eq_true_eq]; exact eq_of_beq hsame)
            go_wp2_with fail
            go_roundw
            case rel =>
              refine ⟨k + 1, by omega, by go_num, p0, p1, hid (by rw [hu.out, if_pos hgood.out]), hid (fun i h hi => ?_), HB6.out⟩
              by_cases hik : i = k
              · subst hik
                rw [hs.out]
                exact good_clause HS.out hv.out hk hgood.out
              · exact hv.out i h (by omega)
            case measure => simp [intOf]; omega
    · have hk' : k = ss.length := by omega
      subst hk'
      obtain ⟨b, o, u, rfl, -, -, -, e4, -, -, -, hc⟩ := r2 (ss.length - 1) (by omega)
      obtain ⟨au, cu, rfl, -, -, -⟩ := hc.form
      have e4 := cell_later hbel e4
      have hu : Hid (checkFrom set ss 0 ss = if 0 < ss[ss.length - 1].clause.length then (ss.length : Int) else -1) := by
        have := ht.out
        rw [drop_end hlt, checkFrom] at this
        exact hid (by rw [this]; simp [List.getD, show ss.length - 1 < ss.length by omega])
      have hw1 : IntKind.i64.wrap ((ss.length : Int) - 1) = ((ss.length - 1 : Nat) : Int) := by rw [IntKind.wrap_i64]; omega
      have hcast : (ss.length : Int) - 1 = ((ss.length - 1 : Nat) : Int) := by omega
      have HBL := hid hbel
      clear ht r2 hc hbel
      by_cases hz : 0 < ss[ss.length - 1].clause.length
      · go_wp2_with fail
        go_ret
        exact ⟨ret_int (by rw [hu.out, if_pos hz]), HBL.out⟩
      · have hz0 : ¬ (0 : Int) < (ss[ss.length - 1].clause.length : Int) := by omega
        go_wp2_with fail
        go_ret
        exact ⟨ret_int (by rw [hu.out, if_neg hz]), HBL.out⟩

set_option maxRecDepth 100000 in
set_option maxHeartbeats 400000 in
theorem l15Steps_any (sv tv : Value) (set : List (List Int)) (ss : List PStep) (w : World) (h1 : Rows2 w sv set) (h2 : Steps w tv ss) :
    Calls Try.prog 81 #[sv, tv] w fun e w' => e = .returned (.bool (isSet set && inB ss.length 1 200)) ∧ Qt w w' := by
  have HC := hid (l15Set_any sv set w h1)
  obtain ⟨a2, c2, rfl, k2, m2, -⟩ := h2.form
  clear h1 h2
  go_enter Try.func81, Try.ntmps81
  cases hs : isSet set with
  | true =>
    rw [hs] at HC
    go_wp2_with fail
    refine HC.out.mono ?_
    rintro e w1 ⟨rfl, hq⟩
    go_wp2_with (go_at_call 49; go_must (refine (l1In_any _ _ _ _).mono ?_; rintro e w2 ⟨rfl, hw⟩; rw [hw]; clear hw))
    go_ret
    exact ⟨rfl, hq⟩
  | false =>
    rw [hs] at HC
    go_wp2_with fail
    refine HC.out.mono ?_
    rintro e w1 ⟨rfl, hq⟩
    go_wp2_with fail
    go_ret
    exact ⟨rfl, hq⟩

/-- What CheckRefutation answers. -/
def checkOk (set : List (List Int)) (ss : List PStep) : Bool := isSet set && inB ss.length 1 200
def checkOut (set : List (List Int)) (ss : List PStep) : Int := if checkOk set ss then checkFrom set ss 0 ss else 0

set_option maxRecDepth 100000 in
set_option maxHeartbeats 400000 in
theorem specCheck_any (sv tv : Value) (set : List (List Int)) (ss : List PStep) (w : World) (h1 : Rows2 w sv set) (h2 : Steps w tv ss) :
    Calls Try.prog 34 #[sv, tv] w fun e w' => e = .returned (.tuple #[.int .i64 (checkOut set ss), .bool (checkOk set ss)]) ∧ Below w.heap.size w w' := by
  have HC := hid (l15Steps_any sv tv set ss w h1 h2)
  have HN := hid fun (hok : checkOk set ss = true) wx (hq : Qt w wx) => by
    unfold checkOk at hok
    rw [Bool.and_eq_true, inB_iff] at hok
    exact l15Check_any sv tv set ss wx (h1.keep hq.keeps) (h2.keep hq.keeps) hok.1 (by omega) (by omega)
  clear h1 h2
  go_enter Try.func34, Try.ntmps34
  cases hok : checkOk set ss with
  | false =>
    have ho : Hid (checkOut set ss = 0) := by unfold checkOut; rw [hok]; exact hid rfl
    unfold checkOk at hok
    rw [hok] at HC
    go_wp2_with fail
    refine HC.out.mono ?_
    rintro e w1 ⟨rfl, hq⟩
    go_wp2_with fail
    go_ret2
    exact ⟨by rw [ho.out]; rfl, hq.below _⟩
  | true =>
    have ho : Hid (checkOut set ss = checkFrom set ss 0 ss) := by unfold checkOut; rw [hok]; exact hid rfl
    have HH := hid (HN.out hok)
    unfold checkOk at hok
    rw [hok] at HC
    go_wp2_with fail
    refine HC.out.mono ?_
    rintro e w1 ⟨rfl, hq⟩
    go_wp2_with fail
    refine (HH.out w1 hq).mono ?_
    rintro e w2 ⟨rfl, hb⟩
    go_wp2_with fail
    go_ret2
    exact ⟨by rw [ho.out]; rfl, (hq.below _).trans (hb.mono (hq.below w.heap.size).size)⟩
end Go.Proofs.Ytggialagjkhdfaa
