/-
  The walk over plain data is sound: addresses, fields, indexes, lengths, boxes.
  Conditions: none.
-/
import Derived.Test.YtgfjbbbkploonaaSxE
namespace Go.Proofs.Ytgfjbbbkploonaa
set_option linter.unusedSimpArgs false
set_option linter.unusedVariables false
open Go.RowKit
variable {P : Program}

theorem fldT_eq {t : TypeId} {f q : Nat} {ft : TypeId} (h : fldT P t f = some (q, ft)) : ∃ fs x, P.underlying t = some (.struct fs) ∧ fs[f]? = some x ∧ x.offset = q ∧ x.type = ft := by
  unfold fldT at h
  split at h
  · rename_i fs hu
    cases hx : fs[f]? with
    | none => rw [hx] at h; simp at h
    | some x =>
      rw [hx] at h
      simp only [Option.map_some, Option.some.injEq, Prod.mk.injEq] at h
      exact ⟨fs, x, hu, hx, h.1, h.2⟩
  · cases h

theorem fieldAddr_run {o : Oper} {t : TypeId} {f q : Nat} {ft : TypeId} {x : Operand} {n : Nat} (ho : o.op = .fieldAddr t x f) (h : fldT P t f = some (q, ft)) (hn : sizeT P ft = some n) (hn0 : n ≠ 0) {a : Act} {w : World} {b k : Nat} (hv : a.eval x = .pointer (some ⟨b, k, none⟩)) :
    (execOp a.eval o).run P w = .ok (.value (.pointer (some ⟨b, k + q, none⟩))) w := by
  obtain ⟨fs, y, h1, h2, h3, h4⟩ := fldT_eq h
  subst h3 h4
  unfold execOp
  simp only [ho]
  simp only [Instr.fieldAt, Sem.run_bind, run_underlying h1, Result.andThen, h2, hv, Instr.sureAddr, Sem.run_pure, fieldPlace, run_sizeOf hn, if_neg hn0, addr_add]

theorem sem_fieldAddr {o : Oper} {σ σ' : St} {t : TypeId} {f q : Nat} {ft : TypeId} {x : Operand} {n : Nat} {p : Prop} (ho : o.op = .fieldAddr t x f) (h : fldT P t f = some (q, ft)) (hn : sizeT P ft = some n) (hn0 : n ≠ 0)
    (hs : (match σ.get P 0 x with
    | .one (.bx b p) => σ.out o.dst (some (.one (.bx b (p + q))))
    | .one (.el cs p) => σ.out o.dst (some (.one (.el cs (p + q))))
    | .one (.eo e g z i p) => σ.out o.dst (some (.one (.eo e g z i (p + q))))
    | .one (.t (.ptr cs)) => σ.out o.dst (some (.one (.el cs q)))
    | _ => none) = some (p, σ')) : StepSem P o σ σ' := by
  split at hs
  · rename_i b k hx
    obtain ⟨y, hy, rfl⟩ := out_eq hs
    cases hy
    refine StepSem.value fun n0 N g a w hR => ?_
    have hv := hR.get P 0 x
    rw [hx] at hv
    obtain ⟨v1, v2⟩ := hv
    exact ⟨_, fieldAddr_run ho h hn hn0 v1, rfl, v2⟩
  · rename_i cs k hx
    obtain ⟨y, hy, rfl⟩ := out_eq hs
    cases hy
    refine StepSem.value fun n0 N g a w hR => ?_
    have hv := hR.get P 0 x
    rw [hx] at hv
    obtain ⟨b, r, v1, v2⟩ := hv
    exact ⟨_, fieldAddr_run ho h hn hn0 v1, b, r, by rw [Nat.add_assoc], v2⟩
  · rename_i e s z i k hx
    obtain ⟨y, hy, rfl⟩ := out_eq hs
    cases hy
    refine StepSem.value fun n0 N g a w hR => ?_
    have hv := hR.get P 0 x
    rw [hx] at hv
    obtain ⟨b, m, c, v1, v2, v3, v4⟩ := hv
    exact ⟨_, fieldAddr_run ho h hn hn0 v2, b, m, c, v1, by rw [Nat.add_assoc], v3, v4⟩
  · rename_i cs hx
    obtain ⟨y, hy, rfl⟩ := out_eq hs
    cases hy
    refine StepSem.value fun n0 N g a w hR => ?_
    have hv := hR.get P 0 x
    rw [hx] at hv
    simp only [VR, CR, RepV] at hv
    obtain ⟨b, r, v1, v2⟩ := hv
    exact ⟨_, fieldAddr_run ho h hn hn0 v1, b, r, rfl, v2⟩
  · cases hs

theorem part_run {σ : St} {g : Gh} {w : World} {t : TypeId} {cs : List C} {o : Nat} {x : V} {vs : List Value} (h : ldC P t cs o = some x) (hc : CRs σ g w cs vs) :
    ∃ v, (part t ⟨vs⟩ o).run P w = .ok v w ∧ VR σ g w x v := by
  unfold ldC at h
  split at h
  · rename_i ha
    cases hn : sizeT P t with
    | none => rw [hn] at h; simp at h
    | some n =>
      rw [hn] at h
      simp only [Option.bind_some] at h
      split at h
      · cases h
        refine ⟨.agg ⟨(vs.drop o).take n⟩, ?_, _, rfl, (hc.drop o).take n⟩
        simp only [part, Sem.run_bind, run_isAgg ha, Result.andThen, if_true, run_sizeOf hn, Sem.run_pure]
        congr 2
        simp [List.drop_take]
      · cases h
  · rename_i ha
    cases hcc : cs[o]? with
    | none => rw [hcc] at h; simp at h
    | some c =>
      rw [hcc] at h
      cases h
      obtain ⟨u, u1, u2⟩ := hc.at o c hcc
      refine ⟨u, ?_, u2⟩
      have u1' : (⟨vs⟩ : Array Value)[o]? = some u := by simpa using u1
      simp only [part, Sem.run_bind, run_isAgg ha, Result.andThen, Bool.false_eq_true, if_false, u1', Sem.run_pure]
  · cases h

theorem sem_field {o : Oper} {σ : St} {t : TypeId} {f q : Nat} {ft : TypeId} {x : Operand} {cs : List C} {v : V} (ho : o.op = .field t x f) (h : fldT P t f = some (q, ft)) (hx : σ.get P t x = .agg cs) (hl : ldC P ft cs q = some v) : StepSem P o σ (σ.put o.dst v) :=
  StepSem.value fun n0 N g a w hR => by
    obtain ⟨fs, y, h1, h2, h3, h4⟩ := fldT_eq h
    subst h3 h4
    have hv := hR.get P t x
    rw [hx] at hv
    obtain ⟨vs, v1, v2⟩ := hv
    obtain ⟨u, u1, u2⟩ := part_run hl v2
    refine ⟨u, ?_, u2⟩
    unfold execOp
    simp only [ho]
    simp only [Instr.field, Sem.run_bind, run_underlying h1, Result.andThen, h2, v1, asAgg, Sem.run_pure, u1]

theorem elT_eq {t : TypeId} {n : Nat} (h : (elT P t).bind (sizeT P) = some n) : ∃ e, P.underlying t = some (.slice e) ∧ sizeT P e = some n := by
  unfold elT at h
  split at h
  · rename_i e hu; exact ⟨e, hu, by simpa using h⟩
  · simp at h

theorem indexAddr_run {o : Oper} {t : TypeId} {n : Nat} {x i : Operand} (ho : o.op = .indexAddr t x i) (h : (elT P t).bind (sizeT P) = some n) {a : Act} {w : World} {b q len cap : Nat} {k : IntKind} {j : Int} (hv : a.eval x = .slice (some ⟨b, q, none⟩) len cap) (hi : a.eval i = .int k j) (h0 : 0 ≤ j) (hl : j < len) :
    (execOp a.eval o).run P w = .ok (.value (.pointer (some ⟨b, q + j.toNat * n, none⟩))) w := by
  obtain ⟨e, h1, h2⟩ := elT_eq h
  unfold execOp
  simp only [ho]
  simp only [Instr.indexAt, Sem.run_bind, run_underlying h1, Result.andThen, hv, hi, asIntOf, Sem.run_pure, if_pos (And.intro h0 hl), run_sizeOf h2, addr_add]

theorem sem_indexAddr {o : Oper} {σ σ' : St} {t : TypeId} {n : Nat} {x i : Operand} {p : Prop} (ho : o.op = .indexAddr t x i) (h : (elT P t).bind (sizeT P) = some n)
    (hs : (match σ.get P t x, σ.get P 0 i with
    | .one (.t (.sl sz rows)), .one (.t (.int _ k)) => some (sz = n ∧ 0 ≤ k ∧ k < rows.length, σ.put o.dst (.one (.el (rows.getD k.toNat []) 0)))
    | .one (.ow e g), .one (.t (.int _ k)) => (σ.ev e).bind fun x => if x.gen = g then some (x.sz = n ∧ 0 ≤ k ∧ k < x.rows.length, σ.put o.dst (.one (.eo e g n k.toNat 0))) else none
    | _, _ => none) = some (p, σ')) (hp : p) : StepSem P o σ σ' := by
  split at hs
  · rename_i sz rows kk k hx hi
    simp only [Option.some.injEq, Prod.mk.injEq] at hs
    obtain ⟨rfl, rfl⟩ := hs
    obtain ⟨rfl, h0, hl⟩ := hp
    refine StepSem.value fun n0 N g a w hR => ?_
    have hv := hR.get P t x
    have hw := hR.get P 0 i
    rw [hx] at hv
    rw [hi] at hw
    simp only [VR, CR, RepV] at hv hw
    obtain ⟨ao, cap, v1, v2, v3, v4⟩ := hv
    have hlt : k.toNat < rows.length := by omega
    rcases v4 with rfl | ⟨b, q, rfl, v4, v5⟩
    · simp at hlt
    · have hrow : rows[k.toNat]? = some rows[k.toNat] := by simp [hlt]
      have hg : rows.getD k.toNat [] = rows[k.toNat] := by simp [List.getD, hlt]
      exact ⟨_, indexAddr_run ho h v1 hw.1 h0 hl, b, q + k.toNat * sz, by simp, v4, by rw [hg]; exact (v5.at _ _ hrow).2⟩
  · rename_i e s kk k hx hi
    cases he : σ.ev e with
    | none => rw [he] at hs; simp at hs
    | some y =>
      rw [he] at hs
      simp only [Option.bind_some] at hs
      split at hs
      · rename_i hgen
        simp only [Option.some.injEq, Prod.mk.injEq] at hs
        obtain ⟨rfl, rfl⟩ := hs
        obtain ⟨rfl, h0, hl⟩ := hp
        refine StepSem.value fun n0 N g a w hR => ?_
        have hv := hR.get P t x
        have hw := hR.get P 0 i
        rw [hx] at hv
        rw [hi] at hw
        obtain ⟨v1, v2⟩ := hv
        simp only [VR, CR, RepV] at hw
        have hlt : k.toNat < y.rows.length := by omega
        obtain ⟨b, cap, e1⟩ := hR.sliceOf he (by intro h0; rw [h0] at hlt; simp at hlt)
        rw [hgen] at e1
        exact ⟨_, indexAddr_run ho h (v1.trans e1) hw.1 h0 hl, b, _, _, e1, by simp, hlt, v2⟩
      · cases hs
  · cases hs

theorem strT_eq {t : TypeId} (h : strT P t = true) : P.underlying t = some .string := by
  unfold strT at h
  split at h
  · assumption
  · cases h

theorem sem_index {o : Oper} {σ σ' : St} {t : TypeId} {x i : Operand} {p : Prop} (ho : o.op = .index t x i)
    (hs : (match σ.get P t x, σ.get P 0 i with
    | .one (.t (.str s)), .one (.t (.int _ k)) => if strT P t = true then some (0 ≤ k ∧ k < s.length, σ.put o.dst (.one (.t (.int .u8 (s.getD k.toNat 0).toNat)))) else none
    | _, _ => none) = some (p, σ')) (hp : p) : StepSem P o σ σ' := by
  split at hs
  · rename_i s kk k hx hi
    split at hs
    · rename_i ht
      simp only [Option.some.injEq, Prod.mk.injEq] at hs
      obtain ⟨rfl, rfl⟩ := hs
      obtain ⟨h0, hl⟩ := hp
      refine StepSem.value fun n0 N g a w hR => ?_
      have hv := hR.get P t x
      have hw := hR.get P 0 i
      rw [hx] at hv
      rw [hi] at hw
      simp only [VR, CR, RepV] at hv hw
      have hlt : k.toNat < s.length := by omega
      refine ⟨.int .u8 (s.getD k.toNat 0).toNat, ?_, ?_⟩
      · have hb : (⟨s.toArray⟩ : ByteArray)[k.toNat]? = some s[k.toNat] := by
          have : k.toNat < (⟨s.toArray⟩ : ByteArray).size := by simpa [ByteArray.size] using hlt
          rw [getElem?_pos (⟨s.toArray⟩ : ByteArray) k.toNat this]
          rfl
        unfold execOp
        simp only [ho]
        simp only [Instr.index, Sem.run_bind, run_underlying (strT_eq ht), Result.andThen, hv.1, hw.1, asIntOf, Sem.run_pure, if_pos h0, hb]
        simp [List.getD, hlt]
      · simp only [VR, CR, RepV]
        refine ⟨trivial, ?_, ?_⟩
        · simp [IntKind.min, IntKind.signed]
        · have h1 := (s.getD k.toNat 0).toNat_lt
          have h2 : IntKind.max .u8 = 255 := by decide
          omega
    · cases hs
  · cases hs

theorem sem_len {o : Oper} {σ : St} {as : Array Operand} {ts : Array TypeId} {x : Operand} {t : TypeId} {n : Nat} (ho : o.op = .call ⟨.builtin .len, as, ts⟩) (h1 : as.toList = [x]) (h2 : ts.toList = [t])
    (hn : n ≤ maxI) (h : ∀ n0 N g a w, Rel n0 N σ g a w → (Builtin.len_ #[t] o.type #[a.eval x]).run P w = .ok (.int .i64 n) w) : StepSem P o σ (σ.put o.dst (.one (.t (.int .i64 n)))) :=
  StepSem.value fun n0 N g a w hR => by
    have e1 : as = #[x] := by rw [← Array.toArray_toList (xs := as), h1]
    have e2 : ts = #[t] := by rw [← Array.toArray_toList (xs := ts), h2]
    subst e1 e2
    refine ⟨.int .i64 n, ?_, ?_⟩
    · unfold execOp
      simp only [ho]
      have hl := h n0 N g a w hR
      simp [resolve, invoke, builtin, hl]
    · simp only [VR, CR, RepV]
      refine ⟨trivial, ?_, ?_⟩
      · have : IntKind.min .i64 = -9223372036854775808 := by decide
        omega
      · have : IntKind.max .i64 = 9223372036854775807 := by decide
        unfold maxI at hn
        omega
end Go.Proofs.Ytgfjbbbkploonaa
