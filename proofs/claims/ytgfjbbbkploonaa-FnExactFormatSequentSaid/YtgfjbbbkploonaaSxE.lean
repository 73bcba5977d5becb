/-
  The walk over plain data is sound: what each operation does.
  Conditions: none.
-/
import Derived.Test.YtgfjbbbkploonaaSxD
namespace Go.Proofs.Ytgfjbbbkploonaa
set_option linter.unusedSimpArgs false
set_option linter.unusedVariables false
open Go.RowKit
variable {P : Program}

theorem StepSem.value {o : Oper} {σ : St} {x : V} (h : ∀ n0 N g a w, Rel n0 N σ g a w → ∃ v, (execOp a.eval o).run P w = .ok (.value v) w ∧ VR σ g w x v) : StepSem P o σ (σ.put o.dst x) := by
  intro n0 N g a w hR _ hd
  obtain ⟨v, h1, h2⟩ := h n0 N g a w hR
  unfold Oper.wp
  rw [h1]
  exact ⟨g, hR.put o.dst h2 hd, Bk.refl _ _, rfl, rfl⟩

theorem out_eq {σ σ' : St} {d : Option Nat} {v : Option V} {p : Prop} (h : σ.out d v = some (p, σ')) : ∃ x, v = some x ∧ σ' = σ.put d x := by
  unfold St.out at h
  cases v with
  | none => simp at h
  | some x => simp only [Option.map_some, Option.some.injEq, Prod.mk.injEq] at h; exact ⟨x, rfl, h.2.symm⟩
theorem outP_eq {σ σ' : St} {d : Option Nat} {v : Option (Prop × C)} {p : Prop} (h : σ.outP d v = some (p, σ')) : ∃ x, v = some (p, x) ∧ σ' = σ.put d (.one x) := by
  unfold St.outP at h
  cases v with
  | none => simp at h
  | some x => simp only [Option.map_some, Option.some.injEq, Prod.mk.injEq] at h; exact ⟨x.2, by rw [← h.1], h.2.symm⟩

theorem run_isAgg {t : TypeId} {b : Bool} (h : aggT P t = some b) (w : World) : (isAgg t).run P w = .ok b w := by
  unfold aggT at h
  cases hu : P.underlying t with
  | none => rw [hu] at h; simp at h
  | some d =>
    rw [hu] at h
    simp only [Option.map_some, Option.some.injEq] at h
    subst h
    simp only [isAgg, Sem.run_bind, run_underlying hu, Result.andThen]
    cases d <;> rfl
theorem run_sizeOf {t : TypeId} {n : Nat} (h : sizeT P t = some n) (w : World) : (sizeOf t).run P w = .ok n w := by
  unfold sizeT at h
  cases hi : P.info? t with
  | none => rw [hi] at h; simp at h
  | some i =>
    rw [hi] at h
    simp only [Option.map_some, Option.some.injEq] at h
    subst h
    simp [sizeOf, typeInfo, hi]

theorem addr_add (b o n : Nat) : (⟨b, o, none⟩ : Addr).add n = ⟨b, o + n, none⟩ := by
  unfold Addr.add
  split <;> simp_all

/-- A load of what is known. -/
theorem load_run {σ : St} {g : Gh} {w : World} {t : TypeId} {cs : List C} {o : Nat} {x : V} {b q : Nat} (h : ldC P t cs o = some x)
    (hc : ∀ (j : Nat) c, cs[j]? = some c → ∃ u, w.cell? ⟨b, q + j, none⟩ = some u ∧ CR σ g w c u) : ∃ v, (loadVar t ⟨b, q + o, none⟩).run P w = .ok v w ∧ VR σ g w x v := by
  unfold ldC at h
  split at h
  · rename_i ha
    cases hn : sizeT P t with
    | none => rw [hn] at h; simp at h
    | some n =>
      rw [hn] at h
      simp only [Option.bind_some] at h
      split at h
      · rename_i hle
        simp only [Option.some.injEq] at h
        subst h
        have key : ∃ vs : List Value, vs.length = n ∧ (∀ j u, vs[j]? = some u → w.cell? ⟨b, q + o + j, none⟩ = some u) ∧ CRs σ g w ((cs.drop o).take n) vs := by
          have hx : ∀ j, ∃ u, j < n → w.cell? ⟨b, q + o + j, none⟩ = some u ∧ ∀ c, cs[o + j]? = some c → CR σ g w c u := fun j => by
            by_cases hj : j < n
            · have hlt : o + j < cs.length := by omega
              obtain ⟨u, u1, u2⟩ := hc (o + j) cs[o + j] (by simp [hlt])
              refine ⟨u, fun _ => ⟨by rw [Nat.add_assoc]; exact u1, fun c hcc => ?_⟩⟩
              rw [List.getElem?_eq_getElem hlt, Option.some.injEq] at hcc
              exact hcc ▸ u2
            · exact ⟨undef, fun h => absurd h hj⟩
          refine ⟨(List.range n).map fun j => (hx j).choose, by simp, fun j u hu => ?_, CRs.mk (by simp; omega) fun j c v h1 h2 => ?_⟩
          · rw [List.getElem?_map] at hu
            by_cases hj : j < n
            · rw [List.getElem?_range hj] at hu
              simp only [Option.map_some, Option.some.injEq] at hu
              rw [← hu]
              exact ((hx j).choose_spec hj).1
            · rw [List.getElem?_eq_none (by simp; omega)] at hu; simp at hu
          · rw [List.getElem?_map] at h2
            rw [List.getElem?_take] at h1
            split at h1
            · rename_i hj
              rw [List.getElem?_drop] at h1
              rw [List.getElem?_range hj] at h2
              simp only [Option.map_some, Option.some.injEq] at h2
              rw [← h2]
              exact ((hx j).choose_spec hj).2 c h1
            · cases h1
        obtain ⟨vs, k1, k2, k3⟩ := key
        refine ⟨.agg ⟨vs⟩, ?_, vs, rfl, k3⟩
        have hl := run_loadCells_list (P := P) w ⟨b, q + o, none⟩ vs (fun j u hu => by rw [addr_add]; exact k2 j u hu)
        rw [k1] at hl
        simp only [loadVar, Sem.run_bind, run_isAgg ha, Result.andThen, if_true, run_sizeOf hn, hl]
        rfl
      · cases h
  · rename_i ha
    cases hcc : cs[o]? with
    | none => rw [hcc] at h; simp at h
    | some c =>
      rw [hcc] at h
      simp only [Option.map_some, Option.some.injEq] at h
      subst h
      obtain ⟨u, u1, u2⟩ := hc o c hcc
      refine ⟨u, ?_, u2⟩
      simp only [loadVar, Sem.run_bind, run_isAgg ha, Result.andThen, Bool.false_eq_true, if_false, run_load, u1]
  · cases h

theorem I64.wrap (k : IntKind) (n : Int) : k.min ≤ k.wrap n ∧ k.wrap n ≤ k.max := by
  cases k <;> simp [IntKind.wrap, IntKind.min, IntKind.max, IntKind.bits, IntKind.signed] <;> (try split) <;> omega

theorem sem_load {o : Oper} {σ : St} {t : TypeId} {x : Operand} {cs : List C} {q : Nat} {v : V} (ho : o.op = .load t x) (h1 : σ.at (σ.get P 0 x) = some (cs, q)) (h2 : ldC P t cs q = some v) : StepSem P o σ (σ.put o.dst v) :=
  StepSem.value fun n0 N g a w hR => by
    obtain ⟨b, k, e1, e2⟩ := hR.at (hR.get P 0 x) h1
    obtain ⟨u, u1, u2⟩ := load_run h2 e2
    refine ⟨u, ?_, u2⟩
    unfold execOp
    simp only [ho]
    simp only [Instr.loadAt, e1, Instr.sureAddr, Sem.run_bind, Sem.run_pure, Result.andThen, u1]

theorem int_cr {σ : St} {g : Gh} {w : World} (k : IntKind) (n : Int) : CR σ g w (.t (.int k (k.wrap n))) (.int k (k.wrap n)) := by
  simp only [CR, RepV]; exact ⟨trivial, (I64.wrap k _).1, (I64.wrap k _).2⟩
theorem bool_cr {σ : St} {g : Gh} {w : World} (b : Bool) : CR σ g w (.t (.bool b)) (.bool b) := by
  simp only [CR, RepV]
theorem binI_run {op : BinOp} {k : IntKind} {m n : Int} {p : Prop} {c : C} (h : binI op k m n = some (p, c)) (hp : p) (t : TypeId) (w : World) (σ : St) (g : Gh) :
    ∃ v, (binOp op t (.int k m) (.int k n)).run P w = .ok v w ∧ CR σ g w c v := by
  unfold binI at h
  cases op <;> simp only [Option.some.injEq, Prod.mk.injEq, reduceCtorEq] at h
  all_goals obtain ⟨rfl, rfl⟩ := h
  · exact ⟨.int k (k.wrap (m + n)), by simp [binOp, Op.intArith], int_cr _ _⟩
  · exact ⟨.int k (k.wrap (m - n)), by simp [binOp, Op.intArith], int_cr _ _⟩
  · exact ⟨.int k (k.wrap (m * n)), by simp [binOp, Op.intArith], int_cr _ _⟩
  · exact ⟨.int k (k.wrap (m.tdiv n)), by simp [binOp, Op.intDiv, hp], int_cr _ _⟩
  · exact ⟨.int k (m.tmod n), by simp [binOp, Op.intDiv, hp.1], by simp only [CR, RepV]; exact ⟨trivial, hp.2.1, hp.2.2⟩⟩
  · exact ⟨_, by simp [binOp, Op.intBits], int_cr _ _⟩
  · exact ⟨_, by simp [binOp, Op.intBits], int_cr _ _⟩
  · exact ⟨_, by simp [binOp, Op.intBits], int_cr _ _⟩
  · exact ⟨.bool (m == n), by simp [binOp, Op.intCmp], bool_cr _⟩
  · exact ⟨.bool (m != n), by simp [binOp, Op.intCmp], bool_cr _⟩
  · exact ⟨.bool (decide (m < n)), by simp [binOp, Op.intCmp], bool_cr _⟩
  · exact ⟨.bool (decide (m ≤ n)), by simp [binOp, Op.intCmp], bool_cr _⟩
  · exact ⟨.bool (decide (m > n)), by simp [binOp, Op.intCmp], bool_cr _⟩
  · exact ⟨.bool (decide (m ≥ n)), by simp [binOp, Op.intCmp], bool_cr _⟩

theorem bytes_list (a : List UInt8) : (⟨a.toArray⟩ : ByteArray).toList = a := by
  exact ByteArray.toList_mk a
theorem binS_run {op : BinOp} {m n : List UInt8} {p : Prop} {c : C} (h : binS op m n = some (p, c)) (hp : p) (t : TypeId) (w : World) (σ : St) (g : Gh) :
    ∃ v, (binOp op t (.string ⟨m.toArray⟩) (.string ⟨n.toArray⟩)).run P w = .ok v w ∧ CR σ g w c v := by
  unfold binS at h
  cases op <;> simp only [Option.some.injEq, Prod.mk.injEq, reduceCtorEq] at h
  all_goals obtain ⟨rfl, rfl⟩ := h
  all_goals simp only [binOp, Op.stringOp, bytes_list]
  · have hs : ¬ ((((⟨m.toArray⟩ : ByteArray).size + (⟨n.toArray⟩ : ByteArray).size : Nat) : Int) > IntKind.i64.max) := by
      have h1 : (⟨m.toArray⟩ : ByteArray).size = m.length := by simp [ByteArray.size]
      have h2 : (⟨n.toArray⟩ : ByteArray).size = n.length := by simp [ByteArray.size]
      have hp' : m.length + n.length ≤ 9223372036854775807 := hp
      rw [h1, h2, IntKind.max_i64]
      omega
    refine ⟨.string ⟨(m ++ n).toArray⟩, ?_, ?_⟩
    · rw [if_neg hs]
      simp only [Sem.run_pure]
      congr 2
    · simp only [CR, RepV]; exact ⟨trivial, by simpa using hp⟩
  · exact ⟨.bool (m == n), by simp [Sem.run], bool_cr _⟩
  · exact ⟨.bool (!(m == n)), by simp [Sem.run], bool_cr _⟩
  · exact ⟨.bool (Op.bytesLess m n), by simp [Sem.run], bool_cr _⟩
  · exact ⟨.bool (Op.bytesLess m n || m == n), by simp [Sem.run], bool_cr _⟩
  · exact ⟨.bool (!(Op.bytesLess m n || m == n)), by simp [Sem.run], bool_cr _⟩
  · exact ⟨.bool (!(Op.bytesLess m n)), by simp [Sem.run], bool_cr _⟩

theorem flag_cases {α : Type} {x : Option (Prop × C)} {p : Prop} {c : C} (h : x = some (p, c)) : x = some (p, c) := h

theorem eqGuard_run (op : BinOp) (t : TypeId) (x y : Operand) (a b : Value) (w : World) (h : ∀ v, a ≠ .agg v) (h2 : a ≠ .nilIface) : (eqGuard op t x y a b).run P w = .ok () w := by
  unfold eqGuard
  cases a <;> first
    | exact absurd rfl h2
    | exact absurd rfl (h _)
    | (split <;> first | rfl | (split <;> rfl))

theorem bool_eq_run {op : BinOp} {t : TypeId} (ht : boolT P t = true) (a b : Bool) (w : World) (hop : op = .eql ∨ op = .neq) :
    (binOp op t (.bool a) (.bool b)).run P w = .ok (.bool (if op = .eql then a == b else !(a == b))) w := by
  unfold boolT at ht
  split at ht
  · rename_i hu
    have key : (Op.equal t (.bool a) (.bool b)).run P w = .ok (a == b) w := by
      unfold Op.equal
      rw [show Op.maxDepth = 9999 + 1 from rfl, Op.equalIn]
      simp only [Sem.run_bind, run_underlying hu, Result.andThen]
      rfl
    rcases hop with rfl | rfl
    · show ((do pure (.bool (← Op.equal t (.bool a) (.bool b))) : Sem Value)).run P w = _
      simp only [Sem.run_bind, key, Result.andThen, Sem.run_pure, if_true]
    · show ((do pure (.bool (!(← Op.equal t (.bool a) (.bool b)))) : Sem Value)).run P w = _
      simp only [Sem.run_bind, key, Result.andThen, Sem.run_pure, reduceCtorEq, if_false]
  · cases ht

theorem bin_run {op : BinOp} {t : TypeId} {x y : V} {p : Prop} {c : C} (h : bin P op t x y = some (p, c)) (hp : p) {σ : St} {g : Gh} {w : World} {u v : Value} (hu : VR σ g w x u) (hv : VR σ g w y v) (ox oy : Operand) :
    ∃ r, (eqGuard op t ox oy u v).run P w = .ok () w ∧ (binOp op t u v).run P w = .ok r w ∧ CR σ g w c r := by
  unfold bin at h
  split at h
  · split at h
    · simp only [Option.some.injEq, Prod.mk.injEq] at h
      obtain ⟨rfl, rfl⟩ := h
      simp only [VR, CR, RepV] at hu hv
      obtain ⟨rfl, _⟩ := hu
      obtain ⟨rfl, _⟩ := hv
      exact ⟨_, eqGuard_run _ _ _ _ _ _ _ (by simp) (by simp), by simp only [binOp, Op.shift]; rw [if_neg (by omega)]; rfl, int_cr _ _⟩
    · simp only [Option.some.injEq, Prod.mk.injEq] at h
      obtain ⟨rfl, rfl⟩ := h
      simp only [VR, CR, RepV] at hu hv
      obtain ⟨rfl, _⟩ := hu
      obtain ⟨rfl, _⟩ := hv
      exact ⟨_, eqGuard_run _ _ _ _ _ _ _ (by simp) (by simp), by simp only [binOp, Op.shift]; rw [if_neg (by omega)]; rfl, by simp only [CR, RepV]; exact ⟨trivial, hp.2.1, hp.2.2⟩⟩
    · split at h
      · subst_vars
        simp only [VR, CR, RepV] at hu hv
        obtain ⟨rfl, _⟩ := hu
        obtain ⟨rfl, _⟩ := hv
        obtain ⟨r, r1, r2⟩ := binI_run h hp t w σ g
        exact ⟨r, eqGuard_run _ _ _ _ _ _ _ (by simp) (by simp), r1, r2⟩
      · cases h
  · simp only [VR, CR, RepV] at hu hv
    obtain ⟨rfl, _⟩ := hu
    obtain ⟨rfl, _⟩ := hv
    obtain ⟨r, r1, r2⟩ := binS_run h hp t w σ g
    exact ⟨r, eqGuard_run _ _ _ _ _ _ _ (by simp) (by simp), r1, r2⟩
  · simp only [VR, CR, RepV] at hu hv
    subst hu hv
    split at h
    · split at h
      · simp only [Option.some.injEq, Prod.mk.injEq] at h
        obtain ⟨rfl, rfl⟩ := h
        exact ⟨_, eqGuard_run _ _ _ _ _ _ _ (by simp) (by simp), bool_eq_run ‹_› _ _ w (Or.inl rfl), bool_cr _⟩
      · cases h
    · split at h
      · simp only [Option.some.injEq, Prod.mk.injEq] at h
        obtain ⟨rfl, rfl⟩ := h
        exact ⟨_, eqGuard_run _ _ _ _ _ _ _ (by simp) (by simp), bool_eq_run ‹_› _ _ w (Or.inr rfl), bool_cr _⟩
      · cases h
    · cases h
  · cases h

theorem sem_bin {o : Oper} {σ : St} {op : BinOp} {t t' : TypeId} {x y : Operand} {p : Prop} {c : C} (ho : o.op = .binOp op t x y t') (h : bin P op t (σ.get P t x) (σ.get P t y) = some (p, c)) (hp : p) : StepSem P o σ (σ.put o.dst (.one c)) :=
  StepSem.value fun n0 N g a w hR => by
    obtain ⟨r, r1, r2, r3⟩ := bin_run h hp (hR.get P t x) (hR.get P t y) x y
    refine ⟨r, ?_, r3⟩
    unfold execOp
    simp only [ho]
    simp only [Sem.run_bind, r1, r2, Result.andThen, Sem.run_pure]

theorem sem_un {o : Oper} {σ : St} {op : UnOp} {t : TypeId} {x : Operand} {c : C} (ho : o.op = .unOp op t x) (h : un op (σ.get P o.type x) = some c) : StepSem P o σ (σ.put o.dst (.one c)) :=
  StepSem.value fun n0 N g a w hR => by
    have hv := hR.get P o.type x
    unfold un at h
    split at h
    · rename_i b hx
      split at h
      · cases h
        rw [hx] at hv
        simp only [VR, CR, RepV] at hv
        refine ⟨.bool !b, ?_, by simp only [VR, CR, RepV]⟩
        unfold execOp
        simp only [ho]
        simp [hv, Op.unary]
      · cases h
    · rename_i k n hx
      split at h
      · cases h
        rw [hx] at hv
        simp only [VR, CR, RepV] at hv
        refine ⟨.int k (k.wrap (0 - n)), ?_, show CR σ g w _ _ from int_cr _ _⟩
        unfold execOp
        simp only [ho]
        simp [hv.1, Op.unary, Op.intArith]
      · cases h
    · cases h

theorem CRt.at {σ : St} {g : Gh} {w : World} : ∀ {xs : List (Bool × List C)} {vs : List Value}, CRt σ g w xs vs → ∀ (j : Nat) x, xs[j]? = some x → ∃ v, vs[j]? = some v ∧ CRx σ g w x v
  | [], _, _, j, c, h => by simp at h
  | d :: cs, vs, h, 0, c, hj => by
    obtain ⟨v, vs', rfl, h1, _⟩ := h
    simp only [List.getElem?_cons_zero, Option.some.injEq] at hj
    subst hj
    exact ⟨v, rfl, h1⟩
  | d :: cs, vs, h, j + 1, c, hj => by
    obtain ⟨v, vs', rfl, _, h2⟩ := h
    simpa using CRt.at h2 j c (by simpa using hj)
theorem sem_extract {o : Oper} {σ : St} {x : Operand} {i : Nat} {xs : List (Bool × List C)} {v : V} (ho : o.op = .extract x i) (h1 : σ.get P 0 x = .tup xs)
    (h : ((xs[i]?).bind fun (a, cs) => if a = true then some (.agg cs) else match cs with | [c] => some (.one c) | _ => none) = some v) : StepSem P o σ (σ.put o.dst v) :=
  StepSem.value fun n0 N g a w hR => by
    have hv := hR.get P 0 x
    rw [h1] at hv
    obtain ⟨vs, k1, k2⟩ := hv
    cases hx : xs[i]? with
    | none => rw [hx] at h; simp at h
    | some y =>
      obtain ⟨b, cs⟩ := y
      rw [hx] at h
      simp only [Option.bind_some] at h
      obtain ⟨u, u1, u2⟩ := k2.at i _ hx
      refine ⟨u, ?_, ?_⟩
      · unfold execOp
        simp only [ho]
        simp [k1, Instr.extract, u1]
      · unfold CRx at u2
        split at h
        · cases h
          rw [if_pos ‹_›] at u2
          exact u2
        · rw [if_neg ‹_›] at u2
          obtain ⟨c, c1, c2⟩ := u2
          simp only at c1
          subst c1
          cases h
          exact c2
end Go.Proofs.Ytgfjbbbkploonaa
