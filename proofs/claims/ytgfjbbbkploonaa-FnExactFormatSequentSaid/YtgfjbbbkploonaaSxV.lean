/-
  The walk over plain data: append, literal slices, with the places that they look at and turn; owned slices that are only read from here on.
  Conditions: none.
-/
import Derived.Test.YtgfjbbbkploonaaSxU
namespace Go.Proofs.Ytgfjbbbkploonaa
set_option linter.unusedSimpArgs false
set_option linter.unusedVariables false
open Go.RowKit
variable {P : Program}

/-- The owned slice e is only read from here on. -/
def St.frz (σ : St) (e : Nat) (x : Ev) : St := σ.upE [(e, x.off)]
theorem frz_wk {σ : St} {e : Nat} {x : Ev} (hx : σ.ev e = some x) : Wk σ (σ.frz e x) := by
  intro n0 N g a w hR
  have hev : ∀ e', e' ≠ e → (σ.frz e x).ev e' = σ.ev e' := fun e' he => upd_ne _ _ he
  have heE : (σ.frz e x).ev e = some x.off := upd_same _ _ _
  have hlive : ∀ e' z, (σ.frz e x).ev e' = some z → z.on = true → e' ≠ e ∧ σ.ev e' = some z := fun e' z h ho => by
    by_cases he : e' = e
    · subst he; rw [heE, Option.some.injEq] at h; subst h; cases ho
    · rw [hev e' he] at h; exact ⟨he, h⟩
  have hon : ∀ e', (σ.frz e x).On e' → e' ≠ e ∧ σ.On e' := fun e' h => by
    obtain ⟨z, hz, ho⟩ := h
    exact ⟨(hlive e' z hz ho).1, z, (hlive e' z hz ho).2, ho⟩
  have hf : ∀ b, Fix σ g w b → Fix (σ.frz e x) g w b := fun b hf => ⟨hf.1, fun e' z hz ho => hf.2.1 e' z (hlive e' z hz ho).2 ho, hf.2.2⟩
  have m : Mv σ (σ.frz e x) g g w w := ⟨fun _ _ => rfl, hf, fun b hb => ⟨rfl, hb⟩, fun e' n h => ⟨by
    obtain ⟨z, hz, hn⟩ := h
    by_cases he : e' = e
    · subst he; rw [hx, Option.some.injEq] at hz; subst hz; exact ⟨_, heE, hn⟩
    · exact ⟨z, by rw [hev e' he]; exact hz, hn⟩, rfl⟩⟩
  refine ⟨g, ⟨hR.defers, hR.size, hR.anew, fun i => m.vr (hR.slots i), fun b cs hb => ?_, hR.base, hR.inj, fun e' z he ho => ?_, fun e' z he ho => ?_, hR.slc, fun e' h => hR.ebase e' (hon e' h).2, fun e' h => hR.etop e' (hon e' h).2, fun e' h => hR.nodup e' (hon e' h).2, fun e1 e2 h1 h2 => hR.apart e1 e2 (hon e1 h1).2 (hon e2 h2).2, fun e' k h => hR.ebx e' k (hon e' h).2⟩, rfl, rfl⟩
  · obtain ⟨vs, ty, k1, k2⟩ := hR.boxes b cs hb
    exact ⟨vs, ty, k1, m.crs k2⟩
  · exact m.evr (hR.evs e' z (hlive e' z he ho).2 ho) fun _ _ => rfl
  · by_cases hee : e' = e
    · subst hee
      rw [heE, Option.some.injEq] at he
      subst he
      cases hxo : x.on with
      | false =>
        have := hR.offs e' x hx hxo
        exact ⟨m.rep this.1, this.2⟩
      | true =>
        have hO : σ.On e' := ⟨x, hx, hxo⟩
        obtain ⟨ao, cap, vs2, k1, k2, k3, k4, k5, k6, k7⟩ := hR.vals hx hxo
        rcases k7 with ⟨rfl, _, j3, _⟩ | ⟨b, cells, ty, fps', rfl, j2, j3, j4, j5, _, _⟩
        · refine ⟨?_, fun b o s n c hh => ?_⟩
          · show RepV _ _ (.sl x.sz x.rows) (g.ψ e' x.gen)
            unfold RepV
            exact ⟨none, cap, k1, k2, k3, Or.inl j3⟩
          · rw [show g.ψ e' x.off.gen = _ from k1] at hh; cases hh
        · have hbm : b ∈ g.φ e' := by rw [j2]; simp
          have hF : Fix (σ.frz e' x) g w b := ⟨fun k hk hkb => hR.ebx e' k hO hk (hkb ▸ hbm), fun e2 z hz ho hh => by
            obtain ⟨h1, h2⟩ := hlive e2 z hz ho
            exact hR.apart e' e2 hO ⟨z, h2, ho⟩ (Ne.symm h1) b hbm (List.mem_of_mem_head? hh), (hR.evs e' x hx hxo).lt b hbm, (hR.ebase e' hO b hbm).1⟩
          refine ⟨?_, fun b' o s n c hh => ?_⟩
          · show RepV _ _ (.sl x.sz x.rows) (g.ψ e' x.gen)
            unfold RepV
            refine ⟨_, cap, k1, k2, k3, Or.inr ⟨b, 0, rfl, hF, RepRows.of_vals (vs := vs2) k4 (RepAll.keep (fun _ _ => rfl) hf _ _ k6) fun j u hu => ?_⟩⟩
            rw [← j5, List.getElem?_take] at hu
            split at hu
            · simpa [World.cell?, j3] using hu
            · cases hu
          · rw [show g.ψ e' x.off.gen = _ from k1] at hh
            injection hh with hh _ _
            simp only [Option.some.injEq, Addr.mk.injEq] at hh
            exact ⟨hh.2.1.symm, hh.2.2.symm⟩
    · rw [hev e' hee] at he
      have := hR.offs e' z he ho
      exact ⟨m.rep this.1, this.2⟩
theorem StepSem.pre {o : Oper} {σ σ' σ'' : St} (h : Wk σ σ') (k : StepSem P o σ' σ'') : StepSem P o σ σ'' := fun n0 N g a w hR hn hd => by
  obtain ⟨g1, r1, r2, r3⟩ := h n0 N g a w hR
  refine oper_mono (fun a' w' hh => ?_) (k n0 N g1 a w r1 hn hd)
  obtain ⟨g', k1, k2, k3, k4⟩ := hh
  exact ⟨g', k1, k2, k3.trans r2, k4.trans r3⟩

def offL : List (Nat × Ev) → List (Nat × Ev)
  | [] => []
  | (e, x) :: l => (e, x.off) :: offL l
theorem offs_ups : ∀ (l : List (Nat × Ev)) (f : Nat → Option Ev), offs l f = upsE (offL l) f
  | [], _ => rfl
  | (e, x) :: l, f => by unfold offs; rw [offs_ups l f]; rfl
theorem apd_eq (σ : St) (e : Nat) (cons : List (Nat × Ev)) (x : Ev) : σ.apd e cons x = σ.upE ((e, x) :: offL cons) := by
  unfold St.apd St.upE
  simp only [offs_ups]; rfl

section
variable {ks : List Fr} {Q : Exit → St → Prop} {σ : St} {ops : Array Oper} {os : List Oper} {L : List (List Ky × List Ky)} {ty : TypeId} {ps : String} {af : Array Edge} {d : Nat} {s y : Operand} {t : TypeId}
theorem get2 {σ1 : St} {K : List Ky} (h1 : ∀ k ∈ keysOf [s, y] ++ K, sameK σ σ1 k) : σ1.get P t s = σ.get P t s ∧ σ1.get P t y = σ.get P t y ∧ ∀ k ∈ K, sameK σ σ1 k :=
  ⟨get_loc (l := [s, y]) (fun k hk => h1 k (by simp [hk])) (by simp) t, get_loc (l := [s, y]) (fun k hk => h1 k (by simp [hk])) (by simp) t, fun k hk => h1 k (by simp [hk])⟩
/-- An owned slice, and one that goes into it. -/
theorem dApOO {e e2 gn gn2 sz sz2 : Nat} {dp dp2 : Bool} {rows rows2 : List (List T)} (h : σ.get P t s = .one (.ow e gn) ∧ σ.get P t y = .one (.ow e2 gn2) ∧ σ.ev e = some ⟨dp, sz, rows, gn, true⟩ ∧ σ.ev e2 = some ⟨dp2, sz2, rows2, gn2, true⟩ ∧ e2 ≠ e ∧ sz2 = sz) (hT : apT P t sz) (hb : rows.length + rows2.length ≤ 4294967296)
    (k : exd P ops os (L ++ [(keysOf [s, y] ++ [(2, e), (2, e2)], dK (some d) ++ [(2, e), (2, e2)])]) ks Q ((σ.apd e [(e2, ⟨dp2, sz2, rows2, gn2, true⟩)] ⟨dp && dp2, sz, rows ++ rows2, gn + 1, true⟩).put (some d) (.one (.ow e (gn + 1))))) : exd P ops (⟨some d, .call ⟨.builtin .append, #[s, y], #[t, t]⟩, ty, ps, af, none⟩ :: os) L ks Q σ := by
  refine exd_of rfl rfl ?_ k
  rw [apd_eq]
  refine LocS.of (o := ⟨some d, _, ty, ps, af, none⟩) (R := keysOf [s, y] ++ [(2, e), (2, e2)]) (l := (e, _) :: offL [(e2, _)]) (okK_app (keysOf_ok _) rfl) fun σ1 h1 => ?_
  rw [← apd_eq]
  obtain ⟨k1, k2, k3⟩ := get2 (P := P) (t := t) h1
  exact s_apOO ⟨k1.trans h.1, k2.trans h.2.1, (Eq.symm (k3 (2, e) (by simp))).trans h.2.2.1, (Eq.symm (k3 (2, e2) (by simp))).trans h.2.2.2.1, h.2.2.2.2⟩ hT hb
/-- An owned slice, and the elements of one that is only read. -/
theorem dApOT {e gn sz : Nat} {dp : Bool} {rows rows2 : List (List T)} (dp2 : Bool) (h : σ.get P t s = .one (.ow e gn) ∧ σ.get P t y = .one (.t (.sl sz rows2)) ∧ σ.ev e = some ⟨dp, sz, rows, gn, true⟩) (hf : dp2 = true → ∀ c ∈ rows2.flatten, c.flat = true) (hT : apT P t sz) (hb : rows.length + rows2.length ≤ 4294967296)
    (k : exd P ops os (L ++ [(keysOf [s, y] ++ [(2, e)], dK (some d) ++ [(2, e)])]) ks Q ((σ.apd e [] ⟨dp && dp2, sz, rows ++ rows2, gn + 1, true⟩).put (some d) (.one (.ow e (gn + 1))))) : exd P ops (⟨some d, .call ⟨.builtin .append, #[s, y], #[t, t]⟩, ty, ps, af, none⟩ :: os) L ks Q σ := by
  refine exd_of rfl rfl ?_ k
  rw [apd_eq]
  refine LocS.of (o := ⟨some d, _, ty, ps, af, none⟩) (R := keysOf [s, y] ++ [(2, e)]) (l := (e, _) :: offL []) (okK_app (keysOf_ok _) rfl) fun σ1 h1 => ?_
  rw [← apd_eq]
  obtain ⟨k1, k2, k3⟩ := get2 (P := P) (t := t) h1
  exact s_apOT dp2 ⟨k1.trans h.1, k2.trans h.2.1, (Eq.symm (k3 (2, e) (by simp))).trans h.2.2⟩ hf hT hb
/-- The nil slice, and one that goes into it. -/
theorem dApNO {z e2 sz gn2 : Nat} {dp2 : Bool} {rows2 : List (List T)} (h : σ.get P t s = .one (.nl z) ∧ σ.get P t y = .one (.ow e2 gn2) ∧ σ.ev (d * 32) = none ∧ σ.ev e2 = some ⟨dp2, sz, rows2, gn2, true⟩ ∧ e2 ≠ d * 32) (hT : apT P t sz) (hb : rows2.length ≤ 4294967296)
    (k : exd P ops os (L ++ [(keysOf [s, y] ++ [(2, d * 32), (2, e2)], dK (some d) ++ [(2, d * 32), (2, e2)])]) ks Q ((σ.apd (d * 32) [(e2, ⟨dp2, sz, rows2, gn2, true⟩)] ⟨dp2, sz, rows2, 0, true⟩).put (some d) (.one (.ow (d * 32) 0)))) : exd P ops (⟨some d, .call ⟨.builtin .append, #[s, y], #[t, t]⟩, ty, ps, af, none⟩ :: os) L ks Q σ := by
  refine exd_of rfl rfl ?_ k
  rw [apd_eq]
  refine LocS.of (o := ⟨some d, _, ty, ps, af, none⟩) (R := keysOf [s, y] ++ [(2, d * 32), (2, e2)]) (l := (d * 32, _) :: offL [(e2, _)]) (okK_app (keysOf_ok _) rfl) fun σ1 h1 => ?_
  rw [← apd_eq]
  obtain ⟨k1, k2, k3⟩ := get2 (P := P) (t := t) h1
  exact s_apNO ⟨k1.trans h.1, k2.trans h.2.1, (Eq.symm (k3 (2, d * 32) (by simp))).trans h.2.2.1, (Eq.symm (k3 (2, e2) (by simp))).trans h.2.2.2.1, h.2.2.2.2⟩ hT hb
theorem dApNT {z sz : Nat} {rows2 : List (List T)} (dp2 : Bool) (h : σ.get P t s = .one (.nl z) ∧ σ.get P t y = .one (.t (.sl sz rows2)) ∧ σ.ev (d * 32) = none) (hf : dp2 = true → ∀ c ∈ rows2.flatten, c.flat = true) (hT : apT P t sz) (hb : rows2.length ≤ 4294967296)
    (k : exd P ops os (L ++ [(keysOf [s, y] ++ [(2, d * 32)], dK (some d) ++ [(2, d * 32)])]) ks Q ((σ.apd (d * 32) [] ⟨dp2, sz, rows2, 0, true⟩).put (some d) (.one (.ow (d * 32) 0)))) : exd P ops (⟨some d, .call ⟨.builtin .append, #[s, y], #[t, t]⟩, ty, ps, af, none⟩ :: os) L ks Q σ := by
  refine exd_of rfl rfl ?_ k
  rw [apd_eq]
  refine LocS.of (o := ⟨some d, _, ty, ps, af, none⟩) (R := keysOf [s, y] ++ [(2, d * 32)]) (l := (d * 32, _) :: offL []) (okK_app (keysOf_ok _) rfl) fun σ1 h1 => ?_
  rw [← apd_eq]
  obtain ⟨k1, k2, k3⟩ := get2 (P := P) (t := t) h1
  exact s_apNT dp2 ⟨k1.trans h.1, k2.trans h.2.1, (Eq.symm (k3 (2, d * 32) (by simp))).trans h.2.2⟩ hf hT hb
end
end Go.Proofs.Ytgfjbbbkploonaa
