/-
  The walk over plain data, and contracts of functions of the program and of its laws.
  Conditions: those that each theorem names.
-/
import Derived.Test.YtnkagnjiljjpcaaGreatQH6
import Derived.Test.YtnkagnjiljjpcaaGreatQH4
import Derived.Test.YtnkagnjiljjpcaaGreatQH5
import Derived.Shelf.GgSortFunc.InsertionK
import Derived.Lone
import Derived.Calls
import Derived.Shelf.SlSortCmp.NoneTotal
namespace Go.Proofs.YtnkagnjiljjpcaaGreat
set_option linter.unusedSimpArgs false
set_option linter.unusedVariables false
set_option linter.unusedSectionVars false
set_option maxRecDepth 4000
open Go.RowKit
theorem zh2 {α β : Type} (f : α -> List β) (w : α -> Nat) : ∀ (l : List α), (∀ x ∈ l, (f x).length <= w x) -> (l.map f).flatten.length <= (l.map w).sum
 | [], _ => by simp
 | a :: l, h => by
  have h1 := h a (by simp)
  have h2 := zh2 f w l fun x hx => h x (by simp [hx])
  simp only [List.map_cons, List.flatten_cons, List.length_append, List.sum_cons]
  omega
theorem zza {α : Type} (w : α -> Nat) : ∀ xs : List α, (xs.map fun x => 1 + w x).sum = xs.length + (xs.map w).sum
 | [] => rfl
 | a :: l => by rw [List.map_cons, List.sum_cons, zza w l, List.length_cons, List.map_cons, List.sum_cons]; omega
theorem qjj : ∀ a : Tm, (voI a).length <= 1 + a.wt := za7 fun n xs ih => by
 rw [zty]
 split
 ·simp only [List.length_cons, List.length_nil]; omega
 ·have h1 := zh2 voI (fun x => 1 + x.wt) xs ih
  have h2 := zza Tm.wt xs
  have h3 := Tm.wt_eq (.mk n xs)
  simp only [Tm.name, Tm.args] at h3 ⊢
  omega
end Go.Proofs.YtnkagnjiljjpcaaGreat
namespace Go.Proofs.YtnkagnjiljjpcaaGreat
set_option linter.unusedSimpArgs false
set_option linter.unusedVariables false
set_option linter.unusedSectionVars false
set_option maxRecDepth 4000
open Go.RowKit
theorem zkw {a : Tm} (h : a.atomOk = true) : nmA a = true := by rw [zia, Bool.and_eq_true] at h; exact h.1
structure Grd (ps : List (Str × Tm)) : Prop where
 v : ∀ p ∈ ps, zay p.1 = true
 g : ∀ p ∈ ps, p.2.good = true /\ voS p.2 = []
theorem zun {t : Tm} (h : t.good = true) : t.names = true := by unfold Tm.good at h; rw [Bool.and_eq_true] at h; exact h.2
end Go.Proofs.YtnkagnjiljjpcaaGreat
namespace Go.Proofs.YtnkagnjiljjpcaaGreat
set_option linter.unusedSimpArgs false
set_option linter.unusedVariables false
set_option linter.unusedSectionVars false
set_option maxRecDepth 4000
open Go.RowKit
def grT (t : Tm) : Bool := t.good && decide (voS t = [])
theorem zoh (l : List Str) : (zbv [] l).length = 0 ↔ l = [] := by
 constructor
 ·intro h
  cases l with
  | nil => rfl
  | cons a l =>
   exfalso
   have h1 : ∀ (l ys : List Str), ys ≠ [] -> zbv ys l ≠ [] := fun l => by
    induction l with
    | nil => exact fun ys h => h
    | cons a l ih =>
     intro ys h
     show zbv (zm6 ys a) l ≠ []
     refine ih _ ?_
     unfold zm6
     split
     ·exact h
     ·simp
   have : zbv [] (a :: l) = zbv (zm6 [] a) l := rfl
   rw [this] at h
   exact h1 l (zm6 [] a) (by unfold zm6; simp) (List.length_eq_zero_iff.1 h)
 ·rintro rfl; rfl
theorem qid {t : Tm} (h : t.good = true) : voI t = voS t /\ t.ne = true := zmf t (zun h)
theorem zj8 (t : Tm) (hw : t.wt <= 1048576) : FC Tryz.prog 73 [tmD t] [bD (grT t)] := by
 have HI := zfz t (by omega)
 have hv : grT t = (t.good && decide (voS t = [])) := rfl
 rw [hv]
 cases hg : t.good
 ·rw [hg] at HI
  rw [Bool.false_and]
  simp only [tmD, zaa t] at HI ⊢
  refine zda Tryz.call73 Tryz.func73 rfl (by kernel_rfl) (za4 (by kernel_rfl)) ?_
  simp -implicitDefEqProofs only [go_sem, Tryz.results73]
  refine callF (HI) (by simp -implicitDefEqProofs only [go_sem]) ?_
  simp -implicitDefEqProofs only [go_sem]
 ·rw [hg] at HI
  rw [Bool.true_and]
  obtain ⟨h1, h2⟩ := qid hg
  have hl := qjj t
  have HC := zol t h2 (by omega) [] (by simp only [List.length_nil]; omega)
  have hd : (((zbv [] (voI t)).length : Int) == 0) = decide (voS t = []) := by
   rw [Bool.eq_iff_iff, beq_iff_eq, decide_eq_true_eq, <- h1, <- zoh]
   omega
  rw [show zd3 [] = .sl 1 [] from rfl] at HC
  generalize zbv [] (voI t) = L at HC hd
  simp only [tmD, zaa t] at HI HC ⊢
  refine zda Tryz.call73 Tryz.func73 rfl (by kernel_rfl) (za4 (by kernel_rfl)) ?_
  simp -implicitDefEqProofs only [go_sem, Tryz.results73]
  refine callF (HI) (by simp -implicitDefEqProofs only [go_sem]) ?_
  simp -implicitDefEqProofs only [go_sem]
  refine ze7 [1, 4, 5] [6] [] (HC) (by simp -implicitDefEqProofs only [go_sem, hd]) (by simp -implicitDefEqProofs only [go_sem, hd]) (by simp -implicitDefEqProofs only [go_sem, hd]) (by simp -implicitDefEqProofs only [go_sem, hd]) ?_
  simp -implicitDefEqProofs only [go_sem, hd]
theorem zss : ∀ a : Tm, (voS a).length <= 1 + a.wt := za7 fun n xs ih => by
 rw [zo2]
 split
 ·simp only [List.length_cons, List.length_nil]; omega
 ·have h1 := zh2 voS (fun x => 1 + x.wt) xs ih
  have h2 := zln Tm.wt xs
  have h3 : (Tm.mk n xs).wt = n.length + xs.length + (xs.map Tm.wt).sum := Tm.wt_eq _
  simp only [Tm.args]
  omega
theorem zi3 (t : Tm) (hw : t.wt <= 1048576) : FC Tryz.prog 118 [tmD t] [bD (decide (voS t = []))] := by
 have hn := zfr t
 have hl := zss t
 have HV := qd8 t (by omega) (by omega)
 have hd : (((zb7 [] (voS t)).length : Int) == 0) = decide (voS t = []) := by
  rw [Bool.eq_iff_iff, beq_iff_eq, decide_eq_true_eq, <- zoh, <- zhu, znt]
  omega
 generalize zb7 [] (voS t) = L at HV hd
 simp only [tmD, zaa t] at HV ⊢
 refine zaq Tryz.call118 Tryz.func118 rfl (by kernel_rfl) (za4 (by kernel_rfl)) ?_
 simp -implicitDefEqProofs only [go_sem, Tryz.results118]
 refine callF (HV) (by simp -implicitDefEqProofs only [go_sem, hd]) ?_
 simp -implicitDefEqProofs only [go_sem, hd]
theorem zu9 (ts : List Tm) (hw : zgm ts <= 1048576) (hl : ts.length <= 60) : FC Tryz.prog 67 [.one (tmS ts)] [bD (ts.all grT)] := by
 have h60 : decide ((ts.length : Int) <= 60) = true := by simp; omega
 refine zaq Tryz.call67 Tryz.func67 rfl (by kernel_rfl) (za4 (by kernel_rfl)) ?_
 simp -implicitDefEqProofs only [go_sem, Tryz.results67]
 refine zag (fun k : Nat => hd [(0, vT (tmS ts)), (3, vI k)] [] []) (fun k => k <= ts.length /\ (ts.take k).all grT = true) (fun k => ts.length - k) 0 (zab ?_) ⟨Nat.zero_le _, rfl⟩ ?_
 ·simp -implicitDefEqProofs only [go_sem]
 ·intro k ⟨hk, hT⟩
  have hk60 : ((k : Int) <= 60) = True := by simp; omega
  by_cases hlt : k < ts.length
  ·have htw := zb1 Tm.wt ts ts[k] (List.getElem_mem hlt)
   have hW : zgm ts = ts.length + (ts.map Tm.wt).sum := rfl
   have HG := zly ts[k] (by omega)
   have HR := zi3 ts[k] (by omega)
   have hv : grT ts[k] = (ts[k].good && decide (voS ts[k] = [])) := rfl
   simp only [tmD, zaa ts[k]] at HG HR
   have hbad : grT ts[k] = false -> ts.all grT = false := fun h => List.all_eq_false.2 ⟨_, List.getElem_mem hlt, by rw [h]; simp⟩
   have hnx : grT ts[k] = true -> (ts.take (k + 1)).all grT = true := fun h => by
    rw [List.take_succ_eq_append_getElem hlt, List.all_append, hT]; simp [h]
   cases h1 : ts[k].good
   ·rw [h1] at HG
    rw [h1, Bool.false_and] at hv
    rw [hbad hv]
    simp -implicitDefEqProofs only [go_sem, hlt, hk60, zai, zaa ts[k]]
    refine callF (HG) (by simp -implicitDefEqProofs only [go_sem]) ?_
    simp -implicitDefEqProofs only [go_sem]
   ·rw [h1] at HG
    rw [h1, Bool.true_and] at hv
    simp -implicitDefEqProofs only [go_sem, hlt, hk60, zai, zaa ts[k]]
    refine callF (HG) (by simp -implicitDefEqProofs only [go_sem]) ?_
    simp -implicitDefEqProofs only [go_sem]
    simp -implicitDefEqProofs only [go_sem, hlt, zai, zaa ts[k]]
    refine callF (HR) (by simp -implicitDefEqProofs only [go_sem]) ?_
    simp -implicitDefEqProofs only [go_sem]
    refine ⟨fun h => ?_, fun h => ?_⟩
    ·rw [hbad (by rw [hv]; simpa using h)]
    ·refine ⟨k + 1, ⟨hlt, hnx (by rw [hv]; simpa using h)⟩, by omega, zab ?_⟩
     simp -implicitDefEqProofs only [go_sem]
     rw [zan (by omega)]
  ·rw [List.take_of_length_le (by omega)] at hT
   rw [hT]
   simp -implicitDefEqProofs only [go_sem, hlt, h60]
theorem zsm {t : Tm} (h : t.good = true) : t.wt <= 240 := by
 have h1 := zuh t (zun h)
 unfold Tm.good zcs at h
 simp only [Bool.and_eq_true, decide_eq_true_eq] at h
 omega
theorem zq4 {ns : List Str} {ts : List Tm} (hv : ∀ n ∈ ns, zay n = true) (ht : ts.all grT = true) : Grd (ns.zip ts) := by
 refine ⟨fun p hp => hv _ (List.of_mem_zip hp).1, fun p hp => ?_⟩
 have := List.all_eq_true.1 ht _ (List.of_mem_zip hp).2
 unfold grT at this
 rw [Bool.and_eq_true, decide_eq_true_eq] at this
 exact this
end Go.Proofs.YtnkagnjiljjpcaaGreat
namespace Go.Proofs.YtnkagnjiljjpcaaGreat
set_option linter.unusedSimpArgs false
set_option linter.unusedVariables false
set_option linter.unusedSectionVars false
set_option maxRecDepth 4000
open Go.RowKit
theorem GCmp.flip {α : Type} {c : α -> α -> Int} (h : GCmp c) : GCmp fun a b => c b a := ⟨fun a b => h.neg b a, fun a b d h1 h2 => h.tr d b a h2 h1⟩
def zdc (a b : Li) : Int := orE (zew a.atom b.atom) (zj4 b.pos a.pos)
theorem zce : GCmp zdc := GCmp.lex (qcb.comp Li.atom) (GCmp.comp zgx.flip Li.pos)
theorem zwn : ∀ {x y : Bool}, zj4 x y = 0 ↔ x = y := by decide
theorem zuk {x y : Int} : orE x y = 0 ↔ x = 0 /\ y = 0 := by
 unfold orE
 split <;> simp_all
theorem zel {a b : Li} : zdc a b = 0 ↔ a = b := by
 unfold zdc
 rw [zuk, zyj, zwn]
 cases a; cases b
 simp only [Li.mk.injEq]
 exact ⟨fun h => ⟨h.2.symm, h.1⟩, fun h => ⟨h.2, h.1.symm⟩⟩
def okc (ls : List Li) : Prop := ∀ k (h : k < ls.length), ls[k].atom.atomOk = true /\ (0 < k -> zdc (ls[k - 1]'(by omega)) ls[k] < 0)
noncomputable def Cq.ok (c : Cq) : Bool := decide (c.lits.length <= 8) && dec (okc c.lits)
def Cq.vo (c : Cq) : List Str := (c.lits.map fun l => voS l.atom).flatten
theorem zlj {c : Cq} (h : c.ok = true) : ∀ l ∈ c.lits, l.atom.atomOk = true := fun l hl => by
 unfold Cq.ok at h
 rw [Bool.and_eq_true, zlw] at h
 obtain ⟨k, hk, rfl⟩ := List.getElem_of_mem hl
 exact (h.2 k hk).1
theorem ok_len {c : Cq} (h : c.ok = true) : c.lits.length <= 8 := by
 unfold Cq.ok at h
 rw [Bool.and_eq_true] at h
 exact of_decide_eq_true h.1
def upT : Tm -> Bool := Tm.fold fun n _ rs => decide (0 < n.length) && (zhn (n.getD 0 0) == zay n) && rs.all id
theorem qbu (a : Tm) : upT a = (decide (0 < a.name.length) && (zhn (a.name.getD 0 0) == zay a.name) && a.args.all upT) := by
 unfold upT
 rw [Tm.fold_eq, List.all_map]
 rfl
theorem zsp : ∀ a : Tm, a.names = true -> upT a = true := za7 fun n xs ih h => by
 rw [Tm.names_eq] at h
 rw [qbu]
 change (if zay n = true then decide (xs.length = 0) else zb4 n && decide (xs.length <= 4) && xs.all Tm.names) = true at h
 change (decide (0 < n.length) && (zhn (n.getD 0 0) == zay n) && xs.all upT) = true
 by_cases hv : zay n = true
 ·rw [if_pos hv] at h
  obtain ⟨h1, h2⟩ := zmb hv
  have hx : xs = [] := List.length_eq_zero_iff.1 (of_decide_eq_true h)
  subst hx
  rw [h1, hv]
  simp [h2]
 ·rw [if_neg hv] at h
  simp only [Bool.and_eq_true] at h
  obtain ⟨h1, h2⟩ := zi4 h.1.1
  rw [h1, show zay n = false by simpa using hv]
  simp only [Bool.and_eq_true, decide_eq_true_eq]
  exact ⟨⟨h2, rfl⟩, List.all_eq_true.2 fun x hx => ih x hx (List.all_eq_true.1 h.2 x hx)⟩
theorem zrd {a : Tm} (h : a.atomOk = true) : upT a = true := by
 unfold Tm.atomOk at h
 split at h
 ·rename_i he
  have he : a.name = [61] := by simpa using he
  simp only [Bool.and_eq_true, decide_eq_true_eq] at h
  rw [qbu, he]
  rw [Bool.and_eq_true]
  exact ⟨by decide, List.all_eq_true.2 fun x hx => zsp x (List.all_eq_true.1 h.2 x hx)⟩
 ·simp only [Bool.and_eq_true] at h
  have := h.2
  unfold Tm.good at this
  rw [Bool.and_eq_true] at this
  exact zsp a this.2
end Go.Proofs.YtnkagnjiljjpcaaGreat
namespace Go.Proofs.YtnkagnjiljjpcaaGreat
set_option linter.unusedSimpArgs false
set_option linter.unusedVariables false
set_option linter.unusedSectionVars false
set_option maxRecDepth 4000
open Go.RowKit
def zio (w : World) (A : Nat -> Prop) (r : List T) (a : Li) : Prop := ∃ ao l c, r = [.bool a.pos, .str a.atom.name, .vs ao l c] /\ zah w A (tmS a.atom.args) (.slice ao l c)
theorem zio.keep {w w' : World} {A A' : Nat -> Prop} (hs : ∀ b, A b -> w'.heap[b]? = w.heap[b]?) (ha : ∀ b, A b -> A' b) {r : List T} {t : Li} (h : zio w A r t) : zio w' A' r t := by
 obtain ⟨ao, l, c, h1, h2⟩ := h
 exact ⟨ao, l, c, h1, zah.keep hs ha _ _ h2⟩
theorem zqm (a b : Li) : same a b = (same a.pos b.pos && same a.atom b.atom) := by
 cases a; cases b
 rw [Bool.eq_iff_iff]
 simp only [Bool.and_eq_true, zbj, Li.mk.injEq]
noncomputable def zhp (ls : List Li) (i : Nat) : Bool := i == 0 || !same ls[i]? ls[i - 1]?
noncomputable def kp (ls : List Li) (j : Nat) : List Nat := (List.range j).filter (zhp ls)
theorem zra (ls : List Li) (j : Nat) : kp ls (j + 1) = kp ls j ++ if zhp ls j = true then [j] else [] := by
 unfold kp
 rw [List.range_succ, List.filter_append]
 congr 1
 rw [List.filter_cons]
 split <;> simp
theorem qjd {ls : List Li} {j i : Nat} (h : i ∈ kp ls j) : i < j := by
 unfold kp at h
 exact List.mem_range.1 (List.mem_filter.1 h).1
noncomputable def cpt (ls : List Li) (fl : List (List T)) (j : Nat) : List (List T) := (kp ls j).map fun i => fl.getD i []
theorem ztk (ls : List Li) (fl : List (List T)) (j : Nat) : cpt ls fl (j + 1) = cpt ls fl j ++ if zhp ls j = true then [fl.getD j []] else [] := by
 unfold cpt
 rw [zra, List.map_append]
 split <;> rfl
def allK (ls : List Li) (j : Nat) : Prop := ∀ i, i < j -> zhp ls i = true
theorem qhu {ls : List Li} {j : Nat} (h : allK ls j) : kp ls j = List.range j := by
 unfold kp
 rw [List.filter_eq_self]
 intro i hi
 exact h i (List.mem_range.1 hi)
theorem zr1 {ls : List Li} {fl : List (List T)} {j : Nat} (h : allK ls j) (hj : j <= fl.length) : cpt ls fl j = fl.take j := by
 unfold cpt
 rw [qhu h]
 apply List.ext_getElem
 ·simp; omega
 ·intro i h1 h2
  simp only [List.length_map, List.length_range] at h1
  simp only [List.getElem_map, List.getElem_range, List.getElem_take]
  rw [List.getD_eq_getElem?_getD, List.getElem?_eq_getElem (by omega)]; rfl
theorem zhw {ls : List Li} {i : Nat} (h0 : 0 < i) (h : i < ls.length) : zhp ls i = !same ls[i] (ls[i - 1]'(by omega)) := by
 unfold zhp
 rw [List.getElem?_eq_getElem h, List.getElem?_eq_getElem (by omega), show (i == 0) = false by simp; omega]
 unfold same
 simp
end Go.Proofs.YtnkagnjiljjpcaaGreat
namespace Go.Proofs.YtnkagnjiljjpcaaGreat
set_option linter.unusedSimpArgs false
set_option linter.unusedVariables false
set_option linter.unusedSectionVars false
set_option maxRecDepth 4000
open Go.RowKit
variable {P : Program} {N : Nat}
def vwM (P : Program) (t : TypeId) (x lo : Operand) (d : Nat) (K : St -> Prop) (σ : St) : Prop := match σ.get P t x, σ.get P 0 lo with
 | .one (.ow e gn), .one (.t (.int _ k)) => zao (σ.ev e) fun y => y.gen = gn /\ (0 <= k /\ k < y.rows.length) /\ (elT P t).bind (za8 P) = some y.sz /\ K (σ.put (some d) (.one (.vw e gn y.sz k.toNat)))
 | _, _ => False
theorem viewF {ks : List Fr} {Q : Exit -> St -> Prop} {σ : St} {ops : Array Oper} {os : List Oper} {d : Nat} {t : TypeId} {x lo : Operand} {ty : TypeId} {ps : String} {af : Array Edge} (k : vwM P t x lo d (exo P ops os ks Q) σ) : exoS P ops ⟨some d, .slice t x (some lo) none none, ty, ps, af, none⟩ os ks Q σ := by
 unfold vwM at k
 split at k
 ·rename_i e gn kk k' s1 s2
  obtain ⟨y, he, h3⟩ := zam k
  obtain ⟨dp, sz, rows, g', on⟩ := y
  obtain ⟨rfl, ⟨h0, hl⟩, hsz, hK⟩ := h3
  simp only at hl hsz hK
  refine zae.toX (zae.value (x := .one (.vw e g' sz k'.toNat)) fun n0 N g a w hR => ?_) hK
  have v1 := hR.get P t x
  rw [s1] at v1
  obtain ⟨v1, hh⟩ := v1
  obtain ⟨b, cap, e1⟩ := hR.sliceOf he (by intro h0; simp only at h0; rw [h0] at hl; simp at hl; omega)
  obtain ⟨ao', cap', e2, e3, e4⟩ := hR.sliceAny he
  have hcc : cap = cap' := by
   have := e1.symm.trans e2
   simp only [Value.slice.injEq] at this
   exact this.2.2
  subst hcc
  simp only at e1 e2 e3
  obtain ⟨kn, rfl⟩ : ∃ kn : Nat, k' = kn := ⟨k'.toNat, by omega⟩
  have hkl : kn < rows.length := by omega
  obtain ⟨el, hel, hse⟩ := qg7 hsz
  have hbn := zc2 (P := P) (low := some lo) (high := none) (len := rows.length) (cap := cap) hR true (l := (kn : Int)) (u := (rows.length : Int)) (by simp only [zjv, s2]) rfl (by omega) (by omega) (by omega) (by omega)
  refine ⟨.slice (some ⟨b, kn * sz, none⟩) (rows.length - kn) (cap - kn), ?_, b, rows.length, cap, e1, by rw [Int.toNat_natCast], by rw [Int.toNat_natCast]; exact hkl, hh⟩
  unfold execOp
  have hcp : ¬ cap = kn := by omega
  rw [Int.toNat_natCast, Int.toNat_natCast, Option.map_some, Option.map_none] at hbn
  simp only [Instr.sliceAt, Instr.slice, Sem.run_bind, run_underlying hel, Result.andThen, v1, e1, Option.map_some, Option.map_none, hbn, zbi hse, Sem.run_pure]
  rw [if_neg hcp]
  simp only [Addr.add]
  congr 2
  split <;> simp_all
 ·exact k.elim
def PSJ (P : Program) (rs : List ResultVar) (res : List D) (e : Exit) (σ : St) (_ : Hj) : Prop := match e with
 | .normal => zao (zba P σ rs) fun vs => zs2 σ [] vs res
 | .ret => zao (zba P σ rs) fun vs => zs2 σ [] vs res
 | _ => False
theorem GCJ_of {f : FuncId} {fn : Func} {c : Code} {args : List (Bool × D)} {res : List D} {R : Nat -> Prop} {I : World -> Prop} (hk : zp2 R I) (hf : P.funcs[f]? = some fn) (hb : fn.body = some c) (hN : args.length <= fn.ntmps) (hs : zbz args)
  (h : za9 P fn.ntmps c (zc7 args) ⟨fun _ => False, R, I⟩ (PSJ P fn.results.toList res)) (w : World) (vs : List Value) (fp tp : List Nat) (hv : zas w (fun b => b < w.heap.size /\ b ∉ fp) args vs fp tp) (hn : fp.Nodup) (hI : I w) (hR0 : ∀ x, R x -> x < w.heap.size /\ x ∉ fp) :
  Calls P f ⟨vs⟩ w fun e w' => ∃ us fp' tp', e = .returned (zb6 us) /\ GDs w' res us fp' tp' /\ fp'.Nodup /\ (∀ b ∈ fp', b ∈ fp \/ w.heap.size <= b) /\ Bk (fun k => k < w.heap.size /\ k ∉ fp) w w' := by
 refine calls_of_wp hf hb ?_
 have hv' : zas w (fun b => b < w.heap.size /\ True /\ b ∉ fp) args vs fp tp := zas.keepA (fun b hb => ⟨hb.1, trivial, hb.2⟩) hv
 obtain ⟨g, hg, hR⟩ := Rel.start (A0 := fun _ => True) (R0 := RP.of fun b => b ∈ fp \/ w.heap.size <= b) (N := fn.ntmps) hv' hn hs hN (fun _ _ => trivial) (fun b hb => ⟨trivial, Or.inl hb⟩) (fun b hb => ⟨trivial, by
  by_cases hlt : b < w.heap.size
  ·exact Or.inl (Classical.byContradiction fun h => hb ⟨hlt, h⟩)
  ·exact Or.inr (by omega)⟩)
 have e2 : g.R0 = RP.of fun b => b ∈ fp \/ w.heap.size <= b := (Prod.mk.inj hg).2
 refine wp_mono (h (fun b => b < w.heap.size /\ b ∉ fp) w (fun _ => True, RP.of fun b => b ∈ fp \/ w.heap.size <= b) g _ w ⟨⟨_, fun _ q => q, ⟨⟨fun _ _ q => q, fun w1 w2 hs hi => hk w1 w2 (fun x hx => hs x (Or.inr hx)) hi⟩, fun _ q => q.elim, hR0, hI⟩, hR, fun k q => q.1⟩, fun _ q => q.elim, fun _ _ => trivial, e2, fun b hb => ⟨trivial, by
  by_cases hlt : b < w.heap.size
  ·exact Or.inl (Classical.byContradiction fun h => hb ⟨hlt, h⟩)
  ·exact Or.inr (by omega)⟩⟩ (fun k q => q.1) (Bk.refl _ _)) fun e a' w' hq => ?_
 obtain ⟨σ', J', g', h1, h2, h3, h4⟩ := hq
 obtain ⟨n1, m1, m2, m3, m4⟩ := h2.rel
 have key : (zao (zba P σ' fn.results.toList) fun vs => zs2 σ' [] vs res) -> ∃ v, (results fn a'.tmps).run P w' = .ok v w' /\ ∃ us fp' tp', Ending.returned v = .returned (zb6 us) /\ GDs w' res us fp' tp' /\ fp'.Nodup /\ (∀ b ∈ fp', b ∈ fp \/ w.heap.size <= b) /\ Bk (fun k => k < w.heap.size /\ k ∉ fp) w w' := fun hk => by
  obtain ⟨vs, hvs, hk⟩ := zam hk
  obtain ⟨us, r1, r2⟩ := zbq m3 fn hvs
  obtain ⟨used, fp', tp', o1, o2⟩ := zc3 m3 hk r2
  refine ⟨_, r1, us, fp', tp', rfl, o1, o2.1, fun b hb => ?_, h4⟩
  obtain ⟨e, _, _, l, m⟩ := o2.2.1 b hb
  have := (m3.ebase e l b m).2
  rw [h2.r0] at this
  exact this
 cases e with
 | normal => exact ⟨m3.defers, key h1⟩
 | ret => exact ⟨m3.defers, key h1⟩
 | exit _ => exact h1.elim
 | goto _ => exact h1.elim
 | panic _ => exact h1.elim
 | outgrown => exact h1.elim
theorem zc0.fc {ops : Array Oper} {i : Nat} {σ : St} {J : Hj} {K : St -> Hj -> Prop} {d : Nat} {q : Operand} {asx : Array Operand} {ts : Array TypeId} {ty : TypeId} {ps : String} {af : Array Edge} {f : FuncId} {ds : List D} {b : Bool} (H : FC P f ds [.one (.bool b)])
  (hl : ops[i]? = some ⟨some d, .call ⟨.value q, asx, ts⟩, ty, ps, af, none⟩) (hd : d < N) (hc : zau (σ.get P 0 q) = some (f, []))
  {xs : List V} (hx : σ.gets P asx ts = xs) (ha : ∀ n1 g a w us, Rel n1 N σ g a w -> LtK n1 w -> OkJ J n1 g.A0 w -> VRl σ g w xs us -> za3 w (· < w.heap.size) ds us)
  (k : zc0 P N ops (i + 1) (σ.put (some d) (.one (.t (.bool b)))) J K) : zc0 P N ops i σ J K := by
 refine zc0.call (fun b' J' => b' = b /\ J' = J) hl hd (fun n1 g a w hR hn hJ => ?_) fun b' J' hb => ?_
 ·obtain ⟨us, h1, h2⟩ := zcy hR (o := ⟨some d, .call ⟨.value q, asx, ts⟩, ty, ps, af, none⟩) rfl hc H.1
  rw [List.append_nil, hx] at h2
  refine ⟨f, _, h1, (H.use (ha n1 g a w us hR hn hJ h2)).mono ?_⟩
  rintro e w' ⟨us', fp, rfl, o1, _, _, o4⟩
  obtain ⟨v, _, f1, f2, rfl, rfl, hv, rfl, rfl⟩ := o1
  have hv : zap w' (.bool b) v f1 := hv
  unfold zap at hv
  obtain ⟨rfl, rfl⟩ := hv
  exact ⟨b, J, rfl, ⟨rfl, rfl⟩, hJ.good, hJ.good.keep w w' (fun x hx => o4.block x (hn x (hx.elim (fun q => (hJ.F x q).1) (hJ.R x)))) hJ.I, fun x hx => ⟨Or.inl hx, Nat.lt_of_lt_of_le (hn x (hJ.F x hx).1) o4.size⟩, fun _ q => q, o4.os, o4.tape, o4.output, o4.size, fun x hx => o4.block x hx.1⟩
 ·obtain ⟨rfl, rfl⟩ := hb
  exact k
end Go.Proofs.YtnkagnjiljjpcaaGreat
namespace Go.Proofs.YtnkagnjiljjpcaaGreat
set_option linter.unusedSimpArgs false
set_option linter.unusedVariables false
set_option linter.unusedSectionVars false
set_option maxRecDepth 4000
open Go.RowKit
variable {P : Program} {N : Nat}
theorem zc0.step {ops : Array Oper} {i : Nat} {σ : St} {J : Hj} {K : St -> Hj -> Prop} {o : Oper} (hl : ops[i]? = some o) (hg : o.guard = none) (hd : ∀ d, o.dst = some d -> d < N) (h : zbx P o σ fun σ' => zc0 P N ops (i + 1) σ' J K) : zc0 P N ops i σ J K := fun Q n0 w0 A0 g a w hK h1 h2 h3 => by
 have hlt : i < ops.size := (Array.getElem?_eq_some_iff.1 hl).1
 obtain ⟨n1, k1, k2, k4, k5⟩ := h1.rel
 rw [show List.range' i (ops.size - i) = i :: List.range' (i + 1) (ops.size - (i + 1)) by rw [show ops.size - i = (ops.size - (i + 1)) + 1 by omega]; rfl, wpOps_cons]
 unfold wpOp
 simp only [hl]
 rw [if_pos (by simp [Region.wanted, hg])]
 refine Or.inl (zb2 ?_ (h n1 N g a w k4 k5 hd))
 rintro a' w' ⟨σ', g', hK', m2, m3, m4, m5⟩
 exact hK' Q n0 w0 A0 g' a' w' hK (h1.keep k1 k2 m2 (k5.mono m3.size) m3 (by rw [m4, m5])) (h2.mono m3.size) (h3.trans (zkv k1 m3))
theorem zdk {w : World} {zt : List T} {z : List Value} (h : zar w zt z []) : ∀ n, zar w (List.replicate n zt).flatten (List.replicate n z).flatten []
 | 0 => ⟨rfl, rfl⟩
 | n + 1 => by
  rw [List.replicate_succ, List.replicate_succ, List.flatten_cons, List.flatten_cons]
  exact h.append (zdk h n)
theorem zeu {sz : Nat} : ∀ {rows : List (List T)} (k : Nat), lens sz rows -> (rows.take k).flatten = rows.flatten.take (k * sz)
 | [], k, _ => by simp
 | r :: rs, 0, _ => by simp
 | r :: rs, k + 1, h => by
  have h1 := h r (by simp)
  rw [List.take_succ_cons, List.flatten_cons, List.flatten_cons, zeu k fun y hy => h y (by simp [hy]), show (k + 1) * sz = r.length + k * sz by rw [h1, Nat.add_mul]; omega, List.take_length_add_append]
theorem zj2 (z : Array Value) (n : Nat) : (Builtin.zeroCells z n).toList = (List.replicate n z.toList).flatten := by
 unfold Builtin.zeroCells
 apply List.ext_getElem
 ·simp
 ·intro i h1 h2
  simp only [Array.toList_map, Array.toList_range, List.getElem_map, List.getElem_range]
  have hi : i < n * z.size := by simpa using h1
  have hz : 0 < z.size := Nat.pos_of_ne_zero fun h => by rw [h] at hi; omega
  have hm : i % z.size < z.size := Nat.mod_lt _ hz
  rw [getElem!_pos z (i % z.size) hm]
  have : ∀ (n i : Nat) (h : i < ((List.replicate n z.toList).flatten).length), ((List.replicate n z.toList).flatten)[i] = z[i % z.size]'(Nat.mod_lt _ hz) := by
   intro n
   induction n with
   | zero => intro i h; simp at h
   | succ n ih =>
    intro i h
    simp only [List.replicate_succ, List.flatten_cons] at h ⊢
    by_cases hlt : i < z.size
    ·rw [List.getElem_append_left (by simpa using hlt)]
     simp [Nat.mod_eq_of_lt hlt]
    ·rw [List.getElem_append_right (by simpa using hlt)]
     rw [ih]
     have e : (i - z.toList.length) % z.size = i % z.size := by
      rw [Array.length_toList, <- Nat.mod_eq_sub_mod (by omega)]
     simp only [e]
  exact (this n i h2).symm
theorem ziu : ∀ {ts : List T} {vs : List Value} {f : List Nat} {w : World}, (∀ c ∈ ts, c.flat = true) -> zar w ts vs f -> f = []
 | [], _, _, _, _, h => h.2
 | c :: ts, vs, f, w, hc, h => by
  obtain ⟨v, vs', f1, f2, _, rfl, h1, h2⟩ := h
  rw [ziu (fun c' hc' => hc c' (by simp [hc'])) h2, List.append_nil]
  have hcf := hc c (by simp)
  cases c <;> simp only [T.flat, Bool.false_eq_true] at hcf <;> unfold zap at h1
  ·exact h1.2.2.2
  ·exact h1.2
  ·exact h1.2.2
  ·exact h1.2
theorem qew {σ : St} {K : St -> Prop} {d : Nat} {t el : TypeId} {x hi : Operand} {ty : TypeId} {ps : String} {af : Array Edge} {e gn sz k : Nat} {rows : List (List T)} {kk : IntKind} (s1 : σ.get P t x = .one (.ow e gn)) (s2 : σ.get P 0 hi = .one (.t (.int kk k))) (he : σ.ev e = some ⟨true, sz, rows, gn, true⟩)
  (hfl : ∀ c ∈ rows.flatten, c.flat = true) (hkl : k < rows.length) (hel : elT P t = some el) (hsz : za8 P el = some sz) (hK : K ((σ.apd e [] ⟨true, sz, rows.take k, gn + 1, true⟩).put (some d) (.one (.ow e (gn + 1))))) : zbx P ⟨some d, .slice t x none (some hi) none, ty, ps, af, none⟩ σ K := by
 intro n0 N g a w hR hn hdN
 have v1 := hR.get P t x
 rw [s1] at v1
 obtain ⟨v1, -⟩ := v1
 obtain ⟨vs0, fps, top, hT⟩ := hR.tgt he rfl
 have hlens := hT.lens
 simp only at hlens
 rcases hT.val with ⟨_, hh, _⟩ | ⟨b, cap, cells, cty, w1, w2, w3, w4, w5, w6, w7⟩
 ·simp only at hh; rw [hh] at hkl; simp at hkl
 simp only at w1 w2 w5 w6
 have hown := hT.own rfl
 simp only at hown
 have hfps := ziu hfl hown
 subst hfps
 have hbn := zc2 (P := P) (low := none) (high := some hi) (len := rows.length) (cap := cap) hR true (l := 0) (u := (k : Int)) rfl (by simp only [zjv, s2]) (by omega) (by omega) (by omega) w2
 have hun : P.underlying t = some (.slice el) := zen hel
 have e0 : (execOp a.eval ⟨some d, .slice t x none (some hi) none, ty, ps, af, none⟩).run P w = .ok (.value (.slice (some ⟨b, 0, none⟩) k cap)) w := by
  unfold execOp
  have hcp : ¬ cap = 0 := by omega
  rw [Int.toNat_natCast, show ((0 : Int).toNat) = 0 from rfl, Option.map_some, Option.map_none] at hbn
  simp only [Instr.sliceAt, Instr.slice, Sem.run_bind, run_underlying hun, Result.andThen, v1, w1, Option.map_some, Option.map_none, hbn, zbi hsz, Sem.run_pure]
  rw [if_neg hcp]
  simp only [Addr.add]
  congr 2
  simp
 unfold Oper.wp
 rw [e0]
 have hTl : (rows.take k).length = k := by rw [List.length_take]; omega
 have hR' := hR.apd_fin (w' := w) (y := ⟨true, sz, rows.take k, gn + 1, true⟩) (v' := .slice (some ⟨b, 0, none⟩) k cap) (fp' := [b]) (fps2 := []) hT rfl (fun m hm => by
   obtain ⟨q, hq, hmq⟩ := hm
   rw [he, Option.some.injEq] at hq
   subst hq
   simp only at hmq ⊢
   exact ⟨by omega, fun em => by omega⟩) (cons := []) (fun p hp => by simp at hp) (fun b hb => by simp at hb) b (Or.inl w7.symm) (fun k _ _ => rfl) (Nat.le_refl _) hn (by simp) (fun c hc => by
   simp only [List.mem_singleton] at hc
   exact Or.inl hc) (fun c hc => by simpa using hc.symm) fun A' hA' => by
  refine ⟨some ⟨b, 0, none⟩, cap, by simp only [hTl], by simp only [hTl]; omega, w3, Or.inr ⟨b, cells, cty, [], rfl, rfl, w4, w5, ?_⟩⟩
  simp only [if_true]
  have hl2 : lens sz (rows.take k) := fun r hr => hlens r (List.mem_of_mem_take hr)
  rw [<- List.take_append_drop (k * sz) rows.flatten, <- zeu k hlens] at hown
  obtain ⟨u1, u2, f1, f2, hu, hf, k1, k2⟩ := hown.split
  obtain ⟨rfl, rfl⟩ := List.append_eq_nil_iff.1 hf.symm
  refine zad.of_vals hl2 k1 fun j u hj => ?_
  have hju : vs0[j]? = some u := by rw [hu, List.getElem?_append_left (List.getElem?_eq_some_iff.1 hj).1]; exact hj
  have hc : cells.toList[j]? = some u := by
   rw [<- w6, List.getElem?_take] at hju
   split at hju
   ·exact hju
   ·cases hju
  rw [Nat.zero_add]
  simpa using hc
 have hE : (σ.apd e [] ⟨true, sz, rows.take k, gn + 1, true⟩).ev e = some ⟨true, sz, rows.take k, gn + 1, true⟩ := by simp [St.apd, zaf]
 exact ⟨_, _, hK, hR'.put (some d) (x := .one (.ow e (gn + 1))) (v := .slice (some ⟨b, 0, none⟩) k cap) ⟨by simp only [zaf], _, hE, Nat.le_refl _⟩ (fun j hj => hdN j hj), Bk.refl _ _, rfl, rfl⟩
theorem qe4 {σ : St} {K : St -> Prop} {t el : TypeId} {x : Operand} {ty : TypeId} {ps : String} {af : Array Edge} {e gn sz k : Nat} {rows : List (List T)} {z : Value} {zt : List T} (s1 : σ.get P t x = .one (.vw e gn sz k)) (he : σ.ev e = some ⟨true, sz, rows, gn, true⟩)
  (hfl : ∀ c ∈ rows.flatten, c.flat = true) (hel : elT P t = some el) (hzv : ∀ w, (zeroValue el).run P w = .ok z w) (hzl : zt.length = sz) (hz1 : ∀ v ∈ z.cells.toList, v.oneCell' = true) (hzt : ∀ w, zar w zt z.cells.toList [])
  (hK : K (σ.apd e [] ⟨true, sz, rows.take k ++ List.replicate (rows.length - k) zt, gn, true⟩)) : zbx P ⟨none, .call ⟨.builtin .clear, #[x], #[t]⟩, ty, ps, af, none⟩ σ K := by
 intro n0 N g a w hR hn hdN
 have v1 := hR.get P t x
 rw [s1] at v1
 obtain ⟨b0, n0', c0, q1, q2, q3, -⟩ := v1
 obtain ⟨vs0, fps, top, hT⟩ := hR.tgt he rfl
 have hlens := hT.lens
 simp only at hlens
 have hzs : z.cells.toList.length = sz := by rw [<- hzl]; exact (hzt w).len
 rcases hT.val with ⟨hh, _⟩ | ⟨b, cap, cells, cty, w1, w2, w3, w4, w5, w6, w7⟩
 ·simp only at hh; rw [q1] at hh; cases hh
 simp only at w1 w2 w5 w6
 obtain ⟨rfl, rfl, rfl⟩ : b = b0 /\ rows.length = n0' /\ cap = c0 := by
  have := w1.symm.trans q1
  simp only [Value.slice.injEq, Option.some.injEq, Addr.mk.injEq] at this
  exact ⟨this.1.1, this.2.1, this.2.2⟩
 have hown := hT.own rfl
 simp only at hown
 have hfps := ziu hfl hown
 subst hfps
 have hun : P.underlying t = some (.slice el) := zen hel
 have hrl : rows.flatten.length = rows.length * sz := zgf hlens
 have hsub : k * sz + (rows.length - k) * sz = rows.length * sz := by rw [<- Nat.add_mul]; congr 1; omega
 have hcap : rows.length * sz <= cap * sz := Nat.mul_le_mul_right _ w2
 have hvl : vs0.length = rows.length * sz := hT.len
 have hzl2 : ((List.replicate (rows.length - k) z.cells.toList).flatten).length = (rows.length - k) * sz := by simp [hzs]
 have hst := run_storeCells_at P b (k * sz) cty ((List.replicate (rows.length - k) z.cells.toList).flatten) 0 cells w w4 (by rw [hzl2, w5]; omega) (fun v hv => by
  obtain ⟨l, hl, hv⟩ := List.mem_flatten.1 hv
  rw [List.eq_of_mem_replicate hl] at hv
  exact hz1 v hv)
 simp only [Nat.add_zero] at hst
 rw [hzl2, hsub] at hst
 have hnew : cells.toList.take (k * sz) ++ (List.replicate (rows.length - k) z.cells.toList).flatten ++ cells.toList.drop (rows.length * sz) = vs0.take (k * sz) ++ (List.replicate (rows.length - k) z.cells.toList).flatten ++ cells.toList.drop (rows.length * sz) := by
  rw [<- w6, List.take_take, Nat.min_eq_left (by omega)]
 rw [hnew] at hst
 have e1 : (execOp a.eval ⟨none, .call ⟨.builtin .clear, #[x], #[t]⟩, ty, ps, af, none⟩).run P w = .ok (.value (.tuple #[])) (w.setRow b (vs0.take (k * sz) ++ (List.replicate (rows.length - k) z.cells.toList).flatten ++ cells.toList.drop (rows.length * sz)).toArray) := by
  obtain ⟨n', hn'⟩ : ∃ n', rows.length - k = n' + 1 := ⟨rows.length - k - 1, by omega⟩
  have hzc := zj2 z.cells (rows.length - k)
  rw [hn'] at q2 hst hzc ⊢
  unfold execOp
  simp [resolve, invoke, builtin, q2, Builtin.clear_, run_underlying hun, hzv, hzc, hst, Result.andThen]
 unfold Oper.wp
 rw [e1]
 have hsame : ∀ j, j ≠ b -> (w.setRow b (vs0.take (k * sz) ++ (List.replicate (rows.length - k) z.cells.toList).flatten ++ cells.toList.drop (rows.length * sz)).toArray).heap[j]? = w.heap[j]? := fun j hj => setRow_other w _ j _ hj
 have hblk := setRow_heap w b cells (vs0.take (k * sz) ++ (List.replicate (rows.length - k) z.cells.toList).flatten ++ cells.toList.drop (rows.length * sz)).toArray cty (0, 0) w4
 have hsize : (w.setRow b (vs0.take (k * sz) ++ (List.replicate (rows.length - k) z.cells.toList).flatten ++ cells.toList.drop (rows.length * sz)).toArray).heap.size = w.heap.size := setRow_size _ _ _
 have hbk : Bk n0 w (w.setRow b (vs0.take (k * sz) ++ (List.replicate (rows.length - k) z.cells.toList).flatten ++ cells.toList.drop (rows.length * sz)).toArray) := ⟨rfl, rfl, rfl, Nat.le_of_eq hsize.symm, fun j hj => hsame j fun e' => (hT.bx b (Or.inl w7.symm)).2.1.2.2 (e' ▸ hj)⟩
 generalize w.setRow b (vs0.take (k * sz) ++ (List.replicate (rows.length - k) z.cells.toList).flatten ++ cells.toList.drop (rows.length * sz)).toArray = w' at hsame hblk hsize hbk ⊢
 have hyl : (rows.take k ++ List.replicate (rows.length - k) zt).length = rows.length := by simp; omega
 have hR' := hR.apd_fin (w' := w') (y := ⟨true, sz, rows.take k ++ List.replicate (rows.length - k) zt, gn, true⟩) (v' := g.ψ e gn) (fp' := [b]) (fps2 := []) hT rfl (fun m hm => ⟨by
   obtain ⟨q, hq, hmq⟩ := hm
   rw [he, Option.some.injEq] at hq
   subst hq
   exact hmq, fun em => by simp only at em; rw [em]⟩) (cons := []) (fun p hp => by simp at hp) (fun b hb => by simp at hb) b (Or.inl w7.symm) (fun j _ hj => hsame j hj) (Nat.le_of_eq hsize.symm) hn (by simp) (fun c hc => by
   simp only [List.mem_singleton] at hc
   exact Or.inl hc) (fun c hc => by simpa using hc.symm) fun A' hA' => by
  refine ⟨some ⟨b, 0, none⟩, cap, by rw [hyl]; exact w1, by rw [hyl]; exact w2, w3, Or.inr ⟨b, _, cty, [], rfl, rfl, hblk, ?_, ?_⟩⟩
  ·simp only [List.size_toArray, List.length_append, List.length_take, List.length_drop, hzl2, hvl, Array.length_toList, w5]
   omega
  ·simp only [if_true]
   have hl2 : lens sz (rows.take k ++ List.replicate (rows.length - k) zt) := fun r hr => by
    rcases List.mem_append.1 hr with h | h
    ·exact hlens r (List.mem_of_mem_take h)
    ·rw [List.eq_of_mem_replicate h]; exact hzl
   rw [<- List.take_append_drop (k * sz) rows.flatten, <- zeu k hlens] at hown
   obtain ⟨u1, u2, f1, f2, hu, hf, k1, k2⟩ := hown.split
   obtain ⟨rfl, rfl⟩ := List.append_eq_nil_iff.1 hf.symm
   have l1 : u1.length = k * sz := by rw [k1.len, zeu k hlens, List.length_take, hrl]; omega
   have ha : zar w' (rows.take k ++ List.replicate (rows.length - k) zt).flatten (u1 ++ (List.replicate (rows.length - k) z.cells.toList).flatten) [] := by
    rw [List.flatten_append]
    exact (k1.keep fun c hc => by simp at hc).append (zdk (hzt w') _)
   rw [hu, <- l1, List.take_left]
   refine zad.of_vals hl2 ha fun j u hu => ?_
   rw [Nat.zero_add]
   simp only [List.getElem?_toArray]
   rw [List.getElem?_append_left (List.getElem?_eq_some_iff.1 hu).1]
   exact hu
 exact ⟨_, _, hK, hR', hbk, rfl, rfl⟩
end Go.Proofs.YtnkagnjiljjpcaaGreat
namespace Go.Proofs.YtnkagnjiljjpcaaGreat
set_option linter.unusedSimpArgs false
set_option linter.unusedVariables false
set_option linter.unusedSectionVars false
set_option maxRecDepth 4000
open Go.RowKit
def zib (w : World) (A : Nat -> Prop) (fl : List (List T)) (ls : List Li) : Prop := ∀ i (h : i < fl.length) (h2 : i < ls.length), zio w A fl[i] ls[i]
theorem zib.keep {w w' : World} {A : Nat -> Prop} (hs : ∀ b, A b -> w'.heap[b]? = w.heap[b]?) {fl : List (List T)} {ls : List Li} (h : zib w A fl ls) : zib w' A fl ls := fun i h1 h2 => (h i h1 h2).keep hs fun _ q => q
theorem zgl (a b : Li) : FC Tryz.prog 176 [liD a, liD b] [bD (same a b)] := by
 simp only [liD, zak]
 refine zaq Tryz.call176 Tryz.func176 rfl (by kernel_rfl) (za4 (by kernel_rfl)) ?_
 simp -implicitDefEqProofs only [go_sem, Tryz.results176]
 have H := znr a.atom b.atom
 simp only [tmD, zaa a.atom, zaa b.atom] at H
 refine ⟨fun h => ?_, fun h => ?_⟩
 ·refine callF (H) (by simp -implicitDefEqProofs only [go_sem]) ?_
  simp -implicitDefEqProofs only [go_sem]
  rw [zqm, <- zdv a.pos, h, Bool.true_and]
 ·rw [zqm, <- zdv a.pos, h]; rfl
theorem zzw {σ : St} {g : Gh} {w : World} {A B : Nat -> Prop} {p : Bool} {s : List UInt8} {ao : Option Addr} {n c : Nat} {a : Li} (h : zio w A [.bool p, .str s, .vs ao n c] a) (hA : ∀ x, A x -> B x) {u : Value} (hu : VR σ g w (.agg [.t (.bool p), .t (.str s), .t (.vs ao n c)]) u) : zvz w B (liD a) u := by
 obtain ⟨ao', l', c', e, hr⟩ := h
 simp only [List.cons.injEq, T.bool.injEq, T.str.injEq, T.vs.injEq, and_true] at e
 obtain ⟨rfl, rfl, rfl, rfl, rfl⟩ := e
 obtain ⟨vs, rfl, v1, _, rfl, h1, v2, _, rfl, h2, v3, _, rfl, h3, rfl⟩ := hu
 refine ⟨_, rfl, ?_⟩
 have h1 : zah w (Fix σ g w) (.bool a.pos) v1 := h1
 have h2 : zah w (Fix σ g w) (.str a.atom.name) v2 := h2
 have h3 : zah w (Fix σ g w) (.vs ao n c) v3 := h3
 unfold zah at h1 h2 h3
 subst h3
 rw [zak]
 simp only [zac]
 exact ⟨v1, _, rfl, by unfold zah; exact h1, v2, _, rfl, by unfold zah; exact h2, _, _, rfl, zah.keep (fun _ _ => rfl) hA _ _ hr, rfl⟩
theorem zsi {σ : St} {g : Gh} {w : World} {A B : Nat -> Prop} {p q : Bool} {s t : List UInt8} {ao bo : Option Addr} {n c m d : Nat} {a b : Li} (h : zio w A [.bool p, .str s, .vs ao n c] a) (k : zio w A [.bool q, .str t, .vs bo m d] b) (hA : ∀ x, A x -> B x) {us : List Value}
  (hu : VRl σ g w [.agg [.t (.bool p), .t (.str s), .t (.vs ao n c)], .agg [.t (.bool q), .t (.str t), .t (.vs bo m d)]] us) : za3 w B [liD a, liD b] us := by
 obtain ⟨u1, _, rfl, h1, u2, _, rfl, h2, rfl⟩ := hu
 exact ⟨u1, _, rfl, zzw h hA h1, u2, _, rfl, zzw k hA h2, rfl⟩
set_option maxHeartbeats 4000000 in
theorem qc0 {g : FuncId} {R : Nat -> Prop} {fl : List (List T)} {ls : List Li} (hl : fl.length = ls.length) (hlen : fl.length <= 1048576) (hsh : ∀ r ∈ fl, ∃ p s ao n c, r = [.bool p, .str s, .vs ao n c]) (H : ∀ a ∈ ls, ∀ b ∈ ls, FC Tryz.prog g [liD a, liD b] [bD (same a b)]) :
  za9 Tryz.prog Tryz.f175.ntmps (Tryz.f175.body.getD .skip) (zc7 [(true, .one (.sl 3 fl)), (false, .one (.fn g []))]) ⟨fun _ => False, R, fun w => zib w R fl ls⟩ (PSJ Tryz.prog Tryz.f175.results.toList [.one (.sl 3 (cpt ls fl fl.length))]) := by
 have hflat : ∀ c ∈ fl.flatten, c.flat = true := fun c hc => by
  obtain ⟨r, hr, hc⟩ := List.mem_flatten.1 hc
  obtain ⟨p, s, ao, n, cc, rfl⟩ := hsh r hr
  simp only [List.mem_cons, List.not_mem_nil, or_false] at hc
  rcases hc with rfl | rfl | rfl <;> rfl
 show za9 _ _ (Option.getD (some _) _) _ _ _
 refine za9.cut 0 rfl (by kernel_rfl) ?_
 simp -implicitDefEqProofs only [go_sem, Tryz.results175]
 refine za9.seq ?_
 by_cases h2 : fl.length < 2
 ·have e2 : ((fl.length : Int) < 2) = True := eq_true (by omega)
  have hk : cpt ls fl fl.length = fl := by
   rw [zr1 (fun i hi => ?_) (Nat.le_refl _), List.take_length]
   obtain rfl : i = 0 := by omega
   simp [zhp]
  rw [hk]
  refine za9.ofEx (by kernel_rfl) ?_
  simp -implicitDefEqProofs only [go_sem, e2, PSJ]
 have e2 : ((fl.length : Int) < 2) = False := eq_false (by omega)
 refine za9.ofEx (by kernel_rfl) ?_
 simp -implicitDefEqProofs only [go_sem, e2]
 refine za9.seq ?_
 refine za9.cut 0 rfl (by kernel_rfl) ?_
 simp -implicitDefEqProofs only [go_sem]
 refine za9.block ?_
 refine za9.loop (fun k : Nat => hd [(0, .one (.ow 0 0)), (1, vT (.fn g [])), (5, vI k)] [] [(0, ⟨true, 3, fl, 0, true⟩)]) (fun _ => ⟨fun _ => False, R, fun w => zib w R fl ls⟩) (fun k => 1 <= k /\ k <= fl.length /\ allK ls k) (fun k => fl.length - k) 1 (zab ?_) rfl ⟨Nat.le_refl _, by omega, fun i hi => ?_⟩ ?_
 ·simp -implicitDefEqProofs only [go_sem]
 ·obtain rfl : i = 0 := by omega
  simp [zhp]
 rintro k ⟨hk1, hkn, hall⟩
 by_cases hlt : k < fl.length
 ·have hw1 : IntKind.i64.wrap ((k : Int) - 1) = ((k - 1 : Nat) : Int) := by rw [zbt (by omega) (by omega)]; omega
  have hlt1 : k - 1 < fl.length := by omega
  obtain ⟨p1, s1, ao1, n1, c1, hr1⟩ := hsh fl[k] (List.getElem_mem hlt)
  obtain ⟨p0, s0, ao0, n0, c0, hr0⟩ := hsh fl[k - 1] (List.getElem_mem hlt1)
  refine za9.cut 0 rfl (by kernel_rfl) ?_
  simp -implicitDefEqProofs only [go_sem, hlt]
  refine za9.seq ?_
  refine za9.block ?_
  refine za9.seq (za9.drawn 10 (by kernel_rfl) (by kernel_rfl) (by kernel_rfl) ?_)
  have hg1 : fl.getD k [] = [.bool p1, .str s1, .vs ao1 n1 c1] := by rw [List.getD_eq_getElem?_getD, List.getElem?_eq_getElem hlt]; exact hr1
  have hg0 : fl.getD (k - 1) [] = [.bool p0, .str s0, .vs ao0 n0 c0] := by rw [List.getD_eq_getElem?_getD, List.getElem?_eq_getElem hlt1]; exact hr0
  simp -implicitDefEqProofs only [go_sem, hlt, hw1, hlt1, hg1, hg0]
  refine ⟨by kernel_rfl, ?_⟩
  have hL1 : k < ls.length := by omega
  have hL0 : k - 1 < ls.length := by omega
  have hke := zhw (ls := ls) (i := k) (by omega) hL1
  refine zc0.fc (H ls[k] (List.getElem_mem hL1) ls[k - 1] (List.getElem_mem hL0)) rfl (by simp only [Tryz.ntmps175]; omega) (by simp -implicitDefEqProofs only [go_sem]) (by simp -implicitDefEqProofs only [go_sem]; rfl) (fun n1 g' a w us hR hn hJ hus => ?_) ?_
  ·have q1 := hJ.I k hlt hL1
   have q0 := hJ.I (k - 1) hlt1 hL0
   rw [hr1] at q1
   rw [hr0] at q0
   exact zsi q1 q0 (fun x hx => hn x (hJ.R x hx)) hus
  refine zc0.done rfl ?_
  simp -implicitDefEqProofs only [go_sem]
  cases hs : same ls[k] ls[k - 1]
  ·rw [hs] at hke
   refine za9.ofEx (by kernel_rfl) ?_
   simp -implicitDefEqProofs only [go_sem]
   refine za9.ofEx (by kernel_rfl) ?_
   simp -implicitDefEqProofs only [go_sem]
   refine ⟨k + 1, ⟨by omega, by omega, fun i hi => ?_⟩, by omega, zab ?_⟩
   ·by_cases hik : i = k
    ·rw [hik, hke]; rfl
    ·exact hall i (by omega)
   ·simp -implicitDefEqProofs only [go_sem]
    rw [zan (by omega)]
  ·rw [hs] at hke
   refine za9.cond (b := true) (by simp -implicitDefEqProofs only [go_sem]) (fun _ => ?_) (fun h => by cases h)
   refine za9.cut 0 rfl (by kernel_rfl) ?_
   simp -implicitDefEqProofs only [go_sem]
   refine viewF ?_
   simp -implicitDefEqProofs only [go_sem, vwM, hlt]
   have hkk : kp ls (k + 1) = List.range k := by rw [zra, hke, qhu hall]; simp
   have hck : cpt ls fl (k + 1) = fl.take k := by rw [ztk, hke, zr1 hall (by omega)]; simp
   refine za9.seq ?_
   refine za9.seq (za9.ofEx (by kernel_rfl) ?_)
   simp -implicitDefEqProofs only [go_sem]
   refine za9.block ?_
   refine za9.loop (fun z : Nat × List (List T) => hd [(0, .one (.ow 0 0)), (1, vT (.fn g [])), (5, vI (kp ls (k + z.1)).length), (6, .one (.vw 0 0 3 k)), (7, vI z.1)] [] [(0, ⟨true, 3, z.2, 0, true⟩)]) (fun _ => ⟨fun _ => False, R, fun w => zib w R fl ls⟩)
    (fun z => 1 <= z.1 /\ z.1 + k <= fl.length /\ z.2.length = fl.length /\ z.2.take (kp ls (k + z.1)).length = cpt ls fl (k + z.1) /\ z.2.drop (k + z.1 - 1) = fl.drop (k + z.1 - 1) /\ (kp ls (k + z.1)).length < k + z.1 /\ ∀ r ∈ z.2, r ∈ fl)
    (fun z => fl.length - z.1) (1, fl) (zab ?_) rfl ⟨Nat.le_refl _, by omega, rfl, ?_, rfl, ?_, fun r hr => hr⟩ ?_
   ·simp -implicitDefEqProofs only [go_sem, hkk, List.length_range]
   ·simp only [hkk, hck, List.length_range]
   ·simp only [hkk, List.length_range]; omega
   rintro ⟨j, Rr⟩ ⟨hj1, hjn, hRl, hRt, hRd, hcl, hRm⟩
   simp only at hj1 hjn hRl hRt hRd hcl hRm ⊢
   by_cases hjt : j + k < fl.length
   ·have e3 : ((j : Int) < ((Rr.length - k : Nat) : Int)) = True := eq_true (by omega)
    refine za9.cut 0 rfl (by kernel_rfl) ?_
    simp -implicitDefEqProofs only [go_sem, e3]
    have hRg : ∀ i, k + j - 1 <= i -> i < fl.length -> Rr.getD i [] = fl.getD i [] := fun i h1 h2 => by
     have := congrArg (fun l => l[i - (k + j - 1)]?) hRd
     simp only [List.getElem?_drop] at this
     rw [show k + j - 1 + (i - (k + j - 1)) = i by omega] at this
     rw [List.getD_eq_getElem?_getD, List.getD_eq_getElem?_getD, this]
    have hw2 : IntKind.i64.wrap ((j : Int) - 1) = ((j - 1 : Nat) : Int) := by rw [zbt (by omega) (by omega)]; omega
    obtain ⟨q1, t1, bo1, m1, d1, hs1⟩ := hsh (fl[j + k]'(by omega)) (List.getElem_mem (by omega))
    obtain ⟨q0, t0, bo0, m0, d0, hs0⟩ := hsh (fl[j - 1 + k]'(by omega)) (List.getElem_mem (by omega))
    have hg3 : Rr.getD (j + k) [] = [.bool q1, .str t1, .vs bo1 m1 d1] := by rw [hRg _ (by omega) (by omega), List.getD_eq_getElem?_getD, List.getElem?_eq_getElem (by omega)]; exact hs1
    have hg4 : Rr.getD (j - 1 + k) [] = [.bool q0, .str t0, .vs bo0 m0 d0] := by rw [hRg _ (by omega) (by omega), List.getD_eq_getElem?_getD, List.getElem?_eq_getElem (by omega)]; exact hs0
    have e4 : ((j : Int) + (k : Int) < (Rr.length : Int)) = True := eq_true (by omega)
    have e5 : (((j - 1 : Nat) : Int) + (k : Int) < (Rr.length : Int)) = True := eq_true (by omega)
    have hJ1 : j + k < ls.length := by omega
    have hJ0 : j - 1 + k < ls.length := by omega
    have hkj := zhw (ls := ls) (i := j + k) (by omega) hJ1
    simp only [show j + k - 1 = j - 1 + k by omega] at hkj
    have hkps := zra ls (k + j)
    have hcps := ztk ls fl (k + j)
    have hkj : zhp ls (k + j) = !same ls[j + k] ls[j - 1 + k] := by rw [Nat.add_comm k j]; exact hkj
    have hRd2 : Rr.drop (k + j) = fl.drop (k + j) := by
     have := congrArg (List.drop 1) hRd
     rw [List.drop_drop, List.drop_drop, show k + j - 1 + 1 = k + j by omega] at this
     exact this
    have hcR : (kp ls (k + j)).length < Rr.length := by omega
    have hwj : IntKind.i64.wrap ((j : Int) + 1) = ((j + 1 : Nat) : Int) := zan (by omega)
    refine za9.seq ?_
    refine za9.block ?_
    refine za9.seq (za9.drawn 10 (by kernel_rfl) (by kernel_rfl) (by kernel_rfl) ?_)
    simp -implicitDefEqProofs only [go_sem, e4, e5, hw2, hg3, hg4]
    refine ⟨by kernel_rfl, ?_⟩
    refine zc0.fc (H ls[j + k] (List.getElem_mem hJ1) ls[j - 1 + k] (List.getElem_mem hJ0)) rfl (by simp only [Tryz.ntmps175]; omega) (by simp -implicitDefEqProofs only [go_sem]) (by simp -implicitDefEqProofs only [go_sem]; rfl) (fun n1 g' a w us hR hn hJ hus => ?_) ?_
    ·have q1 := hJ.I (j + k) (by omega) hJ1
     have q0 := hJ.I (j - 1 + k) (by omega) hJ0
     rw [hs1] at q1
     rw [hs0] at q0
     exact zsi q1 q0 (fun x hx => hn x (hJ.R x hx)) hus
    refine zc0.plain 1 (by decide) rfl (by kernel_rfl) ?_
    simp -implicitDefEqProofs only [go_sem]
    refine zc0.done rfl ?_
    simp -implicitDefEqProofs only [go_sem]
    cases hs : same ls[j + k] ls[j - 1 + k]
    ·rw [hs] at hkj
     rw [hkj] at hkps hcps
     simp only [Bool.not_false, if_true] at hkps hcps
     refine za9.ofEx (by kernel_rfl) ?_
     simp -implicitDefEqProofs only [go_sem, Bool.not_false, e4, hg3, hcR]
     have hst : zc8 Rr (kp ls (k + j)).length 0 [.bool q1, .str t1, .vs bo1 m1 d1] = Rr.set (kp ls (k + j)).length [.bool q1, .str t1, .vs bo1 m1 d1] := by
      obtain ⟨p2, s2, ao2, n2, c2, hr2⟩ := hsh Rr[(kp ls (k + j)).length] (hRm _ (List.getElem_mem hcR))
      unfold zc8 setR
      rw [List.getD_eq_getElem?_getD, List.getElem?_eq_getElem hcR, Option.getD_some, hr2]
      rfl
     have hwc : IntKind.i64.wrap (((kp ls (k + j)).length : Int) + 1) = (((kp ls (k + j)).length + 1 : Nat) : Int) := zan (by omega)
     have hfg : fl.getD (k + j) [] = [.bool q1, .str t1, .vs bo1 m1 d1] := by rw [Nat.add_comm k j, List.getD_eq_getElem?_getD, List.getElem?_eq_getElem (by omega)]; exact hs1
     refine zid (by simp -implicitDefEqProofs only [go_sem]; simp) ?_
     simp -implicitDefEqProofs only [go_sem, hst, hwc]
     refine za9.ofEx (by kernel_rfl) ?_
     simp -implicitDefEqProofs only [go_sem]
     refine ⟨(j + 1, Rr.set (kp ls (k + j)).length [.bool q1, .str t1, .vs bo1 m1 d1]), ⟨by simp only; omega, by simp only; omega, by simp only [List.length_set]; exact hRl, ?_, ?_, ?_, ?_⟩, by simp only; omega, zab ?_⟩
     ·show (Rr.set _ _).take (kp ls (k + j + 1)).length = cpt ls fl (k + j + 1)
      rw [hkps, hcps, List.length_append, List.length_singleton, List.take_succ_eq_append_getElem (by rw [List.length_set]; exact hcR), List.getElem_set_self, List.take_set_of_le (Nat.le_refl _), hRt, hfg]
     ·show (Rr.set _ _).drop (k + j) = fl.drop (k + j)
      rw [List.drop_set_of_lt (by omega)]; exact hRd2
     ·show (kp ls (k + j + 1)).length < k + j + 1
      rw [hkps, List.length_append, List.length_singleton]; omega
     ·intro r hr
      rcases List.mem_or_eq_of_mem_set hr with hr | rfl
      ·exact hRm r hr
      ·rw [<- hs1]; exact List.getElem_mem _
     ·simp -implicitDefEqProofs only [go_sem, hwj]
      rw [show k + (j + 1) = k + j + 1 from rfl, hkps, List.length_append, List.length_singleton]
    ·rw [hs] at hkj
     rw [hkj] at hkps hcps
     simp only [Bool.not_true, Bool.false_eq_true, if_false, List.append_nil] at hkps hcps
     refine za9.ofEx (by kernel_rfl) ?_
     simp -implicitDefEqProofs only [go_sem, Bool.not_true]
     refine za9.ofEx (by kernel_rfl) ?_
     simp -implicitDefEqProofs only [go_sem]
     refine ⟨(j + 1, Rr), ⟨by simp only; omega, by simp only; omega, hRl, ?_, hRd2, ?_, hRm⟩, by simp only; omega, zab ?_⟩
     ·show Rr.take (kp ls (k + j + 1)).length = cpt ls fl (k + j + 1)
      rw [hkps, hcps]; exact hRt
     ·show (kp ls (k + j + 1)).length < k + j + 1
      rw [hkps]; omega
     ·simp -implicitDefEqProofs only [go_sem, hwj]
      rw [show k + (j + 1) = k + j + 1 from rfl, hkps]
   ·have hjn2 : k + j = fl.length := by omega
    have e3 : ((j : Int) < ((Rr.length - k : Nat) : Int)) = False := eq_false (by omega)
    rw [hjn2] at hRt hcl
    have hcR : (kp ls fl.length).length < Rr.length := by omega
    have hRflat : ∀ c ∈ Rr.flatten, c.flat = true := fun c hc => by
     obtain ⟨r, hr, hc⟩ := List.mem_flatten.1 hc
     exact hflat c (List.mem_flatten.2 ⟨r, hRm r hr, hc⟩)
    rw [hjn2]
    refine za9.cut 0 rfl (by kernel_rfl) ?_
    simp -implicitDefEqProofs only [go_sem, e3]
    refine za9.seq (za9.region (zc0.plain 3 (by decide) rfl (by kernel_rfl) ?_))
    simp -implicitDefEqProofs only [go_sem]
    refine viewF ?_
    simp -implicitDefEqProofs only [go_sem, vwM, hcR]
    refine zc0.step rfl rfl (fun d hd => by cases hd) (qe4 (x := .tmp 61) (t := 49) (e := 0) (gn := 0) (sz := 3) (k := (kp ls fl.length).length) (rows := Rr) (zt := [.bool false, .str [], .vs none 0 0]) (by simp -implicitDefEqProofs only [go_sem]) (by simp -implicitDefEqProofs only [go_sem]) hRflat (by kernel_rfl) Tryz.zeroValue63 rfl ?_ ?_ ?_)
    ·intro v hv
     simp only [Value.cells, List.mem_cons, List.not_mem_nil, or_false] at hv
     rcases hv with rfl | rfl | rfl <;> rfl
    ·intro w
     refine ⟨_, _, [], [], rfl, rfl, by unfold zap; exact ⟨rfl, rfl⟩, _, _, [], [], rfl, rfl, by unfold zap; exact ⟨rfl, by simp [zd2], rfl⟩, _, _, [], [], rfl, rfl, by unfold zap; exact ⟨rfl, rfl⟩, rfl, rfl⟩
    have hcl2 : (Rr.take (kp ls fl.length).length ++ List.replicate (Rr.length - (kp ls fl.length).length) [T.bool false, .str [], .vs none 0 0]).length = Rr.length := by simp; omega
    have hTk : (Rr.take (kp ls fl.length).length ++ List.replicate (Rr.length - (kp ls fl.length).length) [T.bool false, .str [], .vs none 0 0]).take (kp ls fl.length).length = cpt ls fl fl.length := by
     rw [List.take_left' (by rw [List.length_take]; omega)]
     exact hRt
    have hfl3 : ∀ c ∈ (Rr.take (kp ls fl.length).length ++ List.replicate (Rr.length - (kp ls fl.length).length) [T.bool false, .str [], .vs none 0 0]).flatten, c.flat = true := fun c hc => by
     obtain ⟨r, hr, hc⟩ := List.mem_flatten.1 hc
     rcases List.mem_append.1 hr with hr | hr
     ·exact hRflat c (List.mem_flatten.2 ⟨r, List.mem_of_mem_take hr, hc⟩)
     ·rw [List.eq_of_mem_replicate hr] at hc
      simp only [List.mem_cons, List.not_mem_nil, or_false] at hc
      rcases hc with rfl | rfl | rfl <;> rfl
    generalize Rr.take (kp ls fl.length).length ++ List.replicate (Rr.length - (kp ls fl.length).length) [T.bool false, .str [], .vs none 0 0] = Rz at hcl2 hTk hfl3 ⊢
    refine zc0.done rfl ?_
    simp -implicitDefEqProofs only [go_sem, St.apd]
    refine za9.seq (za9.region (zc0.plain 2 (by decide) rfl (by kernel_rfl) ?_))
    simp -implicitDefEqProofs only [go_sem]
    refine zc0.step rfl rfl (fun d hd => by
     have : d = 64 := (Option.some.inj hd).symm
     subst this
     show 64 < Tryz.f175.ntmps
     simp only [Tryz.ntmps175]; omega) (qew (el := 63) (e := 0) (gn := 0) (sz := 3) (k := (kp ls fl.length).length) (rows := Rz) (kk := .i64) (by simp -implicitDefEqProofs only [go_sem]) (by simp -implicitDefEqProofs only [go_sem]) (by simp -implicitDefEqProofs only [go_sem]) hfl3 (by omega) (by kernel_rfl) (by kernel_rfl) ?_)
    rw [hTk]
    simp -implicitDefEqProofs only [go_sem, St.apd]
    refine zc0.plain 1 (by decide) rfl (by kernel_rfl) ?_
    simp -implicitDefEqProofs only [go_sem]
    refine zc0.done rfl ?_
    simp -implicitDefEqProofs only [go_sem]
    refine za9.ofEx (by kernel_rfl) ?_
    simp -implicitDefEqProofs only [go_sem, PSJ]
 ·have hke : k = fl.length := by omega
  rw [hke] at hall
  refine za9.cut 0 rfl (by kernel_rfl) ?_
  simp -implicitDefEqProofs only [go_sem, hlt]
  refine za9.ofEx (by kernel_rfl) ?_
  simp -implicitDefEqProofs only [go_sem, PSJ]
  rw [zr1 hall (Nat.le_refl _), List.take_length]
end Go.Proofs.YtnkagnjiljjpcaaGreat
namespace Go.Proofs.YtnkagnjiljjpcaaGreat
set_option linter.unusedSimpArgs false
set_option linter.unusedVariables false
set_option linter.unusedSectionVars false
set_option maxRecDepth 4000
open Go.RowKit
def qhi (w : World) (z : List T × Li × List Nat) : Prop := ∃ ao l c, z.1 = [.bool z.2.1.pos, .str z.2.1.atom.name, .vs ao l c] /\ zap w (tmS z.2.1.atom.args) (.slice ao l c) z.2.2
theorem qhi.keep {w w' : World} {z : List T × Li × List Nat} (h : qhi w z) (hs : ∀ b ∈ z.2.2, w'.heap[b]? = w.heap[b]?) : qhi w' z := by
 obtain ⟨ao, l, c, h1, h2⟩ := h
 exact ⟨ao, l, c, h1, zap.keep _ _ _ h2 hs⟩
theorem qhd {w : World} {cells : Array Value} : ∀ (ls : List Li) (o : Nat) (fps : List Nat), zad w cells o 3 (ls.map liC) fps -> ∃ zs : List (List T × Li × List Nat), zs.map (·.2.1) = ls /\ fps = (zs.map (·.2.2)).flatten /\ zad w cells o 3 (zs.map (·.1)) [] /\ ∀ z ∈ zs, qhi w z
 | [], o, fps, h => ⟨[], rfl, by unfold zad at h; exact h, by unfold zad; rfl, by simp⟩
 | a :: ls, o, fps, h => by
  rw [List.map_cons, zad] at h
  obtain ⟨_, f1, f2, rfl, h2, h3⟩ := h
  obtain ⟨zs, rfl, rfl, k3, k4⟩ := qhd ls (o + 3) f2 h3
  rw [zak] at h2
  simp only [za2] at h2
  obtain ⟨v1, g1, _, c1, rfl, o1, v2, g2, _, c2, rfl, o2, v3, g3, _, c3, rfl, o3, rfl⟩ := h2
  have o1' := o1
  have o2' := o2
  have o3' := o3
  unfold zap at o1' o2' o3'
  obtain ⟨-, rfl⟩ := o1'
  obtain ⟨-, -, rfl⟩ := o2'
  obtain ⟨ao, cap, e3, -⟩ := o3'
  refine ⟨([.bool a.pos, .str a.atom.name, .vs ao (a.atom.args.map tmC).length cap], a, g3) :: zs, rfl, by simp, ?_, ?_⟩
  ·rw [List.map_cons, zad]
   refine ⟨rfl, [], [], rfl, ?_, k3⟩
   simp only [za2]
   exact ⟨v1, [], [], c1, rfl, o1, v2, [], [], c2, rfl, o2, v3, [], [], c3, rfl, by unfold zap; exact ⟨e3, rfl⟩, rfl⟩
  ·intro z hz
   rcases List.mem_cons.1 hz with rfl | hz
   ·exact ⟨ao, _, cap, rfl, by rw [<- e3]; exact o3⟩
   ·exact k4 z hz
theorem zxs {w : World} {cells : Array Value} : ∀ (zs : List (List T × Li × List Nat)) (o : Nat), zad w cells o 3 (zs.map (·.1)) [] -> (∀ z ∈ zs, qhi w z) -> zad w cells o 3 (zs.map fun z => liC z.2.1) (zs.map (·.2.2)).flatten
 | [], o, _, _ => by unfold zad; rfl
 | z :: zs, o, h, hz => by
  rw [List.map_cons, zad] at h
  obtain ⟨_, f1, f2, h1, h2, h3⟩ := h
  obtain ⟨rfl, rfl⟩ := List.append_eq_nil_iff.1 h1.symm
  have ih := zxs zs (o + 3) h3 fun q hq => hz q (by simp [hq])
  obtain ⟨ao, l, c, e, k⟩ := hz z (by simp)
  rw [e] at h2
  rw [List.map_cons, zad]
  refine ⟨by rw [zak]; rfl, z.2.2, _, rfl, ?_, ih⟩
  rw [zak]
  simp only [za2] at h2 ⊢
  obtain ⟨v1, g1, f1, c1, e1, o1, v2, g2, f2, c2, e2, o2, v3, g3, f3, c3, e3, o3, rfl⟩ := h2
  unfold zap at o3
  obtain ⟨rfl, rfl⟩ := o3
  have o1' := o1
  have o2' := o2
  unfold zap at o1' o2'
  obtain ⟨-, rfl⟩ := o1'
  obtain ⟨-, -, rfl⟩ := o2'
  exact ⟨v1, [], z.2.2, c1, rfl, o1, v2, [], z.2.2, c2, rfl, o2, _, z.2.2, [], c3, by simp, k, rfl⟩
theorem qhf {α : Type} (ls : List Li) (zs : List α) : ((kp ls zs.length).filterMap fun i => zs[i]?).Sublist zs := by
 have h1 : ((List.range zs.length).filterMap fun i => zs[i]?) = zs := by
  apply List.ext_getElem?
  intro i
  have : ∀ (n : Nat), n <= zs.length -> ((List.range n).filterMap fun i => zs[i]?) = zs.take n := by
   intro n
   induction n with
   | zero => intro _; simp
   | succ n ih =>
    intro hn
    rw [List.range_succ, List.filterMap_append, ih (by omega), List.take_succ_eq_append_getElem (by omega)]
    simp [List.getElem?_eq_getElem (show n < zs.length by omega)]
  rw [this zs.length (Nat.le_refl _), List.take_length]
 conv => rhs; rw [<- h1]
 unfold kp
 exact List.Sublist.filterMap _ List.filter_sublist
theorem qg5 {α β : Type} (ls : List Li) (zs : List α) (f : α -> β) (d : β) : ((kp ls zs.length).map fun i => (zs.map f).getD i d) = ((kp ls zs.length).filterMap fun i => zs[i]?).map f := by
 have : ∀ l : List Nat, (∀ i ∈ l, i < zs.length) -> (l.map fun i => (zs.map f).getD i d) = (l.filterMap fun i => zs[i]?).map f := by
  intro l
  induction l with
  | nil => intro _; rfl
  | cons i l ih =>
   intro h
   have hi := h i (by simp)
   rw [List.map_cons, ih fun q hq => h q (by simp [hq]), List.filterMap_cons, List.getElem?_eq_getElem hi]
   simp [List.getD_eq_getElem?_getD, hi]
 exact this _ fun i hi => qjd hi
noncomputable def zv2 (ls : List Li) : List Li := (kp ls ls.length).filterMap fun i => ls[i]?
theorem zmd (ls : List Li) : (zv2 ls).Sublist ls := qhf ls ls
theorem qf3 {α : Type} {a b : List (List α)} (h : a.Sublist b) : a.flatten.Sublist b.flatten := by
 induction h with
 | slnil => exact List.Sublist.refl _
 | cons x _ ih => rw [List.flatten_cons]; exact ih.trans (List.sublist_append_right _ _)
 | cons_cons x _ ih => rw [List.flatten_cons, List.flatten_cons]; exact (List.Sublist.refl x).append ih
theorem zk8 (ls : List Li) (hlen : ls.length <= 1048576) : GC Tryz.prog 175 [(true, .one (liS ls)), (false, .one (.fn 176 []))] [.one (liS (zv2 ls))] := by
 refine ⟨Tryz.call175, fun w vs fp tp hv hn => ?_⟩
 obtain ⟨v, vs', f1, f2, t1, t2, rfl, rfl, rfl, ⟨hv, -⟩, u, _, rfl, hu, rfl, rfl, rfl⟩ := hv
 rw [List.append_nil] at *
 have hlt := zap.lt _ _ _ hv
 obtain ⟨zs, fq, hz1, hz2, hz3, hz4, hz5, hz6⟩ : ∃ (zs : List (List T × Li × List Nat)) (fq : List Nat), zs.map (·.2.1) = ls /\ f1 = fq ++ (zs.map (·.2.2)).flatten /\ zap w (.sl 3 (zs.map (·.1))) v fq /\ (∀ z ∈ zs, qhi w z) /\ fq.Nodup /\ ((zs.map (·.2.2)).flatten.Nodup /\ ∀ b ∈ fq, b ∉ (zs.map (·.2.2)).flatten) := by
  have hv' := hv
  unfold zap at hv'
  obtain ⟨ao, cap, rfl, q1, q2, q3⟩ := hv'
  rcases q3 with ⟨rfl, rfl, q3, rfl⟩ | ⟨b, cells, ty, fps, rfl, rfl, q3, q4, q5⟩
  ·have e : ls = [] := List.map_eq_nil_iff.1 q3
   subst e
   exact ⟨[], [], rfl, rfl, hv, by simp, List.nodup_nil, List.nodup_nil, by simp⟩
  ·obtain ⟨zs, k1, rfl, k3, k4⟩ := qhd ls 0 fps q5
   have hzl : (zs.map (·.1)).length = (ls.map liC).length := by rw [<- k1]; simp
   refine ⟨zs, [b], k1, rfl, ?_, k4, by simp, (List.nodup_cons.1 hn).2, fun q hq => by rw [List.mem_singleton.1 hq]; exact (List.nodup_cons.1 hn).1⟩
   unfold zap
   exact ⟨_, cap, by rw [hzl], by rw [hzl]; exact q1, q2, Or.inr ⟨b, cells, ty, [], rfl, rfl, q3, q4, k3⟩⟩
 subst hz1 hz2
 have hltg : ∀ b ∈ (zs.map (·.2.2)).flatten, b < w.heap.size := fun b hb => hlt b (List.mem_append_right _ hb)
 have hgz : ∀ z ∈ zs, ∀ b ∈ z.2.2, b ∈ (zs.map (·.2.2)).flatten := fun z hz b hb => List.mem_flatten.2 ⟨z.2.2, List.mem_map.2 ⟨z, hz, rfl⟩, hb⟩
 have hsh : ∀ r ∈ zs.map (·.1), ∃ p s ao n c, r = [.bool p, .str s, .vs ao n c] := fun r hr => by
  obtain ⟨z, hz, rfl⟩ := List.mem_map.1 hr
  obtain ⟨ao, l, c, e, -⟩ := hz4 z hz
  exact ⟨_, _, ao, l, c, e⟩
 have hI : zib w (fun b => b ∈ (zs.map (·.2.2)).flatten) (zs.map (·.1)) (zs.map (·.2.1)) := fun i h1 h2 => by
  have hi : i < zs.length := by simpa using h1
  simp only [List.getElem_map]
  obtain ⟨ao, l, c, e, k⟩ := hz4 zs[i] (List.getElem_mem hi)
  exact ⟨ao, l, c, e, zap.rep _ _ _ k fun b hb => hgz _ (List.getElem_mem hi) b hb⟩
 have hJ := qc0 (R := fun b => b ∈ (zs.map (·.2.2)).flatten) (fl := zs.map (·.1)) (ls := zs.map (·.2.1)) (g := 176) (by simp) (by simpa using hlen) hsh (fun a _ b _ => zgl a b)
 refine (GCJ_of (fun _ _ hs h => h.keep hs) rfl rfl (by simp only [List.length_cons, List.length_nil, Tryz.ntmps175]; omega) (by simp [zbz, T.isPin]) hJ w [v, u] fq _ ⟨v, [u], fq, [], _, [], rfl, by simp, rfl, ⟨hz3, rfl⟩, u, [], rfl, ?_, rfl, rfl, rfl⟩ hz5 hI fun x hx => ⟨hltg x hx, fun hq => hz6.2 x hq hx⟩).mono ?_
 ·have hu : zah w _ (.fn _ []) u := hu
  show zah _ _ _ _
  unfold zah at hu ⊢
  exact hu
 rintro e w' ⟨us, fp', tp', rfl, ⟨u', _, f3, f4, t3, t4, rfl, rfl, rfl, ⟨o1, -⟩, rfl, rfl, rfl⟩, o2, o3, o4⟩
 rw [List.append_nil] at *
 have hlen2 : (zs.map (·.1)).length = zs.length := by simp
 have hlen3 : (zs.map (·.2.1)).length = zs.length := by simp
 have hsub := qhf (zs.map (·.2.1)) zs
 have hc1 : cpt (zs.map (·.2.1)) (zs.map (·.1)) (zs.map (·.1)).length = ((kp (zs.map (·.2.1)) zs.length).filterMap fun i => zs[i]?).map (·.1) := by
  unfold cpt
  rw [hlen2, qg5]
 have hc2 : zv2 (zs.map (·.2.1)) = ((kp (zs.map (·.2.1)) zs.length).filterMap fun i => zs[i]?).map (·.2.1) := by
  unfold zv2
  rw [hlen3, List.map_filterMap]
  congr 1
  funext i
  rw [List.getElem?_map]
 rw [hc1] at o1
 rw [hc2]
 generalize ((kp (zs.map (·.2.1)) zs.length).filterMap fun i => zs[i]?) = zt at hsub o1 ⊢
 have hfs : ((zt.map (·.2.2)).flatten).Sublist ((zs.map (·.2.2)).flatten) := qf3 (hsub.map _)
 have hown : ∀ z ∈ zt, qhi w' z := fun z hz => (hz4 z (hsub.subset hz)).keep fun b hb => o4.block b ⟨hltg b (hgz z (hsub.subset hz) b hb), fun q => hz6.2 b q (hgz z (hsub.subset hz) b hb)⟩
 have hV : zap w' (.sl 3 (zt.map fun z => liC z.2.1)) u' (f3 ++ (zt.map (·.2.2)).flatten) := by
  unfold zap at o1 ⊢
  obtain ⟨ao, cap, rfl, q1, q2, q3⟩ := o1
  have hll : (zt.map (·.1)).length = (zt.map fun z => liC z.2.1).length := by simp
  refine ⟨ao, cap, by rw [hll], by rw [<- hll]; exact q1, q2, ?_⟩
  rcases q3 with ⟨h1, h2, h3, rfl⟩ | ⟨b, cells, ty, fps, rfl, rfl, h3, h4, h5⟩
  ·have e : zt = [] := List.map_eq_nil_iff.1 h3
   subst e
   exact Or.inl ⟨h1, h2, rfl, rfl⟩
  ·have hf0 : fps = [] := by
    refine zad.flat ?_ h5
    have : ∀ l : List (List T × Li × List Nat), (∀ z ∈ l, qhi w' z) -> flR (l.map (·.1)) = true := by
     intro l
     induction l with
     | nil => intro _; rfl
     | cons z l ih =>
      intro h
      obtain ⟨ao, n, c, e, -⟩ := h z (by simp)
      rw [List.map_cons, flR, ih fun q hq => h q (by simp [hq]), e]
      rfl
    exact this zt hown
   subst hf0
   exact Or.inr ⟨b, cells, ty, _, rfl, rfl, h3, h4, zxs zt 0 h5 hown⟩
 refine ⟨[u'], f3 ++ (zt.map (·.2.2)).flatten, _, rfl, ⟨u', [], _, [], _, [], rfl, by rw [List.append_nil], rfl, ⟨by rw [show liS (zt.map (·.2.1)) = .sl 3 (zt.map fun z => liC z.2.1) by simp [liS, List.map_map, Function.comp_def]]; exact hV, rfl⟩, rfl, rfl, rfl⟩, ?_, ?_, ?_⟩
 ·refine List.nodup_append.2 ⟨o2, hfs.nodup hz6.1, fun a ha b hb hab => ?_⟩
  subst hab
  rcases o3 a ha with q | q
  ·exact hz6.2 a q (hfs.subset hb)
  ·have := hltg a (hfs.subset hb); omega
 ·intro b hb
  rcases List.mem_append.1 hb with q | q
  ·rcases o3 b q with q | q
   ·exact Or.inl (List.mem_append_left _ q)
   ·exact Or.inr q
  ·exact Or.inl (List.mem_append_right _ (hfs.subset q))
 ·exact ⟨o4.os, o4.tape, o4.output, o4.size, fun k hk => o4.block k ⟨hk.1, fun q => hk.2 (List.mem_append_left _ q)⟩⟩
end Go.Proofs.YtnkagnjiljjpcaaGreat
namespace Go.Proofs.YtnkagnjiljjpcaaGreat
set_option linter.unusedSimpArgs false
set_option linter.unusedVariables false
set_option linter.unusedSectionVars false
set_option maxRecDepth 4000
open Go.RowKit
theorem zfm (xs : List Li) (p : Li -> Bool) (g : FuncId) (caps : List T) (H : ∀ x ∈ xs, FC Tryz.prog g (liD x :: caps.map .one) [bD (p x)]) : FC Tryz.prog 172 [.one (liS xs), .one (.fn g caps)] [iD (zsa xs p)] := by
 refine zcn (fun hw => ?_) Tryz.call172
 have hl : xs.length <= 9223372036854775807 := by simpa [zfj, wfT] using hw.1.1
 refine zaq Tryz.call172 Tryz.func172 rfl (by kernel_rfl) (za4 (by kernel_rfl)) ?_
 simp -implicitDefEqProofs only [go_sem, Tryz.results172]
 refine zag (fun k : Nat => hd [(0, vT (liS xs)), (1, vT (.fn g caps)), (7, vI xs.length), (8, vI k)] [] []) (fun k => k <= xs.length /\ ∀ x ∈ xs.take k, p x = false) (fun k => xs.length - k) 0 (zab ?_) ?_ ?_
 ·simp -implicitDefEqProofs only [go_sem]
 ·simp
 ·intro k ⟨hk, hr⟩
  by_cases hlt : k < xs.length
  ·simp -implicitDefEqProofs only [go_sem, zai, hlt, zak, zaa]
   refine callF (H xs[k] (List.getElem_mem hlt)) (by simp -implicitDefEqProofs only [go_sem, zak, zaa]) ?_
   simp -implicitDefEqProofs only [go_sem, zak, zaa]
   refine ⟨fun h => ?_, fun h => ⟨k + 1, ⟨hlt, zcu hlt hr h⟩, by omega, zab (by simp -implicitDefEqProofs only [go_sem]; rw [zan (by omega)])⟩⟩
   rw [zet hlt hr h]
  ·simp -implicitDefEqProofs only [go_sem, hlt]
   rw [List.take_of_length_le (by omega)] at hr
   rw [zf2 hr]
theorem zd7 (xs : List Li) (p : Li -> Bool) (g : FuncId) (caps : List T) (H : ∀ x ∈ xs, FC Tryz.prog g (liD x :: caps.map .one) [bD (p x)]) : FC Tryz.prog 129 [.one (liS xs), .one (.fn g caps)] [bD (xs.any p)] := by
 refine zaq Tryz.call129 Tryz.func129 rfl (by kernel_rfl) (za4 (by kernel_rfl)) ?_
 simp -implicitDefEqProofs only [go_sem, Tryz.results129]
 refine callF (zfm xs p g caps H) (by simp -implicitDefEqProofs only [go_sem]) ?_
 simp -implicitDefEqProofs only [go_sem]
 rw [zl8]
end Go.Proofs.YtnkagnjiljjpcaaGreat
namespace Go.Proofs.YtnkagnjiljjpcaaGreat
set_option linter.unusedSimpArgs false
set_option linter.unusedVariables false
set_option linter.unusedSectionVars false
set_option maxRecDepth 4000
open Go.RowKit
set_option maxRecDepth 10000 in
set_option maxHeartbeats 400000 in
theorem zgc (xs ys : List Li) (p : Li -> Li -> Bool) (g : FuncId) (caps : List T) (H : ∀ x ∈ xs, ∀ y ∈ ys, FC Tryz.prog g (liD x :: liD y :: caps.map .one) [bD (p x y)]) : FC Tryz.prog 177 [.one (liS xs), .one (liS ys), .one (.fn g caps)] [bD (eqL p xs ys)] := by
 refine zcn (fun hw => ?_) Tryz.call177
 have hl : xs.length <= 9223372036854775807 := by simpa [zfj, wfT] using hw.1.1
 have hl2 : ys.length <= 9223372036854775807 := by simpa [zfj, wfT] using hw.2.1.1
 refine zaq Tryz.call177 Tryz.func177 rfl (by kernel_rfl) (za4 (by kernel_rfl)) ?_
 simp -implicitDefEqProofs only [go_sem, Tryz.results177]
 refine ⟨fun h => ?_, fun h => ?_⟩
 ·rw [zqd (by rintro e; simp [e] at h)]
 ·have hlen : xs.length = ys.length := by simp at h; omega
  refine zag (fun k : Nat => hd [(1, vT (liS ys)), (2, .one (.t (.fn g caps))), (15, vT (liS xs)), (16, vI xs.length), (17, vI k)] [] []) (fun k => k <= xs.length /\ eqL p xs ys = eqL p (xs.drop k) (ys.drop k)) (fun k => xs.length - k) 0 (zab ?_) ?_ ?_
  ·simp -implicitDefEqProofs only [go_sem]
  ·simp
  ·intro k ⟨hk, hr⟩
   by_cases hlt : k < xs.length
   ·have hk2 : k < ys.length := by omega
    simp -implicitDefEqProofs only [go_sem, List.length_map, zai, hlt, hk2, zak, zaa]
    refine callF (H xs[k] (List.getElem_mem hlt) ys[k] (List.getElem_mem hk2)) (by simp -implicitDefEqProofs only [go_sem, zak, zaa]) ?_
    simp -implicitDefEqProofs only [go_sem, zak, zaa]
    rw [List.drop_eq_getElem_cons hlt, List.drop_eq_getElem_cons hk2, eqL] at hr
    refine ⟨fun h => ?_, fun h => ?_⟩
    ·rw [hr, show p xs[k] ys[k] = false by simpa using h]; rfl
    ·rw [show p xs[k] ys[k] = true by simpa using h, Bool.true_and] at hr
     rw [zan (by omega)]
     exact ⟨k + 1, ⟨by omega, hr⟩, by omega, zab (by simp -implicitDefEqProofs only [go_sem])⟩
   ·simp -implicitDefEqProofs only [go_sem, List.length_map, hlt]
    rw [hr, List.drop_of_length_le (by omega), List.drop_of_length_le (by omega)]; rfl
end Go.Proofs.YtnkagnjiljjpcaaGreat
namespace Go.Proofs.YtnkagnjiljjpcaaGreat
set_option linter.unusedSimpArgs false
set_option linter.unusedVariables false
set_option linter.unusedSectionVars false
set_option maxRecDepth 4000
open Go.RowKit
set_option maxHeartbeats 400000 in
theorem zpu (a : Li) (l : Int) (h0 : 0 <= l) (h1 : l <= 1048576) :
  FC Tryz.prog 115 [liD a, iD l] [iD (szR a.wt l)] := by
 refine zcn (fun hw => ?_) Tryz.call115
 simp only [liD, zak, zaa] at hw ⊢
 have hW := a.wt_eq
 have hls : True := by simp [zfj, wfT, zn9] at hw; simp [hw]
 refine zaq Tryz.call115 Tryz.func115 rfl (by kernel_rfl) (za4 (by kernel_rfl)) ?_
 simp -implicitDefEqProofs only [go_sem, Tryz.results115]
 refine callF (zs7 a.atom l (by omega) (by omega)) (by simp -implicitDefEqProofs only [go_sem, zak, zaa, zaa]) ?_
 simp -implicitDefEqProofs only [go_sem, zak, zaa, zaa]
 refine ⟨fun h1 => ?_, fun h1 => ?_⟩
 ·have := zh9 (by omega) (show szR a.atom.wt l < 0 by simpa using h1)
  rw [zek (by  omega)]
 obtain ⟨k1, j1⟩ := zfk (show ¬ szR a.atom.wt l < 0 by simpa using h1)
 rw [show szR a.wt l = l - a.wt from zoo (by  omega)]; exact ztp (by  omega)
set_option maxHeartbeats 400000 in
theorem zo5 (a : Li) (hs : a.wt <= 1048576) : FC Tryz.prog 122 [liD a] [liD a] := by
 have hW := a.wt_eq
 simp only [liD, zak, zaa]
 refine zaq Tryz.call122 Tryz.func122 rfl (by kernel_rfl) (za4 (by kernel_rfl)) ?_
 simp -implicitDefEqProofs only [go_sem, Tryz.results122]
 refine callF (zs3 a.atom (by  omega)) (by simp -implicitDefEqProofs only [go_sem, zak, zaa, zaa]) ?_
 simp -implicitDefEqProofs only [go_sem, zak, zaa, zaa]
set_option maxHeartbeats 400000 in
theorem zo0 (a b : Li) : FC Tryz.prog 135 [liD a, liD b] [bD (same a b)] := by
 simp only [liD, zak, zaa]
 refine zaq Tryz.call135 Tryz.func135 rfl (by kernel_rfl) (za4 (by kernel_rfl)) ?_
 simp -implicitDefEqProofs only [go_sem, Tryz.results135]
 refine ⟨fun h1 => ?_, fun h1 => ?_⟩
 ·rw [zci.2 (by rintro rfl; simp [zbb] at h1)]
 refine callF (zsn a.atom b.atom) (by simp -implicitDefEqProofs only [go_sem, zak, zaa, zaa]) ?_
 simp -implicitDefEqProofs only [go_sem, zak, zaa, zaa]
 refine ⟨fun h2 => ?_, fun h2 => ?_⟩
 ·rw [zci.2 (by rintro rfl; simp [zbb] at h2)]
 rw [zbj.2 (by cases a; cases b; simp [zbj, Li.pos, Li.atom] at h1 h2 ⊢; simp [h1, h2])]
theorem zr3 (a : Li) (l : Int) (h0 : 0 <= l) (h1 : l <= 1048576) : FC Tryz.prog 115 [liD a, iD l] [iD (szR a.wt l)] := zpu a l h0 h1
theorem zqf (a : Li) (hs : a.wt <= 1048576) : FC Tryz.prog 122 [liD a] [liD a] := zo5 a hs
theorem zr4 (a b : Li) : FC Tryz.prog 135 [liD a, liD b] [bD (same a b)] := zo0 a b
set_option maxHeartbeats 400000 in
theorem zld (xs : List Li) (H : ∀ x ∈ xs, ∀ l : Int, 0 <= l -> l <= 1048576 -> FC Tryz.prog 115 [liD x, iD l] [iD (szR x.wt l)]) (l : Int) (h0 : 0 <= l) (h1 : l <= 1048576) :
  FC Tryz.prog 64 [.one (liS xs), iD l] [iD (szR (zd8 xs) l)] := by
 refine zcn (fun hw => ?_) Tryz.call64
 have hl : xs.length <= 9223372036854775807 := by simpa [zfj, wfT] using hw.1.1
 refine zaq Tryz.call64 Tryz.func64 rfl (by kernel_rfl) (za4 (by kernel_rfl)) ?_
 simp -implicitDefEqProofs only [go_sem, Tryz.results64]
 rw [zbt (by omega) (by omega)]
 have hW : zd8 xs = xs.length + (xs.map Li.wt).sum := rfl
 refine ⟨fun h => ?_, fun h => ?_⟩
 ·rw [zek (by simp at h; omega)]
 ·have hlen : (xs.length : Int) <= l := by simp at h; omega
  refine zag (fun k : Nat => hd [(0, vT (liS xs)), (1, vI (l - xs.length - zrv Li.wt xs k)), (5, vI k)] [] []) (fun k => k <= xs.length /\ 0 <= l - xs.length - zrv Li.wt xs k) (fun k => xs.length - k) 0 (zab ?_) ?_ ?_
  ·simp -implicitDefEqProofs only [go_sem]
   simp [zgb]
  ·simpa [zgb] using hlen
  ·intro k ⟨hk, hp⟩
   by_cases hlt : k < xs.length
   ·have hs := zo6 Li.wt xs k hlt
    have hs2 := zzr Li.wt xs (k + 1)
    simp -implicitDefEqProofs only [go_sem, List.length_map, zai, hlt, zak, zaa]
    refine callF (H xs[k] (List.getElem_mem hlt) (l - xs.length - zrv Li.wt xs k) hp (by omega)) (by simp -implicitDefEqProofs only [go_sem, zak, zaa]) ?_
    simp -implicitDefEqProofs only [go_sem, zak, zaa]
    refine ⟨fun h => ?_, fun h => ?_⟩
    ·have := zh9 hp (by simpa using h)
     rw [zek (by omega)]
    ·obtain ⟨h2, h3⟩ := zfk (by simpa using h)
     rw [zan (by omega)]
     exact ⟨k + 1, ⟨hlt, by omega⟩, by omega, zab (by simp -implicitDefEqProofs only [go_sem]; rw [h3]; congr 1; omega)⟩
   ·simp -implicitDefEqProofs only [go_sem, List.length_map, hlt]
    have hall := ztj Li.wt xs k (by omega)
    rw [hall, zoo (by omega)]; congr 1; omega
set_option maxHeartbeats 400000 in
theorem zmx (xs : List Li) (H : ∀ x ∈ xs, FC Tryz.prog 122 [liD x] [liD x]) (hs : xs.length <= 1048576) :
  FC Tryz.prog 69 [.one (liS xs)] [.one (liS xs)] := by
 refine zcn (fun hw => ?_) Tryz.call69
 refine zaq Tryz.call69 Tryz.func69 rfl (by kernel_rfl) (za4 (by kernel_rfl)) ?_
 simp -implicitDefEqProofs only [go_sem, Tryz.results69]
 refine qhw (by simp -implicitDefEqProofs only [go_sem]; omega) ?_
 simp -implicitDefEqProofs only [go_sem]
 refine zag (fun k : Nat => hd [(0, vT (liS xs)), (3, .one (.ow 224 0)), (4, vI k)] [] [(224, ⟨true, 3, (xs.take k).map liC ++ List.replicate (xs.length - k) [T.bool false, T.str [], T.sl 2 []], 0, true⟩)]) (fun k => k <= xs.length) (fun k => xs.length - k) 0 (zab ?_) ?_ ?_
 ·simp -implicitDefEqProofs only [go_sem]
  simp
 ·simp
 ·intro k hk
  by_cases hlt : k < xs.length
  ·have hlen : ((xs.take k).map liC ++ List.replicate (xs.length - k) [T.bool false, T.str [], T.sl 2 []]).length = xs.length := by simp; omega
   have hlt2 : k < k + (xs.length - k) := by omega
   simp -implicitDefEqProofs only [go_sem, List.length_map, zai, hlt, zak, zaa]
   refine callF (H xs[k] (List.getElem_mem hlt)) (by simp -implicitDefEqProofs only [go_sem, zak, zaa, hlen, hlt, List.length_append, List.length_map, List.length_take, List.length_replicate, Nat.min_eq_left hk, hlt2]) ?_
   simp -implicitDefEqProofs only [go_sem, zak, zaa, hlen, hlt, List.length_append, List.length_map, List.length_take, List.length_replicate, Nat.min_eq_left hk, hlt2]
   refine zid (by simp -implicitDefEqProofs only [go_sem]; simp) ?_
   simp -implicitDefEqProofs only [go_sem]
   rw [zan (by omega)]
   refine ⟨k + 1, by omega, by omega, zab ?_⟩
   simp -implicitDefEqProofs only [go_sem]
   have hf := zih ((xs.take k).map liC) xs.length k [T.bool false, T.str [], T.sl 2 []] (liC xs[k]) (by simp; omega) hlt (by simp [zak, zaa])
   simp only [zak, zaa] at hf
   rw [hf, List.take_succ_eq_append_getElem hlt, List.map_append, List.map_singleton]
   simp only [zak, zaa]
  ·simp -implicitDefEqProofs only [go_sem, List.length_map, hlt]
   simp [List.take_of_length_le (show xs.length <= k by omega), show xs.length - k = 0 by omega]
set_option maxHeartbeats 400000 in
theorem zlz (xs ys : List Li) (H : ∀ x ∈ xs, ∀ y, FC Tryz.prog 135 [liD x, liD y] [bD (same x y)]) :
  FC Tryz.prog 80 [.one (liS xs), .one (liS ys)] [bD (same xs ys)] := by
 refine zcn (fun hw => ?_) Tryz.call80
 have hl : xs.length <= 9223372036854775807 := by simpa [zfj, wfT] using hw.1.1
 have hl2 : ys.length <= 9223372036854775807 := by simpa [zfj, wfT] using hw.2.1.1
 refine zaq Tryz.call80 Tryz.func80 rfl (by kernel_rfl) (za4 (by kernel_rfl)) ?_
 simp -implicitDefEqProofs only [go_sem, Tryz.results80]
 refine ⟨fun h => ?_, fun h => ?_⟩
 ·rw [zci.2 (by rintro rfl; simp at h)]
 ·have hlen : xs.length = ys.length := by simp at h; omega
  refine zag (fun k : Nat => hd [(0, vT (liS xs)), (1, vT (liS ys)), (4, vB false), (5, vI k)] [] []) (fun k => k <= xs.length /\ same xs ys = same (xs.drop k) (ys.drop k)) (fun k => xs.length - k) 0 (zab ?_) ?_ ?_
  ·simp -implicitDefEqProofs only [go_sem]
  ·simp
  ·intro k ⟨hk, hr⟩
   by_cases hlt : k < xs.length
   ·have hk2 : k < ys.length := by omega
    simp -implicitDefEqProofs only [go_sem, List.length_map, hlt]
    refine drawn (by kernel_rfl) ?_
    simp -implicitDefEqProofs only [go_sem, List.length_map, zai, hlt, hk2, zak, zaa]
    refine zax (H xs[k] (List.getElem_mem hlt) ys[k]) (by simp -implicitDefEqProofs only [go_sem, zak, zaa]) ?_
    simp -implicitDefEqProofs only [go_sem, zak, zaa]
    refine ⟨by kernel_rfl, fun h => ?_, fun h => ?_⟩
    ·rw [hr, List.drop_eq_getElem_cons hlt, List.drop_eq_getElem_cons hk2, zb9, show same xs[k] ys[k] = false by simpa using h]; rfl
    ·rw [List.drop_eq_getElem_cons hlt, List.drop_eq_getElem_cons hk2, zb9, show same xs[k] ys[k] = true by simpa using h, Bool.true_and] at hr
     rw [zan (by omega)]
     exact ⟨k + 1, ⟨by omega, hr⟩, by omega, zab (by simp -implicitDefEqProofs only [go_sem])⟩
   ·simp -implicitDefEqProofs only [go_sem, List.length_map, hlt]
    rw [hr, List.drop_of_length_le (by omega), List.drop_of_length_le (by omega), zga]
theorem zpq (xs : List Li) (l : Int) (h0 : 0 <= l) (h1 : l <= 1048576) : FC Tryz.prog 64 [.one (liS xs), iD l] [iD (szR (zd8 xs) l)] := zld xs (fun x _ l h0 h1 => zr3 x l h0 h1) l h0 h1
theorem zps (xs : List Li) (hs : zd8 xs <= 1048576) : FC Tryz.prog 69 [.one (liS xs)] [.one (liS xs)] := by
 have hW : zd8 xs = xs.length + (xs.map Li.wt).sum := rfl
 exact zmx xs (fun x hx => zqf x (by have := zb1 Li.wt xs x hx; omega)) (by omega)
theorem zpz (xs ys : List Li) : FC Tryz.prog 80 [.one (liS xs), .one (liS ys)] [bD (same xs ys)] := zlz xs ys fun x _ y => zr4 x y
set_option maxHeartbeats 400000 in
theorem zr5 (a : Cq) (l : Int) (h0 : 0 <= l) (h1 : l <= 1048576) :
  FC Tryz.prog 23 [cqD a, iD l] [iD (szR a.wt l)] := by
 refine zcn (fun hw => ?_) Tryz.call23
 simp only [cqD, zaw, zak, zaa] at hw ⊢
 have hW := a.wt_eq
 have hls : True := by simp [zfj, wfT, zn9] at hw; simp [hw]
 refine zaq Tryz.call23 Tryz.func23 rfl (by kernel_rfl) (za4 (by kernel_rfl)) ?_
 simp -implicitDefEqProofs only [go_sem, Tryz.results23]
 refine callF (zpq a.lits l (by omega) (by omega)) (by simp -implicitDefEqProofs only [go_sem, zaw, zak, zaa]) ?_
 simp -implicitDefEqProofs only [go_sem, zaw, zak, zaa]
 refine ⟨fun h1 => ?_, fun h1 => ?_⟩
 ·have := zh9 (by omega) (show szR (zd8 a.lits) l < 0 by simpa using h1)
  rw [zek (by have hu0 : zd8 a.lits = a.lits.length + (a.lits.map Li.wt).sum := rfl;  omega)]
 obtain ⟨k1, j1⟩ := zfk (show ¬ szR (zd8 a.lits) l < 0 by simpa using h1)
 rw [show szR a.wt l = l - a.wt from zoo (by have hu0 : zd8 a.lits = a.lits.length + (a.lits.map Li.wt).sum := rfl;  omega)]; exact ztp (by have hu0 : zd8 a.lits = a.lits.length + (a.lits.map Li.wt).sum := rfl;  omega)
set_option maxHeartbeats 400000 in
theorem zqn (a : Cq) (hs : a.wt <= 1048576) : FC Tryz.prog 26 [cqD a] [cqD a] := by
 have hW := a.wt_eq
 simp only [cqD, zaw, zak, zaa]
 refine zaq Tryz.call26 Tryz.func26 rfl (by kernel_rfl) (za4 (by kernel_rfl)) ?_
 simp -implicitDefEqProofs only [go_sem, Tryz.results26]
 refine callF (zps a.lits (by have hu0 : zd8 a.lits = a.lits.length + (a.lits.map Li.wt).sum := rfl;  omega)) (by simp -implicitDefEqProofs only [go_sem, zaw, zak, zaa]) ?_
 simp -implicitDefEqProofs only [go_sem, zaw, zak, zaa]
set_option maxHeartbeats 400000 in
theorem zrf (a b : Cq) : FC Tryz.prog 29 [cqD a, cqD b] [bD (same a b)] := by
 simp only [cqD, zaw, zak, zaa]
 refine zaq Tryz.call29 Tryz.func29 rfl (by kernel_rfl) (za4 (by kernel_rfl)) ?_
 simp -implicitDefEqProofs only [go_sem, Tryz.results29]
 refine callF (zpz a.lits b.lits) (by simp -implicitDefEqProofs only [go_sem, zaw, zak, zaa]) ?_
 simp -implicitDefEqProofs only [go_sem, zaw, zak, zaa]
 refine ⟨fun h1 => ?_, fun h1 => ?_⟩
 ·rw [zci.2 (by rintro rfl; simp [zbb] at h1)]
 rw [zbj.2 (by cases a; cases b; simp [zbj, Cq.lits] at h1 ⊢; simp [h1])]
theorem zv3 (a : Cq) (l : Int) (h0 : 0 <= l) (h1 : l <= 1048576) : FC Tryz.prog 23 [cqD a, iD l] [iD (szR a.wt l)] := zr5 a l h0 h1
theorem zwi (a : Cq) (hs : a.wt <= 1048576) : FC Tryz.prog 26 [cqD a] [cqD a] := zqn a hs
theorem zkp (a b : Cq) : FC Tryz.prog 29 [cqD a, cqD b] [bD (same a b)] := zrf a b
set_option maxHeartbeats 400000 in
theorem zpe (xs ys : List Cq) (H : ∀ x ∈ xs, ∀ y, FC Tryz.prog 29 [cqD x, cqD y] [bD (same x y)]) :
  FC Tryz.prog 12 [.one (cqS xs), .one (cqS ys)] [bD (same xs ys)] := by
 refine zcn (fun hw => ?_) Tryz.call12
 have hl : xs.length <= 9223372036854775807 := by simpa [zfj, wfT] using hw.1.1
 have hl2 : ys.length <= 9223372036854775807 := by simpa [zfj, wfT] using hw.2.1.1
 refine zaq Tryz.call12 Tryz.func12 rfl (by kernel_rfl) (za4 (by kernel_rfl)) ?_
 simp -implicitDefEqProofs only [go_sem, Tryz.results12]
 refine ⟨fun h => ?_, fun h => ?_⟩
 ·rw [zci.2 (by rintro rfl; simp at h)]
 ·have hlen : xs.length = ys.length := by simp at h; omega
  refine zag (fun k : Nat => hd [(0, vT (cqS xs)), (1, vT (cqS ys)), (4, vB false), (5, vI k)] [] []) (fun k => k <= xs.length /\ same xs ys = same (xs.drop k) (ys.drop k)) (fun k => xs.length - k) 0 (zab ?_) ?_ ?_
  ·simp -implicitDefEqProofs only [go_sem]
  ·simp
  ·intro k ⟨hk, hr⟩
   by_cases hlt : k < xs.length
   ·have hk2 : k < ys.length := by omega
    simp -implicitDefEqProofs only [go_sem, List.length_map, hlt]
    refine drawn (by kernel_rfl) ?_
    simp -implicitDefEqProofs only [go_sem, List.length_map, zai, hlt, hk2, zaw, zak, zaa]
    refine zax (H xs[k] (List.getElem_mem hlt) ys[k]) (by simp -implicitDefEqProofs only [go_sem, zaw, zak, zaa]) ?_
    simp -implicitDefEqProofs only [go_sem, zaw, zak, zaa]
    refine ⟨by kernel_rfl, fun h => ?_, fun h => ?_⟩
    ·rw [hr, List.drop_eq_getElem_cons hlt, List.drop_eq_getElem_cons hk2, zb9, show same xs[k] ys[k] = false by simpa using h]; rfl
    ·rw [List.drop_eq_getElem_cons hlt, List.drop_eq_getElem_cons hk2, zb9, show same xs[k] ys[k] = true by simpa using h, Bool.true_and] at hr
     rw [zan (by omega)]
     exact ⟨k + 1, ⟨by omega, hr⟩, by omega, zab (by simp -implicitDefEqProofs only [go_sem])⟩
   ·simp -implicitDefEqProofs only [go_sem, List.length_map, hlt]
    rw [hr, List.drop_of_length_le (by omega), List.drop_of_length_le (by omega), zga]
theorem zqz (xs ys : List Cq) : FC Tryz.prog 12 [.one (cqS xs), .one (cqS ys)] [bD (same xs ys)] := zpe xs ys fun x _ y => zkp x y
end Go.Proofs.YtnkagnjiljjpcaaGreat
namespace Go.Proofs.YtnkagnjiljjpcaaGreat
set_option linter.unusedSimpArgs false
set_option linter.unusedVariables false
set_option linter.unusedSectionVars false
set_option maxRecDepth 4000
open Go.RowKit
theorem qf1 (a b : Str) : FC Tryz.prog 155 [sD a, sD b] [iD (zm8 a b)] := by
 have hv : zm8 a b = if Op.bytesLess a b = true then -1 else if (a == b) = true then 0 else 1 := rfl
 rw [hv]
 cases h1 : Op.bytesLess a b <;> cases h2 : (a == b)
 all_goals
  refine zaq Tryz.call155 Tryz.func155 rfl (by kernel_rfl) (za4 (by kernel_rfl)) ?_
  simp -implicitDefEqProofs only [go_sem, Tryz.results155, h1, h2]
  try simp
theorem zu3 (a b : Tm) : zew a b = if (zay a.name && !zay b.name) = true then -1 else if (zay b.name && !zay a.name) = true then 1 else if (a.name == b.name) = false then zm8 a.name b.name
  else if a.args.length < b.args.length then -1 else if b.args.length < a.args.length then 1 else zdt a.args b.args := by
 rw [zlm]
 unfold hdT zj4
 generalize zay a.name = x
 generalize zay b.name = y
 by_cases hn : a.name = b.name
 ·have h0 : zm8 a.name b.name = 0 := ziv.2 hn
  rw [h0, hn]
  unfold qii
  by_cases h1 : a.args.length < b.args.length
  ·cases x <;> cases y <;> simp [orE, h1]
  ·by_cases h2 : b.args.length < a.args.length
   ·cases x <;> cases y <;> simp [orE, h1, h2]
   ·cases x <;> cases y <;> simp [orE, h1, h2]
 ·have h0 : zm8 a.name b.name ≠ 0 := fun h => hn (ziv.1 h)
  have hb : (a.name == b.name) = false := by simpa using hn
  cases x <;> cases y <;> simp [orE, h0, hb]
set_option maxHeartbeats 1000000 in
theorem zoz (a b : Tm) (H : ∀ x ∈ a.args, ∀ y, FC Tryz.prog 102 [tmD x, tmD y] [iD (zew x y)]) : FC Tryz.prog 102 [tmD a, tmD b] [iD (zew a b)] := by
 refine zcn (fun hw => ?_) Tryz.call102
 simp only [tmD, zaa] at hw ⊢
 have hl : a.args.length <= 9223372036854775807 := by simp [zfj, wfT, zn9] at hw; exact hw.1.2.1
 have hv := zu3 a b
 have HV1 := zik a.name
 have HV2 := zik b.name
 have HT := qf1 a.name b.name
 by_cases hxy : zay a.name = zay b.name
 ·rw [hxy] at HV1 hv
  rw [Bool.and_not_self, if_neg (by simp), if_neg (by simp)] at hv
  generalize zay b.name = x at HV1 HV2
  cases x
  all_goals
   cases hn : (a.name == b.name)
   ·rw [hn, if_pos rfl] at hv
    rw [hv]
    have hn' : (a.name != b.name) = true := by simp [bne, hn]
    generalize zm8 a.name b.name = r at HT
    refine zaq Tryz.call102 Tryz.func102 rfl (by kernel_rfl) (za4 (by kernel_rfl)) ?_
    simp -implicitDefEqProofs only [go_sem, Tryz.results102]
    refine drawn (by kernel_rfl) ?_
    simp -implicitDefEqProofs only [go_sem]
    refine zax (HV1) (by simp -implicitDefEqProofs only [go_sem]) ?_
    simp -implicitDefEqProofs only [go_sem]
    refine zax (HV2) (by simp -implicitDefEqProofs only [go_sem]) ?_
    simp -implicitDefEqProofs only [go_sem]
    refine ⟨by kernel_rfl, ?_⟩
    simp -implicitDefEqProofs only [go_sem, hn, hn']
    refine callF (HT) (by simp -implicitDefEqProofs only [go_sem]) ?_
    simp -implicitDefEqProofs only [go_sem]
   ·rw [hn, if_neg (by simp)] at hv
    have hn' : (a.name != b.name) = false := by simp [bne, hn]
    refine zaq Tryz.call102 Tryz.func102 rfl (by kernel_rfl) (za4 (by kernel_rfl)) ?_
    simp -implicitDefEqProofs only [go_sem, Tryz.results102]
    refine drawn (by kernel_rfl) ?_
    simp -implicitDefEqProofs only [go_sem]
    refine zax (HV1) (by simp -implicitDefEqProofs only [go_sem]) ?_
    simp -implicitDefEqProofs only [go_sem]
    refine zax (HV2) (by simp -implicitDefEqProofs only [go_sem]) ?_
    simp -implicitDefEqProofs only [go_sem]
    refine ⟨by kernel_rfl, ?_⟩
    simp -implicitDefEqProofs only [go_sem, hn, hn']
    refine ⟨fun h1 => ?_, fun h1 => ⟨fun h2 => ?_, fun h2 => ?_⟩⟩
    ·rw [hv, if_pos (by simpa using h1)]
    ·rw [hv, if_neg (by simpa using h1), if_pos (by simpa using h2)]
    ·rw [if_neg (by simpa using h1), if_neg (by simpa using h2)] at hv
     have hlen : a.args.length = b.args.length := by simp at h1 h2; omega
     refine zag (fun k : Nat => hd [(2, .one (.bx 2 0)), (3, .one (.bx 3 0)), (7, vI k)] [(2, [.t (.str a.name), .t (tmS a.args)]), (3, [.t (.str b.name), .t (tmS b.args)])] []) (fun k => k <= a.args.length /\ zew a b = zdt (a.args.drop k) (b.args.drop k)) (fun k => a.args.length - k) 0 (zab ?_) ⟨Nat.zero_le _, by simpa using hv⟩ ?_
     ·simp -implicitDefEqProofs only [go_sem]
     ·intro k ⟨hk, hr⟩
      by_cases hlt : k < a.args.length
      ·have hk2 : k < b.args.length := by omega
       have HC := H a.args[k] (List.getElem_mem hlt) b.args[k]
       rw [List.drop_eq_getElem_cons hlt, List.drop_eq_getElem_cons hk2, zdt] at hr
       generalize zew a.args[k] b.args[k] = c at HC hr
       simp only [tmD, zaa a.args[k], zaa b.args[k]] at HC
       simp -implicitDefEqProofs only [go_sem, hlt]
       refine drawn (by kernel_rfl) ?_
       simp -implicitDefEqProofs only [go_sem, hlt, hk2, zai, zaa a.args[k], zaa b.args[k]]
       refine zax (HC) (by simp -implicitDefEqProofs only [go_sem]) ?_
       simp -implicitDefEqProofs only [go_sem]
       refine ⟨by kernel_rfl, fun h => ?_, fun h => ?_⟩
       ·have : c ≠ 0 := by simpa using h
        unfold orE at hr
        rw [if_neg this] at hr
        rw [hr]
       ·have : c = 0 := by simpa using h
        unfold orE at hr
        rw [if_pos this] at hr
        refine ⟨k + 1, ⟨hlt, hr⟩, by omega, zab ?_⟩
        simp -implicitDefEqProofs only [go_sem]
        rw [zan (by omega)]
      ·rw [List.drop_of_length_le (by omega), List.drop_of_length_le (by omega), zdt] at hr
       rw [hr]
       simp -implicitDefEqProofs only [go_sem, hlt]
 ·have e : zay b.name = !zay a.name := by revert hxy; cases zay a.name <;> cases zay b.name <;> simp
  rw [e] at HV2 hv
  generalize zay a.name = x at HV1 HV2 hv
  cases x
  all_goals
   simp only [Bool.not_true, Bool.not_false, Bool.and_self, Bool.and_false, Bool.and_true, Bool.false_and, Bool.true_and, if_true, if_false, reduceCtorEq] at HV2 hv
   rw [hv]
   refine zaq Tryz.call102 Tryz.func102 rfl (by kernel_rfl) (za4 (by kernel_rfl)) ?_
   simp -implicitDefEqProofs only [go_sem, Tryz.results102]
   refine drawn (by kernel_rfl) ?_
   simp -implicitDefEqProofs only [go_sem]
   refine zax (HV1) (by simp -implicitDefEqProofs only [go_sem]) ?_
   simp -implicitDefEqProofs only [go_sem]
   refine zax (HV2) (by simp -implicitDefEqProofs only [go_sem]) ?_
   simp -implicitDefEqProofs only [go_sem]
   kernel_rfl
theorem zqg : ∀ a b : Tm, FC Tryz.prog 102 [tmD a, tmD b] [iD (zew a b)] := za7 fun n xs ih b => zoz (.mk n xs) b ih
end Go.Proofs.YtnkagnjiljjpcaaGreat
namespace Go.Proofs.YtnkagnjiljjpcaaGreat
set_option linter.unusedSimpArgs false
set_option linter.unusedVariables false
set_option linter.unusedSectionVars false
set_option maxRecDepth 4000
open Go.RowKit
theorem zuw (x : Int) : FC Tryz.prog 150 [iD x] [bD false] := by
 refine zaq Tryz.call150 Tryz.func150 rfl (by kernel_rfl) (za4 (by kernel_rfl)) ?_
 simp -implicitDefEqProofs only [go_sem, Tryz.results150]
 simp
def qcl (a b : Int) : Int := if a < b then -1 else if b < a then 1 else 0
theorem zt7 (x y : Int) : FC Tryz.prog 93 [iD x, iD y] [iD (qcl x y)] := by
 have hc : qcl x y = if x < y then -1 else if y < x then 1 else 0 := rfl
 refine zaq Tryz.call93 Tryz.func93 rfl (by kernel_rfl) (za4 (by kernel_rfl)) ?_
 simp -implicitDefEqProofs only [go_sem, Tryz.results93]
 refine callF (zuw x) (by simp -implicitDefEqProofs only [go_sem]) ?_
 simp -implicitDefEqProofs only [go_sem]
 refine callF (zuw y) (by simp -implicitDefEqProofs only [go_sem]) ?_
 simp -implicitDefEqProofs only [go_sem]
 refine ⟨fun h => ?_, fun h => ⟨fun h2 => ?_, fun h2 => ?_⟩⟩
 ·rw [hc, if_pos (by simpa using h)]
 ·rw [hc, if_neg (by simpa using h), if_pos (by simpa using h2)]
 ·rw [hc, if_neg (by simpa using h), if_neg (by simpa using h2)]
theorem qfy (m n : Nat) : qcl (m : Int) (n : Int) = qii m n := by
 unfold qcl qii
 simp only [Int.ofNat_lt]
theorem zx3 (x y : Int) : FC Tryz.prog 91 [.one (.sl 1 [[.int .i64 x], [.int .i64 y]])] [iD (orE x y)] := by
 have hv : orE x y = if x = 0 then y else x := rfl
 refine zaq Tryz.call91 Tryz.func91 rfl (by kernel_rfl) (za4 (by kernel_rfl)) ?_
 simp -implicitDefEqProofs only [go_sem, Tryz.results91]
 refine zag (fun k : Nat => hd [(3, vI 0), (6, vT (.sl 1 [[.int .i64 x], [.int .i64 y]])), (7, vI (2 : Nat)), (8, vI k)] [] []) (fun k => k = 0 \/ (k = 1 /\ x = 0) \/ (k = 2 /\ x = 0 /\ y = 0)) (fun k => 2 - k) 0 (zab ?_) (Or.inl rfl) ?_
 ·simp -implicitDefEqProofs only [go_sem]
 ·rintro k (rfl | ⟨rfl, hx⟩ | ⟨rfl, hx, hy⟩)
  ·simp -implicitDefEqProofs only [go_sem, List.getD_cons_zero, List.length_cons, List.length_nil]
   refine ⟨fun h => ?_, fun h => ?_⟩
   ·rw [hv, if_neg (by simpa using h)]
   ·refine ⟨1, Or.inr (Or.inl ⟨rfl, by simpa using h⟩), by omega, zab ?_⟩
    simp -implicitDefEqProofs only [go_sem]
    rfl
  ·simp -implicitDefEqProofs only [go_sem, List.getD_cons_zero, List.getD_cons_succ, List.length_cons, List.length_nil]
   refine ⟨fun h => ?_, fun h => ?_⟩
   ·rw [hv, if_pos hx]
   ·refine ⟨2, Or.inr (Or.inr ⟨rfl, hx, by simpa using h⟩), by omega, zab ?_⟩
    simp -implicitDefEqProofs only [go_sem]
    rfl
  ·simp -implicitDefEqProofs only [go_sem, List.length_cons, List.length_nil]
   rw [hv, if_pos hx, hy]
theorem zmt (xs ys : List Tm) (hl : xs.length = ys.length) (H : ∀ x ∈ xs, ∀ y ∈ ys, FC Tryz.prog 39 [tmD x, tmD y] [iD (zew x y)]) : FC Tryz.prog 94 [.one (tmS xs), .one (tmS ys), .one (.fn 39 [])] [iD (zdt xs ys)] := by
 refine zcn (fun hw => ?_) Tryz.call94
 have hm : xs.length <= 9223372036854775807 := by simpa [zfj, wfT] using hw.1.1
 have hlt0 : ((xs.length : Int) < (ys.length : Int)) = False := eq_false (by omega)
 refine zaq Tryz.call94 Tryz.func94 rfl (by kernel_rfl) (za4 (by kernel_rfl)) ?_
 simp -implicitDefEqProofs only [go_sem, Tryz.results94]
 refine zag (fun k : Nat => hd [(0, vT (tmS xs)), (1, vT (tmS ys)), (2, vT (.fn 39 [])), (11, vT (tmS xs)), (12, vI xs.length), (13, vI k)] [] []) (fun k => k <= xs.length /\ zdt xs ys = zdt (xs.drop k) (ys.drop k)) (fun k => xs.length - k) 0 (zab ?_) ⟨Nat.zero_le _, by simp⟩ ?_
 ·simp -implicitDefEqProofs only [go_sem]
 ·intro k ⟨hk, hr⟩
  by_cases hlt : k < xs.length
  ·have hk2 : k < ys.length := by omega
   have hk3 : ((ys.length : Int) <= (k : Int)) = False := eq_false (by omega)
   have HC := H xs[k] (List.getElem_mem hlt) ys[k] (List.getElem_mem hk2)
   rw [List.drop_eq_getElem_cons hlt, List.drop_eq_getElem_cons hk2, zdt] at hr
   generalize zew xs[k] ys[k] = c at HC hr
   simp only [tmD, zaa xs[k], zaa ys[k]] at HC
   simp -implicitDefEqProofs only [go_sem, hlt, hk2, hk3, zai, zaa xs[k], zaa ys[k]]
   refine callF (HC) (by simp -implicitDefEqProofs only [go_sem]) ?_
   simp -implicitDefEqProofs only [go_sem]
   refine ⟨fun h => ?_, fun h => ?_⟩
   ·have : c ≠ 0 := by simpa using h
    unfold orE at hr
    rw [if_neg this] at hr
    rw [hr]
   ·have : c = 0 := by simpa using h
    unfold orE at hr
    rw [if_pos this] at hr
    refine ⟨k + 1, ⟨hlt, hr⟩, by omega, zab ?_⟩
    simp -implicitDefEqProofs only [go_sem]
    rw [zan (by omega)]
  ·rw [List.drop_of_length_le (by omega), List.drop_of_length_le (by omega), zdt] at hr
   rw [hr]
   simp -implicitDefEqProofs only [go_sem, hlt, hlt0]
theorem zq6 {a : Tm} (h : upT a = true) : 0 < a.name.length /\ zhn (a.name.getD 0 0) = zay a.name /\ ∀ x ∈ a.args, upT x = true := by
 rw [qbu, Bool.and_eq_true, Bool.and_eq_true, decide_eq_true_eq, beq_iff_eq, List.all_eq_true] at h
 exact ⟨h.1.1, h.1.2, h.2⟩
set_option maxHeartbeats 1000000 in
theorem zii (a b : Tm) (ha : upT a = true) (hb : upT b = true) (H : ∀ x ∈ a.args, ∀ y, upT y = true -> FC Tryz.prog 39 [tmD x, tmD y] [iD (zew x y)]) : FC Tryz.prog 39 [tmD a, tmD b] [iD (zew a b)] := by
 obtain ⟨na, ua, ra⟩ := zq6 ha
 obtain ⟨nb, ub, rb⟩ := zq6 hb
 have HV1 := zry a na
 have HV2 := zry b nb
 rw [ua] at HV1
 rw [ub] at HV2
 have hv := zlm a b
 have HS := qdl a.name b.name
 have HI := zt7 (a.args.length : Int) (b.args.length : Int)
 have HO := zx3 (zm8 a.name b.name) (qcl (a.args.length : Int) (b.args.length : Int))
 have hh : hdT a b = orE (zj4 (zay a.name) (zay b.name)) (orE (zm8 a.name b.name) (qcl (a.args.length : Int) (b.args.length : Int))) := by rw [qfy]; rfl
 rw [hh] at hv
 have hz : orE (zm8 a.name b.name) (qcl (a.args.length : Int) (b.args.length : Int)) = 0 -> a.args.length = b.args.length := fun h => by
  have h2 := (zuk.1 h).2
  unfold qcl at h2
  split at h2
  ·omega
  ·split at h2 <;> omega
 have HC := fun (h : a.args.length = b.args.length) => zmt a.args b.args h fun x hx y hy => H x hx y (rb y hy)
 generalize zm8 a.name b.name = s at HS HO hv hz
 generalize qcl (a.args.length : Int) (b.args.length : Int) = z at HI HO hv hz
 generalize orE s z = r at HO hv hz
 generalize zdt a.args b.args = q at HC hv
 simp only [tmD, zaa a, zaa b] at HV1 HV2 ⊢
 generalize zay a.name = x at HV1 hv
 generalize zay b.name = y at HV2 hv
 cases x <;> cases y
 ·have hv : zew a b = if r = 0 then q else r := hv
  refine zaq Tryz.call39 Tryz.func39 rfl (by kernel_rfl) (za4 (by kernel_rfl)) ?_
  simp -implicitDefEqProofs only [go_sem, Tryz.results39]
  refine drawn (by kernel_rfl) ?_
  simp -implicitDefEqProofs only [go_sem]
  refine zax (HV1) (by simp -implicitDefEqProofs only [go_sem]) ?_
  simp -implicitDefEqProofs only [go_sem]
  refine zax (HV2) (by simp -implicitDefEqProofs only [go_sem]) ?_
  simp -implicitDefEqProofs only [go_sem]
  refine ⟨by kernel_rfl, ?_⟩
  refine drawn (by kernel_rfl) ?_
  simp -implicitDefEqProofs only [go_sem]
  refine zax (HS) (by simp -implicitDefEqProofs only [go_sem]) ?_
  simp -implicitDefEqProofs only [go_sem]
  refine zax (HI) (by simp -implicitDefEqProofs only [go_sem]) ?_
  simp -implicitDefEqProofs only [go_sem]
  refine zre (by simp -implicitDefEqProofs only [go_sem]) ?_
  simp -implicitDefEqProofs only [go_sem]
  refine zax (HO) (by simp -implicitDefEqProofs only [go_sem]) ?_
  simp -implicitDefEqProofs only [go_sem]
  refine ⟨by kernel_rfl, fun h => ?_, fun h => ?_⟩
  ·rw [hv, if_neg (by simpa using h)]
  ·have h0 : r = 0 := by simpa using h
   rw [hv, if_pos h0]
   refine callF (HC (hz h0)) (by simp -implicitDefEqProofs only [go_sem]) ?_
   simp -implicitDefEqProofs only [go_sem]
 ·have hv : zew a b = 1 := hv
  rw [hv]
  refine zaq Tryz.call39 Tryz.func39 rfl (by kernel_rfl) (za4 (by kernel_rfl)) ?_
  simp -implicitDefEqProofs only [go_sem, Tryz.results39]
  refine drawn (by kernel_rfl) ?_
  simp -implicitDefEqProofs only [go_sem]
  refine zax (HV1) (by simp -implicitDefEqProofs only [go_sem]) ?_
  simp -implicitDefEqProofs only [go_sem]
  refine zax (HV2) (by simp -implicitDefEqProofs only [go_sem]) ?_
  simp -implicitDefEqProofs only [go_sem]
  kernel_rfl
 ·have hv : zew a b = -1 := hv
  rw [hv]
  refine zaq Tryz.call39 Tryz.func39 rfl (by kernel_rfl) (za4 (by kernel_rfl)) ?_
  simp -implicitDefEqProofs only [go_sem, Tryz.results39]
  refine drawn (by kernel_rfl) ?_
  simp -implicitDefEqProofs only [go_sem]
  refine zax (HV1) (by simp -implicitDefEqProofs only [go_sem]) ?_
  simp -implicitDefEqProofs only [go_sem]
  refine zax (HV2) (by simp -implicitDefEqProofs only [go_sem]) ?_
  simp -implicitDefEqProofs only [go_sem]
  kernel_rfl
 ·have hv : zew a b = if r = 0 then q else r := hv
  refine zaq Tryz.call39 Tryz.func39 rfl (by kernel_rfl) (za4 (by kernel_rfl)) ?_
  simp -implicitDefEqProofs only [go_sem, Tryz.results39]
  refine drawn (by kernel_rfl) ?_
  simp -implicitDefEqProofs only [go_sem]
  refine zax (HV1) (by simp -implicitDefEqProofs only [go_sem]) ?_
  simp -implicitDefEqProofs only [go_sem]
  refine zax (HV2) (by simp -implicitDefEqProofs only [go_sem]) ?_
  simp -implicitDefEqProofs only [go_sem]
  refine ⟨by kernel_rfl, ?_⟩
  refine drawn (by kernel_rfl) ?_
  simp -implicitDefEqProofs only [go_sem]
  refine zax (HS) (by simp -implicitDefEqProofs only [go_sem]) ?_
  simp -implicitDefEqProofs only [go_sem]
  refine zax (HI) (by simp -implicitDefEqProofs only [go_sem]) ?_
  simp -implicitDefEqProofs only [go_sem]
  refine zre (by simp -implicitDefEqProofs only [go_sem]) ?_
  simp -implicitDefEqProofs only [go_sem]
  refine zax (HO) (by simp -implicitDefEqProofs only [go_sem]) ?_
  simp -implicitDefEqProofs only [go_sem]
  refine ⟨by kernel_rfl, fun h => ?_, fun h => ?_⟩
  ·rw [hv, if_neg (by simpa using h)]
  ·have h0 : r = 0 := by simpa using h
   rw [hv, if_pos h0]
   refine callF (HC (hz h0)) (by simp -implicitDefEqProofs only [go_sem]) ?_
   simp -implicitDefEqProofs only [go_sem]
theorem zjz : ∀ a b : Tm, upT a = true -> upT b = true -> FC Tryz.prog 39 [tmD a, tmD b] [iD (zew a b)] := za7 fun n xs ih b ha hb => zii (.mk n xs) b ha hb fun x hx y hy => ih x hx y ((zq6 ha).2.2 x hx) hy
theorem zze (b : Bool) : FC Tryz.prog 169 [bD b] [iD (if b = true then 1 else 0)] := by
 cases b
 all_goals
  refine zaq Tryz.call169 Tryz.func169 rfl (by kernel_rfl) (za4 (by kernel_rfl)) ?_
  simp -implicitDefEqProofs only [go_sem, Tryz.results169]
theorem zw9 (x y : Bool) : qcl (if x = true then 1 else 0) (if y = true then 1 else 0) = zj4 y x := by cases x <;> cases y <;> rfl
theorem zdo (a b : Li) (ha : upT a.atom = true) (hb : upT b.atom = true) : FC Tryz.prog 124 [liD a, liD b] [iD (zdc a b)] := by
 have HT := zjz a.atom b.atom ha hb
 have HF1 := zze a.pos
 have HF2 := zze b.pos
 have HI := zt7 (if a.pos = true then 1 else 0) (if b.pos = true then 1 else 0)
 rw [zw9] at HI
 have HO := zx3 (zew a.atom b.atom) (zj4 b.pos a.pos)
 unfold zdc
 generalize zew a.atom b.atom = t at HT HO ⊢
 generalize zj4 b.pos a.pos = z at HI HO ⊢
 generalize (if a.pos = true then (1 : Int) else 0) = f1 at HF1 HI
 generalize (if b.pos = true then (1 : Int) else 0) = f2 at HF2 HI
 simp only [liD, zak, tmD, zaa a.atom, zaa b.atom] at HT ⊢
 refine zaq Tryz.call124 Tryz.func124 rfl (by kernel_rfl) (za4 (by kernel_rfl)) ?_
 simp -implicitDefEqProofs only [go_sem, Tryz.results124]
 refine drawn (by kernel_rfl) ?_
 simp -implicitDefEqProofs only [go_sem]
 refine zax (HT) (by simp -implicitDefEqProofs only [go_sem]) ?_
 simp -implicitDefEqProofs only [go_sem]
 refine zax (HF1) (by simp -implicitDefEqProofs only [go_sem]) ?_
 simp -implicitDefEqProofs only [go_sem]
 refine zax (HF2) (by simp -implicitDefEqProofs only [go_sem]) ?_
 simp -implicitDefEqProofs only [go_sem]
 refine zax (HI) (by simp -implicitDefEqProofs only [go_sem]) ?_
 simp -implicitDefEqProofs only [go_sem]
 refine zre (by simp -implicitDefEqProofs only [go_sem]) ?_
 simp -implicitDefEqProofs only [go_sem]
 refine zax (HO) (by simp -implicitDefEqProofs only [go_sem]) ?_
 simp -implicitDefEqProofs only [go_sem]
 kernel_rfl
theorem zhm (a b : Li) : FC Tryz.prog 117 [liD a, liD b] [iD (zdc a b)] := by
 have HT := zqg a.atom b.atom
 have hv : zdc a b = if zew a.atom b.atom = 0 then zj4 b.pos a.pos else zew a.atom b.atom := rfl
 rw [hv]
 generalize zew a.atom b.atom = t at HT ⊢
 simp only [liD, zak, tmD, zaa a.atom, zaa b.atom] at HT ⊢
 by_cases h : t = 0
 ·rw [if_pos h]
  subst h
  generalize a.pos = x
  generalize b.pos = y
  cases x <;> cases y
  all_goals
   refine zaq Tryz.call117 Tryz.func117 rfl (by kernel_rfl) (za4 (by kernel_rfl)) ?_
   simp -implicitDefEqProofs only [go_sem, Tryz.results117]
   refine callF (HT) (by simp -implicitDefEqProofs only [go_sem]) ?_
   simp -implicitDefEqProofs only [go_sem]
   try rfl
 ·have h2 : (t != 0) = true := by simpa using h
  rw [if_neg h]
  refine zaq Tryz.call117 Tryz.func117 rfl (by kernel_rfl) (za4 (by kernel_rfl)) ?_
  simp -implicitDefEqProofs only [go_sem, Tryz.results117]
  refine callF (HT) (by simp -implicitDefEqProofs only [go_sem, h2]) ?_
  simp -implicitDefEqProofs only [go_sem, h2]
theorem zd0 (l : Li) (hw : l.wt <= 1048576) : FC Tryz.prog 123 [liD l] [bD l.atom.atomOk] := by
 have HA := zlt l.atom (by have := l.wt_eq; omega)
 simp only [liD, zak, tmD, zaa l.atom] at HA ⊢
 refine zaq Tryz.call123 Tryz.func123 rfl (by kernel_rfl) (za4 (by kernel_rfl)) ?_
 simp -implicitDefEqProofs only [go_sem, Tryz.results123]
 refine callF (HA) (by simp -implicitDefEqProofs only [go_sem]) ?_
 simp -implicitDefEqProofs only [go_sem]
theorem ziq {c : Cq} {l : Li} (h : l ∈ c.lits) : l.wt <= c.wt := by
 have h1 := c.wt_eq
 have h2 : zd8 c.lits = c.lits.length + (c.lits.map Li.wt).sum := rfl
 have := zb1 Li.wt c.lits l h
 omega
theorem qhm {ls : List Li} {k : Nat} (hk : k < ls.length) (h : ¬ (ls[k].atom.atomOk = true /\ (0 < k -> zdc (ls[k - 1]'(by omega)) ls[k] < 0))) : dec (okc ls) = false := by
 cases hd : dec (okc ls)
 ·rfl
 ·exact absurd (zlw.1 hd k hk) h
def okb (ls : List Li) (n : Nat) : Prop := ∀ k (h : k < ls.length), k < n -> ls[k].atom.atomOk = true /\ (0 < k -> zdc (ls[k - 1]'(by omega)) ls[k] < 0)
theorem zhs {ls : List Li} {k : Nat} (h : okb ls k) (hk : k < ls.length) (h1 : ls[k].atom.atomOk = true) (h2 : 0 < k -> zdc (ls[k - 1]'(by omega)) ls[k] < 0) : okb ls (k + 1) := fun j hj hl => by
 by_cases e : j = k
 ·subst e; exact ⟨h1, h2⟩
 ·exact h j hj (by omega)
set_option maxHeartbeats 1000000 in
theorem zea (c : Cq) (hw : c.wt <= 1048576) : FC Tryz.prog 71 [cqD c] [bD c.ok] := by
 refine zcn (fun hwf => ?_) Tryz.call71
 have hlw := fun l (h : l ∈ c.lits) => Nat.le_trans (ziq h) hw
 have hv : c.ok = (decide (c.lits.length <= 8) && dec (okc c.lits)) := rfl
 have hlen : c.lits.length <= 1048576 := by
  have h1 := c.wt_eq
  have h2 : zd8 c.lits = c.lits.length + (c.lits.map Li.wt).sum := rfl
  omega
 rw [hv]
 simp only [cqD, zaw] at hwf ⊢
 generalize c.lits = ls at hlw hlen ⊢
 clear hv
 refine zaq Tryz.call71 Tryz.func71 rfl (by kernel_rfl) (za4 (by kernel_rfl)) ?_
 simp -implicitDefEqProofs only [go_sem, Tryz.results71]
 refine zag (fun k : Nat => hd [(1, .one (.bx 1 0)), (6, vT (liS ls)), (7, vI ls.length), (8, vI k)] [(1, [.t (liS ls)])] []) (fun k => k <= ls.length /\ okb ls k) (fun k => ls.length - k) 0 (zab ?_) ⟨Nat.zero_le _, fun j _ h => by omega⟩ ?_
 ·simp -implicitDefEqProofs only [go_sem]
 ·intro k ⟨hk, hr⟩
  by_cases hlt : k < ls.length
  ·have HV := zd0 ls[k] (hlw _ (List.getElem_mem hlt))
   have hno := fun h => qhm (ls := ls) hlt h
   cases ha : ls[k].atom.atomOk
   ·rw [ha] at HV
    rw [hno (fun h => by rw [ha] at h; cases h.1), Bool.and_false]
    simp only [liD, zak ls[k]] at HV
    simp -implicitDefEqProofs only [go_sem, hlt, zai, zak ls[k]]
    refine drawn (by kernel_rfl) ?_
    simp -implicitDefEqProofs only [go_sem, hlt]
    refine zax (HV) (by simp -implicitDefEqProofs only [go_sem]) ?_
    simp -implicitDefEqProofs only [go_sem]
    kernel_rfl
   ·rw [ha] at HV
    by_cases h0 : k = 0
    ·subst h0
     have hlz : ((0 : Int) < (ls.length : Int)) = True := eq_true (by omega)
     simp only [liD, zak ls[0]] at HV
     simp -implicitDefEqProofs only [go_sem, hlt, hlz, zai, zak ls[0]]
     refine drawn (by kernel_rfl) ?_
     simp -implicitDefEqProofs only [go_sem, hlt, hlz]
     refine zax (HV) (by simp -implicitDefEqProofs only [go_sem]) ?_
     simp -implicitDefEqProofs only [go_sem]
     refine ⟨by kernel_rfl, 1, ⟨hlt, zhs hr hlt ha fun h => by omega⟩, by omega, zab ?_⟩
     simp -implicitDefEqProofs only [go_sem]
     rfl
    ·obtain ⟨j, rfl⟩ : ∃ j, k = j + 1 := ⟨k - 1, by omega⟩
     have hj : j < ls.length := by omega
     have hkp : ((0 : Int) < ((j + 1 : Nat) : Int)) = True := eq_true (by omega)
     have hw1 : IntKind.i64.wrap (((j + 1 : Nat) : Int) - 1) = (j : Int) := by rw [zbt (by omega) (by omega)]; omega
     have hpa := (hr j hj (by omega)).1
     have HC := zdo ls[j] ls[j + 1] (zrd hpa) (zrd ha)
     have hno2 : 0 <= zdc ls[j] ls[j + 1] -> dec (okc ls) = false := fun h => hno fun h2 => by have := h2.2 (by omega); simp only [Nat.add_sub_cancel] at this; omega
     have hyes : zdc ls[j] ls[j + 1] < 0 -> okb ls (j + 1 + 1) := fun h => zhs hr hlt ha fun _ => by simpa using h
     generalize zdc ls[j] ls[j + 1] = q at HC hno2 hyes
     simp only [liD, zak ls[j], zak ls[j + 1]] at HV HC
     simp -implicitDefEqProofs only [go_sem, hlt, zai, zak ls[j + 1]]
     refine drawn (by kernel_rfl) ?_
     simp -implicitDefEqProofs only [go_sem, hlt, hkp, hw1, hj, zai, zak ls[j]]
     refine zax (HV) (by simp -implicitDefEqProofs only [go_sem, hkp, hw1, hj, zai, zak ls[j]]) ?_
     simp -implicitDefEqProofs only [go_sem, hkp, hw1, hj, zai, zak ls[j]]
     refine zjd (HC) (by simp -implicitDefEqProofs only [go_sem]) ?_
     simp -implicitDefEqProofs only [go_sem]
     refine ⟨by kernel_rfl, fun h => ?_, fun h => ?_⟩
     ·rw [hno2 (by simpa using h), Bool.and_false]
     ·refine ⟨j + 1 + 1, ⟨hlt, hyes (by simpa using h)⟩, by omega, zab ?_⟩
      simp -implicitDefEqProofs only [go_sem]
      rw [zan (by omega)]
  ·have hd : dec (okc ls) = true := zlw.2 fun j hj => hr j hj (by omega)
   simp -implicitDefEqProofs only [go_sem, hlt, hd]
   simp
   omega
end Go.Proofs.YtnkagnjiljjpcaaGreat
namespace Go.Proofs.YtnkagnjiljjpcaaGreat
set_option linter.unusedSimpArgs false
set_option linter.unusedVariables false
set_option linter.unusedSectionVars false
set_option maxRecDepth 4000
open Go.RowKit
set_option maxHeartbeats 1000000 in
theorem zlo (c : Cq) (hw : c.wt <= 1048576) : FC Tryz.prog 66 [cqD c] [bD c.ok] := by
 have hlw := fun l (h : l ∈ c.lits) => Nat.le_trans (ziq h) hw
 have hv : c.ok = (decide (c.lits.length <= 8) && dec (okc c.lits)) := rfl
 rw [hv]
 simp only [cqD, zaw]
 generalize c.lits = ls at hlw ⊢
 clear hv
 by_cases hl8 : ls.length <= 8
 ·have h8 : ((8 : Int) < (ls.length : Int)) = False := eq_false (by omega)
  rw [decide_eq_true hl8, Bool.true_and]
  refine zaq Tryz.call66 Tryz.func66 rfl (by kernel_rfl) (za4 (by kernel_rfl)) ?_
  simp -implicitDefEqProofs only [go_sem, Tryz.results66, h8]
  refine zag (fun k : Nat => hd [(1, .one (.bx 1 0)), (3, vI k)] [(1, [.t (liS ls)])] []) (fun k => k <= ls.length /\ okb ls k) (fun k => ls.length - k) 0 (zab ?_) ⟨Nat.zero_le _, fun j _ h => by omega⟩ ?_
  ·simp -implicitDefEqProofs only [go_sem]
  ·intro k ⟨hk, hr⟩
   by_cases hlt : k < ls.length
   ·have HV := ztg ls[k].atom (by have h1 := hlw _ (List.getElem_mem hlt); have h2 := ls[k].wt_eq; omega)
    have hno := fun h => qhm (ls := ls) hlt h
    cases ha : ls[k].atom.atomOk
    ·rw [ha] at HV
     rw [hno (fun h => by rw [ha] at h; cases h.1)]
     simp only [tmD, zaa ls[k].atom] at HV
     simp -implicitDefEqProofs only [go_sem, hlt]
     refine drawn (by kernel_rfl) ?_
     simp -implicitDefEqProofs only [go_sem, hlt, zai, zak ls[k]]
     refine zax (HV) (by simp -implicitDefEqProofs only [go_sem]) ?_
     simp -implicitDefEqProofs only [go_sem]
     kernel_rfl
    ·rw [ha] at HV
     by_cases h0 : k = 0
     ·subst h0
      have hlz : ((0 : Int) < (ls.length : Int)) = True := eq_true (by omega)
      simp only [tmD, zaa ls[0].atom] at HV
      simp -implicitDefEqProofs only [go_sem, hlt, hlz]
      refine drawn (by kernel_rfl) ?_
      simp -implicitDefEqProofs only [go_sem, hlt, hlz, zai, zak ls[0]]
      refine zax (HV) (by simp -implicitDefEqProofs only [go_sem]) ?_
      simp -implicitDefEqProofs only [go_sem]
      refine ⟨by kernel_rfl, 1, ⟨hlt, zhs hr hlt ha fun h => by omega⟩, by omega, zab ?_⟩
      simp -implicitDefEqProofs only [go_sem]
      rfl
     ·obtain ⟨j, rfl⟩ : ∃ j, k = j + 1 := ⟨k - 1, by omega⟩
      have hj : j < ls.length := by omega
      have hkp : ((0 : Int) < ((j + 1 : Nat) : Int)) = True := eq_true (by omega)
      have hw1 : IntKind.i64.wrap (((j + 1 : Nat) : Int) - 1) = (j : Int) := by rw [zbt (by omega) (by omega)]; omega
      have hpa := (hr j hj (by omega)).1
      have HC := zhm ls[j] ls[j + 1]
      have hno2 : 0 <= zdc ls[j] ls[j + 1] -> dec (okc ls) = false := fun h => hno fun h2 => by have := h2.2 (by omega); simp only [Nat.add_sub_cancel] at this; omega
      have hyes : zdc ls[j] ls[j + 1] < 0 -> okb ls (j + 1 + 1) := fun h => zhs hr hlt ha fun _ => by simpa using h
      generalize zdc ls[j] ls[j + 1] = q at HC hno2 hyes
      simp only [tmD, zaa ls[j + 1].atom] at HV
      simp only [liD, zak ls[j], zak ls[j + 1]] at HC
      simp -implicitDefEqProofs only [go_sem, hlt]
      refine drawn (by kernel_rfl) ?_
      simp -implicitDefEqProofs only [go_sem, hlt, hkp, hw1, hj, zai, zak ls[j], zak ls[j + 1]]
      refine zax (HV) (by simp -implicitDefEqProofs only [go_sem, hlt, hkp, hw1, hj, zai, zak ls[j], zak ls[j + 1]]) ?_
      simp -implicitDefEqProofs only [go_sem, hlt, hkp, hw1, hj, zai, zak ls[j], zak ls[j + 1]]
      refine zjd (HC) (by simp -implicitDefEqProofs only [go_sem]) ?_
      simp -implicitDefEqProofs only [go_sem]
      refine ⟨by kernel_rfl, fun h => ?_, fun h => ?_⟩
      ·rw [hno2 (by simpa using h)]
      ·refine ⟨j + 1 + 1, ⟨hlt, hyes (by simpa using h)⟩, by omega, zab ?_⟩
       simp -implicitDefEqProofs only [go_sem]
       rw [zan (by omega)]
   ·have hd1 : dec (okc ls) = true := zlw.2 fun j hj => hr j hj (by omega)
    simp -implicitDefEqProofs only [go_sem, hlt, hd1]
 ·have h8 : ((8 : Int) < (ls.length : Int)) = True := eq_true (by omega)
  rw [decide_eq_false hl8, Bool.false_and]
  refine zaq Tryz.call66 Tryz.func66 rfl (by kernel_rfl) (za4 (by kernel_rfl)) ?_
  simp -implicitDefEqProofs only [go_sem, Tryz.results66, h8]
def Cq.vi (c : Cq) : List Str := (c.lits.map fun l => voI l.atom).flatten
theorem vi_vo {c : Cq} (h : c.ok = true) : c.vi = c.vo := by
 unfold Cq.vi Cq.vo
 rw [List.map_congr_left fun l hl => (zxl (zlj h l hl)).1]
theorem zta (c : Cq) : c.vo.length <= c.wt := by
 have h := zh2 (fun l : Li => voS l.atom) (fun l => 1 + l.wt) c.lits fun l _ => by
  have h1 := zss l.atom
  have h2 := l.wt_eq
  omega
 rw [zln] at h
 have h1 := c.wt_eq
 have h2 : zd8 c.lits = c.lits.length + (c.lits.map Li.wt).sum := rfl
 unfold Cq.vo
 omega
theorem zvk (f : Li -> List Str) (ls : List Li) (k : Nat) (h : k < ls.length) : zbv (zbv [] ((ls.take k).map f).flatten) (f ls[k]) = zbv [] ((ls.take (k + 1)).map f).flatten := by
 rw [zdj f ls k h, zis]
theorem zwj (f : Li -> List Str) (ls : List Li) (k : Nat) (h : k < ls.length) : zb7 (zb7 [] ((ls.take k).map f).flatten) (f ls[k]) = zb7 [] ((ls.take (k + 1)).map f).flatten := by
 rw [zdj f ls k h, znf]
theorem zgy (l : List Str) : (zbv [] l).length <= l.length := by
 have := zgi l []
 simpa using this
theorem zkt (l : List Str) : (zb7 [] l).length <= l.length := by rw [<- zhu, znt]; exact zgy l
set_option maxHeartbeats 1000000 in
theorem zzt (c : Cq) (hc : c.ok = true) (hw : c.wt <= 1048576) : FC Tryz.prog 84 [cqD c] [.one (zd3 (zbv [] c.vi))] := by
 have hn := fun l (h : l ∈ c.lits) => (zxl (zlj hc l h)).2
 have hlw := fun l (h : l ∈ c.lits) => Nat.le_trans (ziq h) hw
 have hlen := zta c
 rw [<- vi_vo hc] at hlen
 have hv : c.vi = (c.lits.map fun l => voI l.atom).flatten := rfl
 rw [hv] at hlen ⊢
 have hll : c.lits.length <= 1048576 := by
  have h1 := c.wt_eq
  have h2 : zd8 c.lits = c.lits.length + (c.lits.map Li.wt).sum := rfl
  omega
 simp only [cqD, zaw]
 generalize c.lits = ls at hn hlw hlen hll ⊢
 refine zda Tryz.call84 Tryz.func84 rfl (by kernel_rfl) (za4 (by kernel_rfl)) ?_
 simp -implicitDefEqProofs only [go_sem, Tryz.results84]
 refine zcd (by simp -implicitDefEqProofs only [go_sem]) ?_
 simp -implicitDefEqProofs only [go_sem]
 refine zag (fun k : Nat => hd [(3, .one (.ow 192 0)), (8, .one (.rn (liS ls))), (9, vI ls.length), (10, vI k)] [] [(192, ⟨true, 1, (zbv [] ((ls.take k).map fun l => voI l.atom).flatten).map fun s => [T.str s], 0, true⟩)]) (fun k => k <= ls.length) (fun k => ls.length - k) 0 (zab ?_) (Nat.zero_le _) ?_
 ·simp -implicitDefEqProofs only [go_sem]
  rfl
 ·intro k hk
  by_cases hlt : k < ls.length
  ·have h1 := zco (fun l : Li => voI l.atom) ls k hlt
   have h2 := zgy ((ls.take k).map fun l => voI l.atom).flatten
   have h3 := hlw _ (List.getElem_mem hlt)
   have h4 := ls[k].wt_eq
   have HC := zol ls[k].atom (hn _ (List.getElem_mem hlt)) (by omega) (zbv [] ((ls.take k).map fun l => voI l.atom).flatten) (by omega)
   rw [zvk (fun l : Li => voI l.atom) ls k hlt] at HC
   simp only [tmD, zaa ls[k].atom] at HC
   simp -implicitDefEqProofs only [go_sem, hlt, zai, zak ls[k]]
   refine ze7 [8, 9, 10] [14, 16] [] (HC) (by simp -implicitDefEqProofs only [go_sem]) (by simp -implicitDefEqProofs only [go_sem]) (by simp -implicitDefEqProofs only [go_sem]) (by simp -implicitDefEqProofs only [go_sem]) ?_
   simp -implicitDefEqProofs only [go_sem]
   refine ⟨k + 1, hlt, by omega, zfq 192 544 ?_⟩
   simp -implicitDefEqProofs only [go_sem]
   rw [zan (by omega)]
  ·have ht : ls.take k = ls := List.take_of_length_le (by omega)
   simp -implicitDefEqProofs only [go_sem, hlt, ht]
set_option maxHeartbeats 1000000 in
theorem zu6 (c : Cq) (hw : c.wt <= 1048576) : FC Tryz.prog 82 [cqD c] [.one (zd3 (zb7 [] c.vo))] := by
 have hlw := fun l (h : l ∈ c.lits) => Nat.le_trans (ziq h) hw
 have hlen := zta c
 have hv : c.vo = (c.lits.map fun l => voS l.atom).flatten := rfl
 rw [hv] at hlen ⊢
 have hll : c.lits.length <= 1048576 := by
  have h1 := c.wt_eq
  have h2 : zd8 c.lits = c.lits.length + (c.lits.map Li.wt).sum := rfl
  omega
 simp only [cqD, zaw]
 generalize c.lits = ls at hlw hlen hll ⊢
 refine zda Tryz.call82 Tryz.func82 rfl (by kernel_rfl) (za4 (by kernel_rfl)) ?_
 simp -implicitDefEqProofs only [go_sem, Tryz.results82]
 refine zcd (by simp -implicitDefEqProofs only [go_sem]) ?_
 simp -implicitDefEqProofs only [go_sem]
 refine zag (fun k : Nat => hd [(1, .one (.bx 1 0)), (3, .one (.ow 160 0)), (4, vI k)] [(1, [.rn (liS ls)])] [(160, ⟨true, 1, (zb7 [] ((ls.take k).map fun l => voS l.atom).flatten).map fun s => [T.str s], 0, true⟩)]) (fun k => k <= ls.length) (fun k => ls.length - k) 0 (zab ?_) (Nat.zero_le _) ?_
 ·simp -implicitDefEqProofs only [go_sem]
  rfl
 ·intro k hk
  by_cases hlt : k < ls.length
  ·have h1 := zco (fun l : Li => voS l.atom) ls k hlt
   have h2 := zkt ((ls.take k).map fun l => voS l.atom).flatten
   have h3 := hlw _ (List.getElem_mem hlt)
   have h4 := ls[k].wt_eq
   have HC := zui ls[k].atom (by omega) (zb7 [] ((ls.take k).map fun l => voS l.atom).flatten) (by omega)
   rw [zwj (fun l : Li => voS l.atom) ls k hlt] at HC
   simp only [tmD, zaa ls[k].atom] at HC
   simp -implicitDefEqProofs only [go_sem, hlt, zai, zak ls[k]]
   refine ze7 [1, 4] [13, 19] [] (HC) (by simp -implicitDefEqProofs only [go_sem]) (by simp -implicitDefEqProofs only [go_sem]) (by simp -implicitDefEqProofs only [go_sem]) (by simp -implicitDefEqProofs only [go_sem]) ?_
   simp -implicitDefEqProofs only [go_sem]
   refine ⟨k + 1, hlt, by omega, zfq 160 640 ?_⟩
   simp -implicitDefEqProofs only [go_sem]
   rw [zan (by omega)]
  ·have ht : ls.take k = ls := List.take_of_length_le (by omega)
   simp -implicitDefEqProofs only [go_sem, hlt, ht]
end Go.Proofs.YtnkagnjiljjpcaaGreat
namespace Go.Proofs.YtnkagnjiljjpcaaGreat
set_option linter.unusedSimpArgs false
set_option linter.unusedVariables false
set_option linter.unusedSectionVars false
set_option maxRecDepth 4000
open Go.RowKit Go.Sort Go.Proofs
section
variable {A : Type} {c : A -> List T} {G : A -> Prop} {w w' : World} {b : Nat}
structure El (c : A -> List T) (G : A -> Prop) (w : World) (b : Nat) where
 x : A
 vs : List Value
 fp : List Nat
 own : zar w (c x) vs fp
 nb : b ∉ fp
 good : G x
theorem qg3 {cells : Array Value} {sz : Nat} : ∀ {xs : List A} {o : Nat} {fps : List Nat}, zad w cells o sz (xs.map c) fps -> b ∉ fps -> (∀ x ∈ xs, G x) →
  ∃ es : List (El c G w b), es.map El.x = xs /\ (es.map El.fp).flatten = fps /\ (∀ e ∈ es, e.vs.length = sz) /\ ∀ i (h : i < es.length) r u, es[i].vs[r]? = some u -> cells[o + i * sz + r]? = some u
 | [], o, fps, h, _, _ => by
  unfold zad at h
  subst h
  exact ⟨[], rfl, rfl, fun e he => absurd he (by simp), fun i h => absurd h (by simp)⟩
 | x :: xs, o, fps, h, hb, hG => by
  rw [List.map_cons] at h
  unfold zad at h
  obtain ⟨hl, f1, f2, rfl, h1, h2⟩ := h
  obtain ⟨vs, k1, k2, k3⟩ := za2.vals h1
  obtain ⟨es, e1, e2, e3, e4⟩ := qg3 h2 (fun hx => hb (by simp [hx])) fun y hy => hG y (by simp [hy])
  refine ⟨⟨x, vs, f1, k3, fun hx => hb (by simp [hx]), hG x (by simp)⟩ :: es, by simp [e1], by simp [e2], fun e he => ?_, fun i h r u hu => ?_⟩
  ·rcases List.mem_cons.1 he with rfl | he
   ·exact k1.trans hl
   ·exact e3 e he
  ·cases i with
   | zero => simpa using k2 r u hu
   | succ i =>
    have := e4 i (by simpa using h) r u (by simpa using hu)
    rwa [show o + (i + 1) * sz + r = o + sz + i * sz + r from by rw [Nat.add_mul]; omega]
theorem zja {cells : Array Value} {sz : Nat} : ∀ {es : List (El c G w b)} {o : Nat}, (∀ e ∈ es, (c e.x).length = sz) -> (∀ i (h : i < es.length) r u, es[i].vs[r]? = some u -> cells[o + i * sz + r]? = some u) -> (∀ k, k ∈ (es.map El.fp).flatten -> w'.heap[k]? = w.heap[k]?) →
  zad w' cells o sz ((es.map El.x).map c) (es.map El.fp).flatten
 | [], o, _, _, _ => by simp only [List.map_nil, List.flatten_nil]; unfold zad; rfl
 | e :: es, o, hl, hc, hk => by
  simp only [List.map_cons, List.flatten_cons] at hk ⊢
  unfold zad
  refine ⟨hl e (by simp), e.fp, _, rfl, za2.of_vals (e.own.keep fun k hk' => hk k (by simp [hk'])) fun j u hu => ?_, zja (fun e' he => hl e' (by simp [he])) (fun i h r u hu => ?_) fun k hk' => hk k (by simp only [List.mem_append]; exact Or.inr hk')⟩
  ·have := hc 0 (by simp) j u hu
   simpa using this
  ·have := hc (i + 1) (by simpa using h) r u (by simpa using hu)
   rwa [show o + (i + 1) * sz + r = o + sz + i * sz + r from by rw [Nat.add_mul]; omega] at this
theorem zap.oneC {t : T} {v : Value} {fp : List Nat} (h : zap w t v fp) : v.oneCell' = true := by
 cases t <;> unfold zap at h
 case int => rw [h.1]; rfl
 case bool => rw [h.1]; rfl
 case str => rw [h.1]; rfl
 case sl => obtain ⟨ao, cap, rfl, _⟩ := h; rfl
 case vs => rw [h.1]; rfl
 case pin u t => exact zap.oneC h.2
 all_goals exact h.elim
theorem zar.oneC : ∀ {cs : List T} {vs : List Value} {fp : List Nat}, zar w cs vs fp -> ∀ v ∈ vs, v.oneCell' = true
 | [], vs, fp, h, v, hv => by rw [h.1] at hv; cases hv
 | t :: cs, vs, fp, h, v, hv => by
  obtain ⟨v1, vs', f1, f2, rfl, rfl, h1, h2⟩ := h
  rcases List.mem_cons.1 hv with rfl | hv
  ·exact h1.oneC
  ·exact zar.oneC h2 v hv
theorem qb4 [Inhabited (El c G w b)] {cells : Array Value} {ty : TypeId} {sz : Nat} {es : List (El c G w b)} (hb : w.heap[b]? = some (.cells cells ty (0, 0))) (hl : ∀ e ∈ es, e.vs.length = sz) (hc : ∀ i (h : i < es.length) r u, es[i].vs[r]? = some u -> cells[0 + i * sz + r]? = some u) :
    HoldsK El.vs sz w b 0 es.toArray := by
  intro j hj
  rw [size_flatK] at hj
  have hj : j < es.length * sz := by simpa using hj
  have hs : 0 < sz := by rcases Nat.eq_zero_or_pos sz with h | h
                         · rw [h] at hj; omega
                         · exact h
  have hi : j / sz < es.length := Nat.div_lt_of_lt_mul (by rw [Nat.mul_comm]; exact hj)
  have hr : j % sz < sz := Nat.mod_lt _ hs
  have hd : 0 + j / sz * sz + j % sz = 0 + j := by have := Nat.div_add_mod' j sz; omega
  have he : es[j / sz].vs.length = sz := hl _ (List.getElem_mem hi)
  have h1 := hc (j / sz) hi (j % sz) _ (List.getElem?_eq_getElem (by rw [he]; exact hr))
  rw [hd] at h1
  refine ⟨?_, by simp [World.frozen?, hb]⟩
  rw [get_flatK _ _ _ _ (by simpa using hj)]
  simp only [World.cell?, hb, Option.isSome_none, Bool.false_eq_true, if_false]
  rw [h1]
  simp only [id, Option.some.injEq]
  rw [getElem!_pos es.toArray (j / sz) (by simpa using hi), List.getElem_toArray, getElem!_pos _ _ (by rw [he]; exact hr)]
theorem zo1 {B : Type} [Inhabited B] {enc : B -> List Value} {k n : Nat} {os : Array Obj} {cur : Array Value} {e : TypeId} {fr : Nat × Nat} (d : Array B) (hb : w.heap[b]? = some (.cells cur e fr)) :
  (sortWorldK enc k w b 0 n d os).heap[b]? = some (.cells (putCells id 0 (flatK enc k d) cur) e fr) := by
 have hg : b < w.heap.size := (Array.getElem?_eq_some_iff.1 hb).1
 unfold sortWorldK putRowK
 rw [heap_grow_old _ _ (by simpa [putRow, mapBlock] using hg)]
 simp [putRow, mapBlock, Sort.ahead, Array.getElem?_modify, hb, onCells]
theorem zc6 {B : Type} [Inhabited B] {enc : B -> List Value} {k n : Nat} {os : Array Obj} (d : Array B) : w.grownBy (sortWorldK enc k w b 0 n d os) (some b) := by
 unfold sortWorldK putRowK
 refine ⟨rfl, rfl, rfl, by simp, fun k hk hne => ?_⟩
 rw [heap_grow_old _ _ (by simpa [putRow, mapBlock] using hk)]
 have : b ≠ k := fun e => hne (by rw [e])
 simp [putRow, mapBlock, Sort.ahead, Array.getElem?_modify, this]
theorem zxv [Inhabited (El c G w b)] {cur : Array Value} {sz : Nat} {es : List (El c G w b)} (hl : ∀ e ∈ es, e.vs.length = sz) (hn : es.length * sz <= cur.size) (i : Nat) (h : i < es.length) (r : Nat) (u : Value) (hu : es[i].vs[r]? = some u) :
  (putCells id 0 (flatK El.vs sz es.toArray) cur)[0 + i * sz + r]? = some u := by
 have he : es[i].vs.length = sz := hl _ (List.getElem_mem h)
 obtain ⟨hr, hu⟩ := List.getElem?_eq_some_iff.1 hu
 have hs : 0 < sz := by omega
 have hb : i * sz + r < es.length * sz := by
  have := Nat.mul_le_mul_right sz (show i + 1 <= es.length from h)
  rw [Nat.add_mul] at this
  omega
 have h0 : 0 + i * sz + r = i * sz + r := by omega
 have hd : (i * sz + r) / sz = i := by rw [Nat.add_comm, Nat.add_mul_div_right _ _ hs, Nat.div_eq_of_lt (by omega), Nat.zero_add]
 have hm : (i * sz + r) % sz = r := by rw [Nat.add_comm, Nat.add_mul_mod_self_right, Nat.mod_eq_of_lt (by omega)]
 rw [h0]
 have hlt : i * sz + r < cur.size := by omega
 simp only [putCells, Array.getElem?_mapIdx, Array.getElem?_eq_getElem hlt, Option.map_some, Option.some.injEq]
 rw [if_pos ⟨by omega, by rw [size_flatK]; simpa using hb⟩, Nat.sub_zero, get_flatK _ _ _ _ (by simpa using hb), hd, hm, getElem!_pos es.toArray i (by simpa using h), List.getElem_toArray, getElem!_pos es[i].vs r hr]
 exact hu
end
end Go.Proofs.YtnkagnjiljjpcaaGreat
namespace Go.Proofs.YtnkagnjiljjpcaaGreat
set_option linter.unusedSimpArgs false
set_option linter.unusedVariables false
set_option linter.unusedSectionVars false
set_option maxRecDepth 4000
open Go
def RwD {α : Type} : Result α -> World
 | .ok _ w => w
 | .halt _ w => w
theorem far_dr {P : Program} {w w' : World} {a : Addr} {v : Value} {b : Bool} {l : List Addr} (h : w.farStore P a v b = .ok (w', l)) : w'.drawn = w.drawn := by
 unfold World.farStore at h
 split at h
 ·split at h
  ·rename_i r hr
   cases h
   unfold World.viewStore at hr
   simp only [bind, Except.bind, pure, Except.pure, throw, throwThe, MonadExceptOf.throw] at hr
   repeat' first
    | (cases hr; done)
    | (cases hr; rfl)
    | split at hr
  ·cases h
 ·cases h
theorem zyz {α : Type} : ∀ (s : Ask α) (w : World), w.drawn <= (w.ask s).2.drawn
 | .done _, w => Nat.le_refl _
 | .ask what range k, w => by
  unfold World.ask
  simp only []
  split
  ·exact zyz _ w
  ·exact Nat.le_trans (Nat.le_succ _) (zyz _ { w with drawn := w.drawn + 1 })
theorem sys_dr (w : World) (c : Sys) : w.drawn <= (w.sys c).2.drawn := by
 have h := zyz (Kernel.perform c w.os) w
 unfold World.sys
 split
 ·exact Nat.le_refl _
 ·rename_i e
  rw [e] at h
  exact h
theorem zz6 (w : World) (a : Addr) (n : Nat) : (w.freeze a n).drawn = w.drawn := by unfold World.freeze; split <;> rfl
theorem zs6 {α : Type} (P : Program) (s : Sem α) : ∀ w, w.drawn <= (RwD (s.run P w)).drawn := by
  induction s with
  | pure a => exact fun w => Nat.le_refl _
  | load m a k ih =>
    intro w
    simp only [Sem.run]
    split
    · exact ih _ _
    · split
      · exact ih _ _
      · exact Nat.le_refl _
  | store m a v k ih =>
    intro w
    cases v <;> simp only [Sem.run]
    all_goals first
      | exact Nat.le_refl _
      | (split
         · split
           · exact Nat.le_refl _
           · exact Nat.le_trans (Nat.le_of_eq rfl) (ih (w.setCell a _))
         · split
           · rename_i w' l h
             have := ih w'
             rw [far_dr h] at this
             exact this
           · exact Nat.le_refl _)
  | new o k ih => exact fun w => ih _ { w with heap := w.heap.push o }
  | shape r k ih => exact fun w => ih _ w
  | freeze a n k ih => exact fun w => by have := ih (w.freeze a n); rw [zz6] at this; exact this
  | frozen a k ih => exact fun w => ih _ w
  | getObj r k ih =>
    intro w
    simp only [Sem.run]
    split
    · exact Nat.le_refl _
    · exact ih _ _
    · exact Nat.le_refl _
  | setObj r o k ih =>
    intro w
    simp only [Sem.run]
    split
    · exact Nat.le_refl _
    · exact ih { w with heap := w.heap.setIfInBounds r o }
    · exact Nat.le_refl _
  | choose q k ih =>
    intro w
    simp only [Sem.run]
    split
    · exact ih _ w
    · exact Nat.le_trans (Nat.le_succ _) (ih _ { w with drawn := w.drawn + 1 })
  | sys c k ih => exact fun w => Nat.le_trans (sys_dr w c) (ih _ _)
  | program k ih => exact fun w => ih _ w
  | mark m k ih => exact fun w => ih w
  | halt h => exact fun w => Nat.le_refl _
theorem zbg {α : Type} {P : Program} {s : Sem α} {w w' : World} {a : α} (h : s.run P w = .ok a w') : w.drawn <= w'.drawn := by
 have := zs6 P s w
 rw [h] at this
 exact this
theorem zf4 {α : Type} {P : Program} {s : Sem α} {w w' : World} {x : Halt} (h : s.run P w = .halt x w') : w.drawn <= w'.drawn := by
 have := zs6 P s w
 rw [h] at this
 exact this
def GdD (w : World) : Go.GStep -> Prop
 | .go _ w' _ => w.drawn <= w'.drawn
 | .comm _ _ _ _ w' _ => w.drawn <= w'.drawn
 | .spawn _ _ w' _ => w.drawn <= w'.drawn
 | .count _ w' _ => w.drawn <= w'.drawn
 | .timer _ _ w' _ => w.drawn <= w'.drawn
 | .alone _ _ w' _ => w.drawn <= w'.drawn
 | .newcoro _ _ _ w' _ => w.drawn <= w'.drawn
 | .coroswitch _ _ _ w' _ => w.drawn <= w'.drawn
 | .collect _ w' _ => w.drawn <= w'.drawn
 | .watch _ w' _ => w.drawn <= w'.drawn
 | .ended _ _ _ => True
theorem GdD.after {w : World} {es : Array Event} {s : Go.GStep} (h : GdD w s) : GdD w (Go.GStep.after es s) := by
 cases s <;> exact h
theorem GdD.mono {w w1 : World} {s : Go.GStep} (h1 : w.drawn <= w1.drawn) (h : GdD w1 s) : GdD w s := by
 cases s <;> first | exact Nat.le_trans h1 h | trivial
theorem zus (fr : Frame) (a : List ByteArray) (m : String) (b : Bool) (w : World) : GdD w (dieOf fr a m b w) := Nat.le_refl _
theorem zdx (fr : Frame) (m : String) (w : World) : GdD w (endThrow fr m w) := zus _ _ _ _ _
theorem ze5 (P : Program) (fr : Frame) (v : Value) (w : World) : GdD w (endPrinting P fr v w) := by
 unfold endPrinting
 simp only []
 split
 ·exact zdx _ _ _
 ·trivial
theorem zv6 (w w1 : World) (fd : Nat) (t : ByteArray) (o : Outcome) : GdD w (endWith w1 fd t o) := by
 unfold endWith
 simp only []
 split
 ·split <;> trivial
 ·trivial
 ·trivial
theorem zjh (P : Program) (fr : Frame) (cs : List Frame) (d : Option Dying) (m : String) (w : World) : GdD w (endFatal P fr cs d m w) := by
 unfold endFatal
 simp only []
 split
 ·rename_i h
  exact (zus _ _ _ _ _).mono (zbg h)
 ·trivial
 ·trivial
theorem zwg (P : Program) (fr : Frame) (d : Dying) (f : Fatal) (w : World) : GdD w (writeOn P fr d f w) := by
 unfold writeOn
 simp only [Sem.runT_eq]
 split
 ·trivial
 ·split
  ·rename_i h
   simp only [Prod.mk.injEq] at h
   exact zbg h.1
  ·rename_i h
   simp only [Prod.mk.injEq] at h
   exact zf4 h.1
  ·trivial
  ·trivial
theorem die_gd (P : Program) (fr : Frame) (d : Dying) (w : World) : GdD w (die P fr d w) := by
 unfold die
 simp only [Sem.runT_eq]
 split
 ·exact zwg _ _ _ _ _
 ·split
  ·split
   ·exact Nat.le_refl _
   ·exact zv6 _ _ _ _ _
  ·split
   ·exact Nat.le_refl _
   ·split
    ·rename_i h
     exact zbg h
    ·trivial
   ·refine GdD.after ?_
    split
    ·rename_i h; exact zbg h
    ·rename_i h; exact zbg h
    ·trivial
    ·rename_i h; exact (ze5 _ _ _ _).mono (zf4 h)
    ·trivial
   ·trivial
theorem zdu (P : Program) (b : Bool) (fr : Frame) (cs : List Frame) (d : Option Dying) (v : Value) (w : World) : GdD w (doReturn P b fr cs d v w) := by
 unfold doReturn
 repeat' first
  | exact Nat.le_refl _
  | trivial
  | split
theorem qgw {w : World} {c : Prop} [Decidable c] {a b : Go.GStep} (ha : GdD w a) (hb : GdD w b) : GdD w (if c then a else b) := by
 split
 ·exact ha
 ·exact hb
theorem zje (P : Program) (fr : Frame) (cs : List Frame) (dy : Option Dying) (d : Deferred) (w : World) : GdD w (callDeferred P fr cs dy d w) := by
 unfold callDeferred
 simp only [Sem.runT_eq]
 refine qgw trivial ?_
 ·refine GdD.after ?_
  have hd := zs6 P (invoke d.target d.args) w
  generalize (invoke d.target d.args).run P w = r at hd
  rcases r with ⟨n, w'⟩ | ⟨x, w'⟩
  ·have hd : w.drawn <= w'.drawn := hd
   cases n <;> (try simp only [])
   all_goals
    repeat' first
     | exact hd
     | trivial
     | (rename_i h; cases h; done)
     | (rename_i h; cases h; exact hd)
     | split
  ·have hd : w.drawn <= w'.drawn := hd
   cases x <;> (try simp only [])
   all_goals
    repeat' first
     | exact hd
     | trivial
     | exact (zjh _ _ _ _ _ _).mono hd
     | exact (zdx _ _ _).mono hd
     | (rename_i h; cases h; done)
     | (rename_i h; cases h; exact hd)
     | split
theorem zx2 (P : Program) (b : Bool) (fr : Frame) (cs : List Frame) (dy : Option Dying) (w : World) : GdD w (unwind P b fr cs dy w) := by
 unfold unwind
 simp only [Sem.runT_eq]
 repeat' first
  | exact zje _ _ _ _ _ _
  | exact zdu _ _ _ _ _ _ _
  | exact ze5 _ _ _ _
  | exact Nat.le_refl _
  | trivial
  | refine GdD.after ?_
  | (rename_i h; exact zbg h)
  | (rename_i h; exact (zdu _ _ _ _ _ _ _).mono (zbg h))
  | split
theorem zup (P : Program) (fr : Frame) (cs : List Frame) (dy : Option Dying) (g : Nat) (w : World) : GdD w (early P fr cs dy g w) := by
 have hn : ∀ w1 : World, w.drawn <= w1.drawn -> GdD w (match w1.heap[g]? with | some (.pending c elem) => .go { frame := fr, callers := cs, status := .running, dying := dy } { w1 with heap := w1.heap.setIfInBounds g (.cells c elem) } | _ => .ended (.stuck "early: the variable does not wait" (fr.pos P)) w1) := fun w1 h1 => by
  split
  ·exact h1
  ·trivial
 unfold early
 simp only []
 repeat' first
  | exact hn _ (Nat.le_refl _)
  | exact Nat.le_refl _
  | trivial
  | (rename_i h; exact hn _ (zbg h))
  | (rename_i h; exact zbg h)
  | split
theorem zlc (P : Program) (l : Bool) (fr : Frame) (cs : List Frame) (dy : Option Dying) (s : Sem Next) (w : World) : GdD w (stepG.apply P l fr cs dy s w) := by
 have hd := zs6 P s w
 unfold stepG.apply
 have e : (if l = true then s.runT P w #[] else (s.run P w, #[])).1 = s.run P w := by cases l <;> simp
 generalize (if l = true then s.runT P w #[] else (s.run P w, #[])) = q at e
 obtain ⟨r, es⟩ := q
 simp only at e
 subst e
 simp only []
 refine GdD.after ?_
 generalize s.run P w = r at hd
 rcases r with ⟨n, w'⟩ | ⟨x, w'⟩
 ·have hd : w.drawn <= w'.drawn := hd
  cases n <;> (try simp only [])
  all_goals
   repeat' first
    | exact hd
    | trivial
    | exact (zdx _ _ _).mono hd
    | (rename_i h; cases h; done)
    | (rename_i h; cases h; exact hd)
    | split
 ·have hd : w.drawn <= w'.drawn := hd
  cases x <;> (try simp only [])
  all_goals
   repeat' first
    | exact hd
    | trivial
    | exact (zjh _ _ _ _ _ _).mono hd
    | exact (zdx _ _ _).mono hd
    | exact (zup _ _ _ _ _ _).mono hd
    | (rename_i h; cases h; done)
    | (rename_i h; cases h; exact hd)
    | (rename_i h; cases h; exact (zup _ _ _ _ _ _).mono hd)
    | split
theorem qhx (P : Program) (l : Bool) (fr : Frame) (cs : List Frame) (dy : Option Dying) (w : World) : GdD w (stepG.oper P l fr cs dy w) := by
 unfold stepG.oper
 split
 ·trivial
 ·split <;> exact zlc _ _ _ _ _ _ _
theorem zrb {α : Type} {w : World} (o : Option α) (a : Go.GStep) (f : α -> Go.GStep) (h0 : GdD w a) (h : ∀ x, GdD w (f x)) : GdD w (o.elim a f) := by
 cases o
 ·exact h0
 ·exact h _
theorem qiy (P : Program) (b l : Bool) (fr : Frame) (cs : List Frame) (dy : Option Dying) (w : World) : GdD w (stepG.exec P b l fr cs dy w) := by
 have hl : ∀ j : Option Code, GdD w (match fr.roundOf with
   | none => if (j matches none | some .ret) then .go { frame := { fr with mode := .returning }, callers := cs, status := .running, dying := dy } w else .ended (.stuck "exit, goto: no such block or label" (fr.pos P)) w
   | some lo => Go.GStep.after (seen P fr.fn ((Instr.endRound lo j).runT P w #[]).2) (match ((Instr.endRound lo j).runT P w #[]).1 with
    | .ok v w => doReturn P b fr cs dy v w
    | .halt _ w => .ended (.stuck "range over a function: no such loop" (fr.pos P)) w)) := fun j => by
  simp only [Sem.runT_eq]
  split
  ·refine qgw (Nat.le_refl _) trivial
  ·refine GdD.after ?_
   split
   ·rename_i h
    exact (zdu _ _ _ _ _ _ _).mono (zbg h)
   ·trivial
 unfold stepG.exec
 simp only []
 repeat' first
  | exact hl _
  | exact Nat.le_refl _
  | trivial
  | exact zlc _ _ _ _ _ _ _
  | exact qhx _ _ _ _ _ _
  | refine zrb _ _ _ (hl _) fun _ => ?_
  | refine zrb _ _ _ trivial fun _ => ?_
  | refine zrb _ _ _ ?_ fun _ => ?_
  | (rename_i h; simp only [Sem.runT_eq] at h; exact zbg h)
  | (rename_i h; exact zbg h)
  | (rename_i h; simp only [Sem.runT_eq] at h; exact zf4 h)
  | (rename_i h; simp only [Sem.runT_eq] at h; exact (zlc _ _ _ _ _ _ _).mono (zbg h))
  | (rename_i h; simp only [Sem.runT_eq] at h; exact (zdu _ _ _ _ _ _ _).mono (zbg h))
  | refine GdD.after ?_
  | split
theorem qfc (P : Program) (b l : Bool) (g : Goroutine) (w : World) : GdD w (stepG P b g w l) := by
 obtain ⟨fr, cs, status, dying, offers⟩ := g
 simp only [stepG]
 split
 ·exact die_gd _ _ _ _
 ·exact qiy _ _ _ _ _ _ _
 ·exact zx2 _ _ _ _ _ _
theorem zwk {rest : Rest} {cs : Array CommCase} {w w1 : World} (h : waitingAt rest cs w = some w1) : w.drawn <= w1.drawn := by
 unfold waitingAt at h
 split at h
 ·split at h
  ·cases h; exact Nat.le_refl _
  ·cases h
 ·cases h; exact Nat.le_refl _
theorem qj7 (p : Program) (rest : Rest) (gs : Array Goroutine) (i : Nat) (g : Goroutine) (cases : Array CommCase) (blocking : Bool)
  (shape : CommShape) (w : World) (m' : Machine) (h : (communicate p rest gs i g cases blocking shape w).1 = .next m') : w.drawn <= m'.world.drawn := by
 unfold communicate at h
 simp only [] at h
 repeat' first
  | (simp at h; done)
  | (simp only [Stepped.next.injEq] at h; subst h; first | exact Nat.le_refl _ | exact zwk ‹_› | (have hx := zbg ‹Sem.run p _ w = Result.ok _ _›; exact hx) | (have hx := zbg ‹Sem.run p _ w = Result.ok _ _›; have hy := zf4 ‹Sem.run p _ _ = Result.halt _ _›; exact Nat.le_trans hx hy) | (have hx := zbg ‹Sem.run p _ w = Result.ok _ _›; have hy := zbg ‹Sem.run p _ _ = Result.ok _ _›; exact Nat.le_trans hx hy))
  | split at h
theorem qbq (p : Program) (gs : Array Goroutine) (rest : Rest) (w : World) (m' : Machine)
  (h : look p gs rest w = .next m') : w.drawn <= m'.world.drawn := by
 unfold look at h
 simp only [] at h
 repeat' first
  | (simp at h; done)
  | (simp only [Stepped.next.injEq] at h; subst h; have hx := zbg ‹Sem.run p _ w = Result.ok _ _›; exact hx)
  | split at h
theorem qgk (w : World) (c : Nat) : (drain w c).2.drawn = w.drawn := by
 unfold drain
 split <;> rfl
theorem zoy (m : Machine) (k : Nat) (t : Timer) (a b : Nat) : (retime m k t a b).2.world.drawn = m.world.drawn := by
 unfold retime
 simp only []
 split
 ·exact qgk _ _
 ·rfl
theorem ztq {m m' : Machine} {var : Addr} {f : Nat -> Timer -> Value × Machine} {v : Value} (hf : ∀ k t, (f k t).2.world.drawn = m.world.drawn) (h : timerOp.named m var f = .ok (v, m')) : m.world.drawn <= m'.world.drawn := by
 unfold timerOp.named at h
 split at h
 ·rename_i k _
  have := hf k (m.rest.timers.getD k default)
  simp only [Except.ok.injEq] at h
  rw [h] at this
  exact Nat.le_of_eq this.symm
 ·cases h
theorem qfv {m m' : Machine} {op : TimerOp} {v : Value} (h : timerOp m op = .ok (v, m')) : m.world.drawn <= m'.world.drawn := by
 unfold timerOp at h
 split at h
 ·split at h
  ·simp only [Except.ok.injEq, Prod.mk.injEq] at h
   obtain ⟨_, rfl⟩ := h
   exact Nat.le_refl _
  ·split at h
   ·split at h
    ·cases h
    ·simp only [Except.ok.injEq, Prod.mk.injEq] at h
     obtain ⟨_, rfl⟩ := h
     exact Nat.le_refl _
   ·cases h
 ·exact ztq (fun k t => zoy _ _ _ _ _) h
 ·split at h
  ·rename_i m1 h1
   have h2 : m1.world.drawn = m.world.drawn := by
    unfold timerOp.opened at h1
    split at h1
    ·split at h1
     ·cases h1; rfl
     ·cases h1
    ·cases h1; rfl
   exact ztq (fun k t => (zoy _ _ _ _ _).trans h2) h
  ·cases h
 ·simp only [Except.ok.injEq, Prod.mk.injEq] at h
  obtain ⟨_, rfl⟩ := h
  exact Nat.le_refl _
theorem qfs {fr : Frame} {m : String} {w w' : World} {g : Goroutine} {es : Array Event} (h : endThrow fr m w = .go g w' es) : w.drawn <= w'.drawn := by
 unfold endThrow dieOf at h
 cases h
 exact Nat.le_refl _
theorem qh2 (p : Program) (m m' : Machine) (i : Nat) (b : Bool) (h : (runT p m i b).1 = .next m') : m.world.drawn <= m'.world.drawn := by
 simp only [runT] at h
 revert h
 generalize m.gs.swapAt! _ _ = gg
 have hs := qfc p (i == 0) b gg.1 m.world
 generalize stepG p _ gg.1 m.world b = s at hs ⊢
 intro h
 cases s <;> simp only [] at h
 all_goals first
  | (simp at h; done)
  | (have := qj7 _ _ _ _ _ _ _ _ _ _ h; exact Nat.le_trans hs this)
  | (have := qbq _ _ _ _ _ h; exact Nat.le_trans hs this)
  | (simp only [Stepped.next.injEq] at h; subst h; exact hs)
  | (repeat' first
    | (simp at h; done)
    | (simp only [Stepped.next.injEq] at h; subst h; exact hs)
    | (simp only [Stepped.next.injEq] at h; subst h; have := qfv ‹_›; exact Nat.le_trans hs this)
    | (simp only [Stepped.next.injEq] at h; subst h; have hx := qfs ‹endThrow _ _ _ = _›; exact Nat.le_trans hs hx)
    | split at h)
theorem qfr (p : Program) (m m' : Machine) (k : Nat) (h : serve p m k = .next m') : m.world.drawn <= m'.world.drawn := by
 unfold serve at h
 simp only [] at h
 repeat' first
  | (simp at h; done)
  | (simp only [Stepped.next.injEq] at h; subst h; exact Nat.le_refl _)
  | split at h
def MvD (w : World) : Move -> Prop
 | .goroutine m _ => w.drawn <= m.world.drawn
 | .machine (.next m) _ => w.drawn <= m.world.drawn
 | .machine (.ended _ _) _ => True
theorem MvD.mono {w w1 : World} {s : Move} (h1 : w.drawn <= w1.drawn) (h : MvD w1 s) : MvD w s := by
 rcases s with ⟨m, i⟩ | ⟨m | ⟨o, w⟩, ops⟩
 ·exact Nat.le_trans h1 h
 ·exact Nat.le_trans h1 h
 ·trivial
theorem qel (p : Program) (m : Machine) (k : Nat) (ops : Array MemOp) : MvD m.world (.machine (serve p m k) ops) := by
 cases h : serve p m k with
 | next m' => exact qfr p m m' k h
 | ended o w => trivial
theorem adv_ok {α : Type} {P : Program} {s : Sem α} {m : Machine} {n : Nat} {w' : World} {a : α} (h : s.run P (m.advanceTo n).world = .ok a w') : m.world.drawn <= w'.drawn := by
 have hx := zbg h
 exact hx
theorem zlp (p : Program) (m : Machine) : MvD m.world (askOn p m) := by
 unfold askOn
 simp only []
 repeat' first
  | exact Nat.le_refl _
  | trivial
  | (rename_i h; refine MvD.mono (zbg h) ?_; clear h)
  | (rename_i h; refine MvD.mono (adv_ok h) ?_; clear h)
  | exact qel _ _ _ _
  | split
theorem ask_mv (p : Program) (m : Machine) : MvD m.world (ask p m) := by
 unfold ask
 split
 ·split
  ·trivial
  ·rename_i w h
   refine MvD.mono (zbg h) ?_
   cases hl : look p m.gs m.rest w with
   | next m₂ => exact MvD.mono (qbq _ _ _ _ _ hl) (zlp p m₂)
   | ended o w => trivial
  ·rename_i h
   exact MvD.mono (zbg h) (zlp p _)
 ·exact zlp p m
theorem qjm (p : Program) (m : Machine) : MvD m.world (move p m) := by
 unfold move
 repeat' first
  | exact Nat.le_refl _
  | trivial
  | exact ask_mv p _
  | split
theorem qig {p : Program} {m m' : Machine} (h : step p m = .next m') : m.world.drawn <= m'.world.drawn := by
 have hm := qjm p m
 unfold step stepT at h
 generalize move p m = v at h hm
 rcases v with ⟨m1, i⟩ | ⟨s, ops⟩
 ·exact Nat.le_trans hm (qh2 p m1 m' i true h)
 ·simp only [] at h
  subst h
  exact hm
theorem qdv {p : Program} {m m' : Machine} (h : Steps p m m') : m.world.drawn <= m'.world.drawn := by
 obtain ⟨n, hn⟩ := h
 induction n generalizing m with
 | zero => cases hn; exact Nat.le_refl _
 | succ n ih =>
  rw [runN] at hn
  split at hn
  ·rename_i m1 h1
   exact Nat.le_trans (qig h1) (ih hn)
  ·rename_i h1
   exact absurd hn (h1 _)
theorem qdk {P : Program} {f : FuncId} {args : Array Value} {w : World} {R : Ending -> World -> Prop} (h : Calls P f args w R) : Calls P f args w fun e w' => R e w' /\ ((∃ v, e = .returned v) -> w.drawn <= w'.drawn) := fun cs => by
 obtain ⟨e, w', fr, h1, h2, h3⟩ := h cs
 refine ⟨e, w', fr, ⟨h1, ?_⟩, h2, h3⟩
 rintro ⟨v, rfl⟩
 exact qdv h2
end Go.Proofs.YtnkagnjiljjpcaaGreat
namespace Go.Proofs.YtnkagnjiljjpcaaGreat
set_option linter.unusedSimpArgs false
set_option linter.unusedVariables false
set_option linter.unusedSectionVars false
set_option maxRecDepth 4000
open Go.RowKit Go.Sort Go.Proofs Go.Shelf
theorem qbx {B : Type} {f : B -> List Nat} : ∀ {l l' : List B}, l.Perm l' -> (l.map f).flatten.Perm (l'.map f).flatten := fun h => by
 induction h with
 | nil => exact .refl _
 | cons x _ ih => simp only [List.map_cons, List.flatten_cons]; exact ih.append_left _
 | swap x y l =>
  simp only [List.map_cons, List.flatten_cons, <- List.append_assoc]
  exact (List.perm_append_comm).append_right _
 | trans _ _ i1 i2 => exact i1.trans i2
theorem zyx {B A : Type} [Inhabited B] {p : B -> A} {cf : A -> A -> Int} (hO : SWO (ltOf cf)) (hT : ∀ x y, ltOf cf x y = false -> ltOf cf y x = false -> x = y) {es : List B} {ys : List A} {d' : Array B} (hp : PermIn 0 es.toArray.size es.toArray d') (hs : SortedIn (ltOf fun x y => cf (p x) (p y)) 0 es.toArray.size d') (hxy : (es.map p).Perm ys) (hy : ys.Pairwise fun a b => ltOf cf b a = false) :
  d'.size = es.length /\ d'.toList.Perm es /\ d'.toList.map p = ys := by
 obtain ⟨p1, _, p3⟩ := hp
 have hsz : d'.size = es.length := by rw [p1]; simp
 have e1 : (d'.extract 0 es.toArray.size).toList = d'.toList := by simp [<- p1]
 have e2 : (es.toArray.extract 0 es.toArray.size).toList = es := by simp
 rw [e1, e2] at p3
 refine ⟨hsz, p3, ?_⟩
 have hpy : (d'.toList.map p).Perm ys := (p3.map p).trans hxy
 refine List.Perm.eq_of_pairwise (le := fun a b => ltOf cf b a = false) (fun a b _ _ h1 h2 => hT a b h2 h1) ?_ ?_ hpy
 ·refine List.pairwise_iff_getElem.2 fun i j hi hj hij => ?_
  have hj' : j < d'.size := by simpa using hj
  have hi' : i < d'.size := by simpa using hi
  have h := hs i j (Nat.zero_le _) hij (by rw [<- p1]; exact hj')
  rw [getElem!_pos d' j hj', getElem!_pos d' i hi'] at h
  rw [List.getElem_map, List.getElem_map, Array.getElem_toList, Array.getElem_toList]
  exact h
 ·exact hy
theorem qem {W w' : World} (h : Below W.heap.size W w') (hd : W.drawn <= w'.drawn) : ∃ q os', w' = grow (W.drewN q) os' := by
 refine ⟨w'.drawn - W.drawn, w'.heap.extract W.heap.size w'.heap.size, ?_⟩
 have hh : w'.heap = W.heap ++ w'.heap.extract W.heap.size w'.heap.size := by
  apply Array.ext_getElem?
  intro i
  by_cases hi : i < W.heap.size
  ·rw [Array.getElem?_append_left hi, h.block i hi]
  ·rw [Array.getElem?_append_right (by omega), Array.getElem?_extract]
   by_cases h2 : i < w'.heap.size
   ·rw [if_pos (by omega), show W.heap.size + (i - W.heap.size) = i by omega]
   ·rw [if_neg (by omega), Array.getElem?_eq_none (by omega)]
 obtain ⟨hp', tp', dr', os', ou'⟩ := w'
 have h1 := h.os
 have h2 := h.tape
 have h3 := h.output
 simp only at h1 h2 h3 hh hd
 unfold grow World.drewN
 subst h1 h2 h3
 simp only [World.mk.injEq, and_true, true_and]
 exact ⟨hh, by omega⟩
theorem qed {P : Program} {g : FuncId} {ds : List D} {n : Int} (H : FC P g ds [.one (.int .i64 n)]) {W : World} {vs : List Value} (hr : za3 W (fun b => b < W.heap.size) ds vs) : Calls P g ⟨vs⟩ W fun e w' => e = .returned (.int .i64 n) /\ ∃ q os', w' = grow (W.drewN q) os' := by
 refine (qdk (H.use hr)).mono ?_
 rintro e w' ⟨⟨us, fp, he, ho, _, _, bel⟩, hd⟩
 obtain ⟨u, us', f1, f2, rfl, _, hu, hus⟩ := ho
 obtain ⟨rfl, _⟩ := hus
 have hu : zap w' (.int .i64 n) u f1 := hu
 unfold zap at hu
 obtain ⟨rfl, _⟩ := hu
 exact ⟨he, qem bel (hd ⟨_, he⟩)⟩
set_option maxHeartbeats 1000000 in
theorem qim {P : Program} {ρ : Ren} (L : SlLaysF0.n6 P ρ) {A : Type} {c : A -> List T} {G : A -> Prop} {cf : A -> A -> Int} {sz : Nat} {g : FuncId} (hf : zaz P (ρ.f 6)) (aE : ∀ w, (isAgg (ρ.t 24)).run P w = .ok true w) (zE : ∀ w, (Go.sizeOf (ρ.t 24)).run P w = .ok sz w)
  (eg : zaz P g) (hc : ∀ x, (c x).length = sz) (hO : SWO (ltOf cf)) (hT : ∀ x y, ltOf cf x y = false -> ltOf cf y x = false -> x = y)
  (hcmp : ∀ x y : A, G x -> G y -> FC P g [.agg (c x), .agg (c y)] [.one (.int .i64 (cf x y))])
  (xs ys : List A) (hp : xs.Perm ys) (hr : ys.Pairwise fun a b => ltOf cf b a = false) (hg : ∀ x ∈ xs, G x) (hl : xs.length < 4611686018427387904) : IC P (ρ.f 6) [] (.one (.sl sz (xs.map c))) [.one (.fn g [])] (.one (.sl sz (ys.map c))) [] := by
 refine ⟨hf, fun w us1 v us2 fp tp h1 hgd h2 hn => ?_⟩
 rw [show us1 = [] from h1]
 obtain ⟨u, us, e0, h2, h3⟩ := h2
 rw [show us = [] from h3] at e0
 subst e0
 have h2 : zah w _ (T.fn g []) u := h2
 unfold zah at h2
 obtain ⟨cs, rfl, h4⟩ := h2
 rw [show cs = [] by unfold zac at h4; exact h4]
 have hlen : ys.length = xs.length := hp.length_eq.symm
 obtain ⟨hgd, htp⟩ := hgd
 unfold zap at hgd
 obtain ⟨ao, cap, rfl, q1, q2, q3⟩ := hgd
 rw [List.length_map] at q1 ⊢
 rcases q3 with ⟨rfl, rfl, q3, rfl⟩ | ⟨b, cells, ty, fps, rfl, rfl, q3, q4, q5⟩
 ·have hs : xs = [] := List.map_eq_nil_iff.1 q3
  subst hs
  have hy : ys = [] := List.length_eq_zero_iff.1 hlen
  subst hy
  refine (AnyF.slices_SortFunc_none L none 0 _ w).mono ?_
  rintro e w' ⟨rfl, rfl⟩
  refine ⟨[], [], [], rfl, ⟨_, [], [], [], [], [], rfl, rfl, rfl, ⟨?_, rfl⟩, rfl, rfl, rfl⟩, List.nodup_nil, by simp, Bk.refl _ _⟩
  unfold zap
  exact ⟨none, 0, by simp, by simp, by simp, Or.inl ⟨rfl, rfl, by simp, rfl⟩⟩
 ·by_cases h0 : xs = []
  ·subst h0
   have hy : ys = [] := List.length_eq_zero_iff.1 hlen
   subst hy
   refine (AnyF.slices_SortFunc_none L (some ⟨b, 0, none⟩) cap _ w).mono ?_
   rintro e w' ⟨rfl, rfl⟩
   refine ⟨[], b :: fps, tp, rfl, ⟨_, [], b :: fps, [], tp, [], rfl, by simp, by simp, ⟨?_, htp⟩, rfl, rfl, rfl⟩, hn, fun x hx => Or.inl hx, Bk.refl _ _⟩
   unfold zap
   exact ⟨_, cap, rfl, q1, q2, Or.inr ⟨b, cells, ty, fps, rfl, rfl, q3, q4, q5⟩⟩
  have hnb : b ∉ fps := (List.nodup_cons.1 hn).1
  obtain ⟨es, e1, e2, e3, e4⟩ := qg3 (G := G) (b := b) q5 hnb hg
  have hne : es ≠ [] := fun e => h0 (by rw [<- e1, e]; rfl)
  letI : Inhabited (El c G w b) := ⟨es.head hne⟩
  have hel : es.length = xs.length := by rw [<- e1, List.length_map]
  have hH := qb4 q3 e3 e4
  have hsz2 : es.toArray.size = xs.length := by simpa using hel
  have hvl : ∀ x : El c G w b, x.vs.length = sz := fun x => x.own.len.trans (hc _)
  have hblk : b < w.heap.size := (Array.getElem?_eq_some_iff.1 q3).1
  have hkeep : ∀ (W : World), w.grownBy W (some b) -> ∀ x : El c G w b, zar W (c x.x) x.vs x.fp := fun W hW x => x.own.keep fun k hk => hW.block k (x.own.lt k hk) fun e => x.nb (by cases e; exact hk)
  have hcl : CmpLays P g #[] El.vs sz (fun x y : El c G w b => cf x.x y.x) b 0 es.toArray.size w := fun m os dk _ x y => by
   have h1 := hkeep _ (zc6 (w := w) (b := b) (enc := El.vs) (k := sz) (n := m) (os := os) dk) x
   have h2 := hkeep _ (zc6 (w := w) (b := b) (enc := El.vs) (k := sz) (n := m) (os := os) dk) y
   exact (qed (hcmp x.x y.x x.good y.good) (vs := [.agg ⟨x.vs⟩, .agg ⟨y.vs⟩]) ⟨_, _, rfl, ⟨_, rfl, h1.rep h1.lt⟩, _, _, rfl, ⟨_, rfl, h2.rep h2.lt⟩, rfl⟩)
  have hO2 : SWO (ltOf fun x y : El c G w b => cf x.x y.x) := ⟨fun x => hO.irrefl x.x, fun x y z => hO.trans x.x y.x z.x, fun x y z => hO.ntrans x.x y.x z.x⟩
  have hC := AnyQ.slices_SortFunc L sz aE zE El.vs hvl (fun x v hv => x.own.oneC v hv) (fun x y : El c G w b => cf x.x y.x) hO2 g #[] b 0 cap es.toArray w eg hcl hH hblk (by rw [hsz2]; exact hl)
  rw [hsz2] at hC
  refine Calls.mono (show Calls P (ρ.f 6) _ w _ from hC) ?_
  rintro e w' ⟨rfl, d', n, os, hp', hs', rfl⟩
  rw [<- hsz2] at hp' hs'
  obtain ⟨z1, z2, z3⟩ := zyx (p := El.x) hO hT hp' hs' (by rw [e1]; exact hp) hr
  have hgr := zc6 (w := w) (b := b) (enc := El.vs) (k := sz) (n := n) (os := os) d'
  have hpm := qbx (f := El.fp) z2
  rw [e2] at hpm
  refine ⟨[], b :: (d'.toList.map El.fp).flatten, zhr (.sl sz (ys.map c)) (b :: (d'.toList.map El.fp).flatten), rfl, ⟨_, [], b :: (d'.toList.map El.fp).flatten, [], zhr (.sl sz (ys.map c)) (b :: (d'.toList.map El.fp).flatten), [], rfl, by simp, by simp, ⟨?_, rfl⟩, rfl, rfl, rfl⟩, ?_, fun x hx => Or.inl ?_, ⟨hgr.os, hgr.tape, hgr.output, hgr.size, fun k hk => hgr.block k hk.1 fun e => hk.2 (by cases e; simp)⟩⟩
  ·unfold zap
   refine ⟨_, cap, by rw [List.length_map, hlen], by rw [List.length_map, hlen]; exact q1, q2, Or.inr ⟨b, _, ty, (d'.toList.map El.fp).flatten, rfl, rfl, zo1 d' q3, by simp [putCells, q4], ?_⟩⟩
   have hcs : es.length * sz <= cells.size := by
    rw [q4, hel]
    exact Nat.mul_le_mul_right sz q1
   have := zja (w' := sortWorldK El.vs sz w b 0 n d' os) (cells := putCells id 0 (flatK El.vs sz d') cells) (sz := sz) (es := d'.toList) (o := 0) (fun e _ => hc _) (fun i h r u hu => by
    have k := zxv (cur := cells) (sz := sz) (es := d'.toList) (fun e _ => hvl e) (by rw [Array.length_toList, z1]; exact hcs) i h r u hu
    simpa using k) fun k hk => hgr.block k (by
     have : k ∈ fps := hpm.mem_iff.1 hk
     exact zad.lt _ _ _ _ _ q5 k this) fun e => hnb (by cases e; exact hpm.mem_iff.1 hk)
   rw [z3] at this
   exact this
  ·exact (List.Perm.nodup_iff (hpm.cons b)).2 hn
  ·rcases List.mem_cons.1 hx with rfl | hx
   ·simp
   ·exact List.mem_cons_of_mem _ (hpm.mem_iff.1 hx)
end Go.Proofs.YtnkagnjiljjpcaaGreat
namespace Go.Proofs.YtnkagnjiljjpcaaGreat
set_option linter.unusedSimpArgs false
set_option linter.unusedVariables false
set_option linter.unusedSectionVars false
set_option maxRecDepth 4000
open Go.RowKit Go.Sort
theorem zgv (xs : List Cq) (p : Cq -> Bool) (g : FuncId) (caps : List T) (H : ∀ x ∈ xs, FC Tryz.prog g (cqD x :: caps.map .one) [bD (p x)]) : FC Tryz.prog 83 [.one (cqS xs), .one (.fn g caps)] [iD (zsa xs p)] := by
 refine zcn (fun hw => ?_) Tryz.call83
 have hl : xs.length <= 9223372036854775807 := by simpa [zfj, wfT] using hw.1.1
 refine zaq Tryz.call83 Tryz.func83 rfl (by kernel_rfl) (za4 (by kernel_rfl)) ?_
 simp -implicitDefEqProofs only [go_sem, Tryz.results83]
 refine zag (fun k : Nat => hd [(0, vT (cqS xs)), (1, vT (.fn g caps)), (7, vI xs.length), (8, vI k)] [] []) (fun k => k <= xs.length /\ ∀ x ∈ xs.take k, p x = false) (fun k => xs.length - k) 0 (zab ?_) ?_ ?_
 ·simp -implicitDefEqProofs only [go_sem]
 ·simp
 ·intro k ⟨hk, hr⟩
  by_cases hlt : k < xs.length
  ·simp -implicitDefEqProofs only [go_sem, zai, hlt, zaw]
   refine callF (H xs[k] (List.getElem_mem hlt)) (by simp -implicitDefEqProofs only [go_sem, zaw]) ?_
   simp -implicitDefEqProofs only [go_sem, zaw]
   refine ⟨fun h => ?_, fun h => ⟨k + 1, ⟨hlt, zcu hlt hr h⟩, by omega, zab (by simp -implicitDefEqProofs only [go_sem]; rw [zan (by omega)])⟩⟩
   rw [zet hlt hr h]
  ·simp -implicitDefEqProofs only [go_sem, hlt]
   rw [List.take_of_length_le (by omega)] at hr
   rw [zf2 hr]
theorem ze0 (xs : List Cq) (p : Cq -> Bool) (g : FuncId) (caps : List T) (H : ∀ x ∈ xs, FC Tryz.prog g (cqD x :: caps.map .one) [bD (p x)]) : FC Tryz.prog 34 [.one (cqS xs), .one (.fn g caps)] [bD (xs.any p)] := by
 refine zaq Tryz.call34 Tryz.func34 rfl (by kernel_rfl) (za4 (by kernel_rfl)) ?_
 simp -implicitDefEqProofs only [go_sem, Tryz.results34]
 refine callF (zgv xs p g caps H) (by simp -implicitDefEqProofs only [go_sem]) ?_
 simp -implicitDefEqProofs only [go_sem]
 rw [zl8]
theorem zy2 {α : Type} {c : α -> α -> Int} (h : GCmp c) : SWO (ltOf c) where
 irrefl x := by have := h.self x; simp [ltOf, this]
 trans x y z h1 h2 := by
  have n1 := h.neg x y
  have n2 := h.neg y z
  have n3 := h.neg x z
  have t1 := h.tr x y z
  have t2 := h.tr z x y
  have t3 := h.tr y z x
  simp only [ltOf, decide_eq_true_eq] at *
  omega
 ntrans x y z h1 h2 := by
  have n1 := h.neg x y
  have n2 := h.neg y z
  have n3 := h.neg x z
  have t1 := h.tr z y x
  simp only [ltOf, decide_eq_false_iff_not] at *
  omega
end Go.Proofs.YtnkagnjiljjpcaaGreat
namespace Go.Proofs
open Go.Shelf
set_option maxRecDepth 100000
def Tryz.laysSL_ren : Go.Shelf.Ren := ⟨fun | 6 => 174 | 15 => 89 | 14 => 201 | 28 => 146 | 29 => 147 | 20 => 207 | 21 => 208 | 22 => 209 | 23 => 210 | 24 => 211 | 25 => 212 | 26 => 213 | 27 => 214 | 46 => 217 | 47 => 180 | 48 => 181 | 49 => 218 | 50 => 219 | 57 => 220 | n => n, fun | 22 => 49 | 24 => 63 | 25 => 130 | 3 => 3 | 39 => 111 | 0 => 0 | 53 => 157 | 55 => 159 | 4 => 4 | 46 => 150 | 45 => 149 | 50 => 154 | 5 => 5 | 9 => 9 | 66 => 180 | 70 => 184 | 76 => 198 | 77 => 199 | n => n, fun | n => n⟩
theorem Tryz.laysSL : Go.Proofs.SlLaysF0.n6 Tryz.prog Tryz.laysSL_ren := {
 mixed := by kernel_rfl
 f6 := ⟨Tryz.f174.name, by decide, Tryz.func174.trans (congrArg some (by kernel_rfl))⟩
 f14 := ⟨Tryz.f201.name, by decide, Tryz.func201.trans (congrArg some (by kernel_rfl))⟩
 f15 := Tryz.func89.trans (congrArg some (by kernel_rfl))
 f20 := ⟨Tryz.f207.name, by decide, Tryz.func207.trans (congrArg some (by kernel_rfl))⟩
 f21 := ⟨Tryz.f208.name, by decide, Tryz.func208.trans (congrArg some (by kernel_rfl))⟩
 f22 := ⟨Tryz.f209.name, by decide, Tryz.func209.trans (congrArg some (by kernel_rfl))⟩
 f23 := ⟨Tryz.f210.name, by decide, Tryz.func210.trans (congrArg some (by kernel_rfl))⟩
 f24 := ⟨Tryz.f211.name, by decide, Tryz.func211.trans (congrArg some (by kernel_rfl))⟩
 f25 := ⟨Tryz.f212.name, by decide, Tryz.func212.trans (congrArg some (by kernel_rfl))⟩
 f26 := ⟨Tryz.f213.name, by decide, Tryz.func213.trans (congrArg some (by kernel_rfl))⟩
 f27 := ⟨Tryz.f214.name, by decide, Tryz.func214.trans (congrArg some (by kernel_rfl))⟩
 f28 := Tryz.func146.trans (congrArg some (by kernel_rfl))
 f29 := Tryz.func147.trans (congrArg some (by kernel_rfl))
 f46 := ⟨Tryz.f217.name, by decide, Tryz.func217.trans (congrArg some (by kernel_rfl))⟩
 f47 := Tryz.func180.trans (congrArg some (by kernel_rfl))
 f48 := Tryz.func181.trans (congrArg some (by kernel_rfl))
 f49 := ⟨Tryz.f218.name, by decide, Tryz.func218.trans (congrArg some (by kernel_rfl))⟩
 f50 := ⟨Tryz.f219.name, by decide, Tryz.func219.trans (congrArg some (by kernel_rfl))⟩
 f57 := ⟨Tryz.f220.name, by decide, Tryz.func220.trans (congrArg some (by kernel_rfl))⟩
 t0 := Tryz.underlying0
 a0 := Tryz.isAgg0
 z0 := Tryz.sizeOf0
 v0 := Tryz.zeroValue0
 t3 := Tryz.underlying3
 a3 := Tryz.isAgg3
 z3 := Tryz.sizeOf3
 v3 := Tryz.zeroValue3
 t4 := Tryz.underlying4
 a4 := Tryz.isAgg4
 z4 := Tryz.sizeOf4
 v4 := Tryz.zeroValue4
 t5 := Tryz.underlying5
 a5 := Tryz.isAgg5
 z5 := Tryz.sizeOf5
 v5 := Tryz.zeroValue5
 t9 := Tryz.underlying9
 a9 := Tryz.isAgg9
 z9 := Tryz.sizeOf9
 v9 := Tryz.zeroValue9
 t22 := Tryz.underlying49
 a22 := Tryz.isAgg49
 z22 := Tryz.sizeOf49
 v22 := Tryz.zeroValue49
 t25 := Tryz.underlying130
 a25 := Tryz.isAgg130
 z25 := Tryz.sizeOf130
 v25 := Tryz.zeroValue130
 t39 := Tryz.underlying111
 a39 := Tryz.isAgg111
 z39 := Tryz.sizeOf111
 v39 := Tryz.zeroValue111
 t45 := Tryz.underlying149
 a45 := Tryz.isAgg149
 z45 := Tryz.sizeOf149
 v45 := Tryz.zeroValue149
 t46 := Tryz.underlying150
 a46 := Tryz.isAgg150
 z46 := Tryz.sizeOf150
 v46 := Tryz.zeroValue150
 t50 := Tryz.underlying154
 a50 := Tryz.isAgg154
 z50 := Tryz.sizeOf154
 v50 := Tryz.zeroValue154
 t53 := Tryz.underlying157
 a53 := Tryz.isAgg157
 z53 := Tryz.sizeOf157
 v53 := Tryz.zeroValue157
 t55 := Tryz.underlying159
 a55 := Tryz.isAgg159
 z55 := Tryz.sizeOf159
 v55 := Tryz.zeroValue159
 t66 := Tryz.underlying180
 a66 := Tryz.isAgg180
 z66 := Tryz.sizeOf180
 v66 := Tryz.zeroValue180
 t70 := Tryz.underlying184
 a70 := Tryz.isAgg184
 z70 := Tryz.sizeOf184
 v70 := Tryz.zeroValue184
 t76 := Tryz.underlying198
 a76 := Tryz.isAgg198
 z76 := Tryz.sizeOf198
 v76 := Tryz.zeroValue198
 t77 := Tryz.underlying199
 a77 := Tryz.isAgg199
 z77 := Tryz.sizeOf199
 v77 := Tryz.zeroValue199 }
end Go.Proofs
namespace Go.Proofs.YtnkagnjiljjpcaaGreat
set_option linter.unusedSimpArgs false
set_option linter.unusedVariables false
set_option linter.unusedSectionVars false
set_option maxRecDepth 4000
open Go.RowKit
theorem zyw (a b : Cq) : same a b = same a.lits b.lits := by
 cases a; cases b
 rw [Bool.eq_iff_iff]
 simp only [zbj, Cq.mk.injEq]
theorem zoa (a b : Cq) : FC Tryz.prog 134 [cqD a, cqD b] [bD (same a b)] := by
 have H := zgc a.lits b.lits same 176 [] fun x _ y _ => zgl x y
 rw [zmq fun _ _ _ => rfl] at H
 simp only [cqD, zaw]
 refine zaq Tryz.call134 Tryz.func134 rfl (by kernel_rfl) (za4 (by kernel_rfl)) ?_
 simp -implicitDefEqProofs only [go_sem, Tryz.results134]
 refine callF (H) (by simp -implicitDefEqProofs only [go_sem]) ?_
 simp -implicitDefEqProofs only [go_sem]
 rw [zyw]
theorem zp0 (a b : Cq) : FC Tryz.prog 133 [cqD a, .one (.ptr (cqC b))] [bD (same a b)] := by
 have H := zoa a b
 simp only [cqD, zaw] at H ⊢
 refine zaq Tryz.call133 Tryz.func133 rfl (by kernel_rfl) (za4 (by kernel_rfl)) ?_
 simp -implicitDefEqProofs only [go_sem, Tryz.results133]
 refine callF (H) (by simp -implicitDefEqProofs only [go_sem]) ?_
 simp -implicitDefEqProofs only [go_sem]
theorem zrx (cs : List Cq) (b : Cq) : FC Tryz.prog 79 [.one (cqS cs), cqD b] [bD (cs.any fun a => same a b)] := by
 have H := ze0 cs (fun a => same a b) 133 [.ptr (cqC b)] fun x _ => zp0 x b
 simp only [cqD, zaw] at H ⊢
 refine zaq Tryz.call79 Tryz.func79 rfl (by kernel_rfl) (za4 (by kernel_rfl)) ?_
 simp -implicitDefEqProofs only [go_sem, Tryz.results79]
 refine callF (H) (by simp -implicitDefEqProofs only [go_sem]) ?_
 simp -implicitDefEqProofs only [go_sem]
theorem zl2 (a : Li) (hw : a.wt <= 1048576) : FC Tryz.prog 173 [liD a] [liD a] := by
 have H := zkj a.atom hw
 simp only [tmD, zaa a.atom] at H
 simp only [liD, zak]
 refine zaq Tryz.call173 Tryz.func173 rfl (by kernel_rfl) (za4 (by kernel_rfl)) ?_
 simp -implicitDefEqProofs only [go_sem, Tryz.results173]
 refine drawn (by kernel_rfl) ?_
 simp -implicitDefEqProofs only [go_sem]
 refine zax (H) (by simp -implicitDefEqProofs only [go_sem]) ?_
 simp -implicitDefEqProofs only [go_sem]
 kernel_rfl
theorem zk7 (a : Li) (hw : a.wt <= 1048576) : FC Tryz.prog 130 [liD a] [bD (!a.atom.atomOk)] := by
 have H := zd0 a hw
 simp only [liD, zak] at H ⊢
 refine zaq Tryz.call130 Tryz.func130 rfl (by kernel_rfl) (za4 (by kernel_rfl)) ?_
 simp -implicitDefEqProofs only [go_sem, Tryz.results130]
 refine callF (H) (by simp -implicitDefEqProofs only [go_sem]) ?_
 simp -implicitDefEqProofs only [go_sem]
theorem zv0 (xs ys : List Li) (hp : xs.Perm ys) (hr : ys.Pairwise fun a b => ltOf zdc b a = false) (hg : ∀ x ∈ xs, upT x.atom = true) (hl : xs.length < 4611686018427387904) : IC Tryz.prog 174 [] (.one (liS xs)) [.one (.fn 124 [])] (.one (liS ys)) [] :=
 qim (G := fun x => upT x.atom = true) (cf := zdc) Tryz.laysSL Tryz.call174 (fun w => Tryz.isAgg63 w) (fun w => Tryz.sizeOf63 w) Tryz.call124 (fun x => by rw [zak]; rfl) (zy2 zce)
  (fun x y h1 h2 => by
   have n1 := zce.neg x y
   unfold ltOf at h1 h2
   rw [decide_eq_false_iff_not] at h1 h2
   exact zel.1 (by omega)) (fun x y h1 h2 => zdo x y h1 h2) xs ys hp hr hg hl
def zux (ls : List Li) : List Li := ls.mergeSort fun a b => !ltOf zdc b a
theorem zec (ls : List Li) : (zux ls).Perm ls := List.mergeSort_perm _ _
theorem ztv (ls : List Li) : (zux ls).Pairwise fun a b => ltOf zdc b a = false := by
 have := List.pairwise_mergeSort (le := fun a b => !ltOf zdc b a) (fun a b c h1 h2 => ?_) (fun a b => ?_) ls
 ·exact this.imp fun h => by simpa using h
 ·have hO := zy2 zce
  simp only [Bool.not_eq_true'] at h1 h2 ⊢
  exact hO.ntrans c b a h2 h1
 ·have n1 := zce.neg a b
  simp only [ltOf, Bool.or_eq_true, Bool.not_eq_true', decide_eq_false_iff_not]
  omega
end Go.Proofs.YtnkagnjiljjpcaaGreat
namespace Go.Proofs.YtnkagnjiljjpcaaGreat
set_option linter.unusedSimpArgs false
set_option linter.unusedVariables false
set_option linter.unusedSectionVars false
set_option maxRecDepth 4000
open Go.RowKit
set_option maxHeartbeats 2000000 in
theorem zvl (ls : List Li) (hg : ∀ l ∈ ls, upT l.atom = true) (hw : ∀ l ∈ ls, l.wt <= 1048576) (hlen : ls.length <= 1048576) : FC Tryz.prog 132 [.one (liS ls)] [cqD ⟨zv2 (zux ls)⟩] := by
 have HS := zv0 ls (zux ls) (zec ls).symm (ztv ls) hg (by omega)
 have HC := zk8 (zux ls) (by rw [(zec ls).length_eq]; exact hlen)
 simp only [cqD, zaw]
 refine zda Tryz.call132 Tryz.func132 rfl (by kernel_rfl) (za4 (by kernel_rfl)) ?_
 simp -implicitDefEqProofs only [go_sem, Tryz.results132]
 refine zag (fun k : Nat => hd [(2, .one (.bx 2 0)), (3, .one (.bx 3 0)), (7, .one (.rn (liS ls))), (8, vI ls.length), (9, vI k)] [(2, [.nl 3]), (3, [.ow 3000 0])] [(3000, ⟨true, 3, (ls.take k).map liC, 0, true⟩)]) (fun k => k <= ls.length) (fun k => ls.length - k) 0 (zab ?_) (Nat.zero_le _) ?_
 ·simp -implicitDefEqProofs only [go_sem]
 ·intro k hk
  by_cases hlt : k < ls.length
  ·have hmin : min k ls.length <= 4294967295 := by omega
   have HL := zl2 ls[k] (hw _ (List.getElem_mem hlt))
   simp only [liD, zak] at HL
   simp -implicitDefEqProofs only [go_sem, zai, hlt, zak]
   refine drawn (by kernel_rfl) ?_
   simp -implicitDefEqProofs only [go_sem]
   refine zax (HL) (by simp -implicitDefEqProofs only [go_sem]) ?_
   simp -implicitDefEqProofs only [go_sem]
   refine zbh (by simp -implicitDefEqProofs only [go_sem]) ?_
   simp -implicitDefEqProofs only [go_sem]
   refine zhq true (by simp -implicitDefEqProofs only [go_sem, ne_eq, List.length_map, List.length_take, hmin]) ?_
   simp -implicitDefEqProofs only [go_sem, ne_eq, List.length_map, List.length_take, hmin]
   refine ⟨by kernel_rfl, k + 1, hlt, by omega, zab ?_⟩
   simp -implicitDefEqProofs only [go_sem]
   rw [zan (by omega), List.take_succ_eq_append_getElem hlt, List.map_append, List.map_singleton, zak ls[k]]
   trivial
  ·have ht : ls.take k = ls := List.take_of_length_le (by omega)
   simp -implicitDefEqProofs only [go_sem, hlt, ht]
   refine zmr [2, 3, 22] (HS) (by simp -implicitDefEqProofs only [go_sem]) (by simp -implicitDefEqProofs only [go_sem]) (by simp -implicitDefEqProofs only [go_sem]) (by simp -implicitDefEqProofs only [go_sem]) (by simp -implicitDefEqProofs only [go_sem]) rfl ?_
   simp -implicitDefEqProofs only [go_sem]
   refine zqt (σ' := hd [(2, .one (.bx 2 0)), (3, .one (.bx 3 0)), (25, .one (.ow 3000 0))] [(2, [.nl 3]), (3, [.any])] [(3000, ⟨true, 3, (zux ls).map liC, 0, true⟩)]) (zab ?_) rfl rfl ?_
   ·simp -implicitDefEqProofs only [go_sem]
   refine ze7 [2, 3] [25] [] (HC) (by simp -implicitDefEqProofs only [go_sem]) (by simp -implicitDefEqProofs only [go_sem]) (by simp -implicitDefEqProofs only [go_sem]) (by simp -implicitDefEqProofs only [go_sem]) ?_
   simp -implicitDefEqProofs only [go_sem]
end Go.Proofs.YtnkagnjiljjpcaaGreat
