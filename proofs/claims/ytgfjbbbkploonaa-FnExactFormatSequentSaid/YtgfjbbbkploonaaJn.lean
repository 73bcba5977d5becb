/-
  strings.Join, by the library's own contract, as a contract over plain data.
  Conditions: the whole result is at most 2^47 bytes.
-/
import Derived.Shelf.Strings.OnBuilder
import Derived.Test.YtgfjbbbkploonaaSxT
namespace Go.Proofs
open Go.Shelf
def Try.lays156_ren : Go.Shelf.Ren := ⟨fun | 156 => 63 | 165 => 85 | 166 => 86 | 169 => 87 | 240 => 107 | 241 => 108 | 276 => 124 | 277 => 125 | n => n, fun | 31 => 81 | 9 => 9 | 3 => 3 | 4 => 4 | 0 => 0 | 20 => 20 | 72 => 97 | 76 => 101 | 70 => 95 | 37 => 93 | 75 => 100 | 127 => 109 | 164 => 116 | 5 => 5 | 80 => 103 | n => n, fun | n => n⟩
theorem Try.lays156 : Go.Proofs.Lays.n156 Try.prog Try.lays156_ren := {
  mixed := by kernel_rfl
  f156 := Try.func63.trans (congrArg some (by kernel_rfl))
  f165 := Try.func85.trans (congrArg some (by kernel_rfl))
  f166 := Try.func86.trans (congrArg some (by kernel_rfl))
  f169 := Try.func87.trans (congrArg some (by kernel_rfl))
  f240 := Try.func107.trans (congrArg some (by kernel_rfl))
  f241 := Try.func108.trans (congrArg some (by kernel_rfl))
  f276 := Try.func124.trans (congrArg some (by kernel_rfl))
  f277 := Try.func125.trans (congrArg some (by kernel_rfl))
  t0 := Try.underlying0
  a0 := Try.isAgg0
  z0 := Try.sizeOf0
  v0 := Try.zeroValue0
  t3 := Try.underlying3
  a3 := Try.isAgg3
  z3 := Try.sizeOf3
  v3 := Try.zeroValue3
  t4 := Try.underlying4
  a4 := Try.isAgg4
  z4 := Try.sizeOf4
  v4 := Try.zeroValue4
  t9 := Try.underlying9
  a9 := Try.isAgg9
  z9 := Try.sizeOf9
  v9 := Try.zeroValue9
  t20 := Try.underlying20
  a20 := Try.isAgg20
  z20 := Try.sizeOf20
  v20 := Try.zeroValue20
  t31 := Try.underlying81
  a31 := Try.isAgg81
  z31 := Try.sizeOf81
  v31 := Try.zeroValue81
  t37 := Try.underlying93
  a37 := Try.isAgg93
  z37 := Try.sizeOf93
  v37 := Try.zeroValue93
  t70 := Try.underlying95
  a70 := Try.isAgg95
  z70 := Try.sizeOf95
  v70 := Try.zeroValue95
  t72 := Try.underlying97
  a72 := Try.isAgg97
  z72 := Try.sizeOf97
  v72 := Try.zeroValue97
  t75 := Try.underlying100
  a75 := Try.isAgg100
  z75 := Try.sizeOf100
  v75 := Try.zeroValue100
  t76 := Try.underlying101
  a76 := Try.isAgg101
  z76 := Try.sizeOf101
  v76 := Try.zeroValue101
  t127 := Try.underlying109
  a127 := Try.isAgg109
  z127 := Try.sizeOf109
  v127 := Try.zeroValue109
  t164 := Try.underlying116
  a164 := Try.isAgg116
  z164 := Try.sizeOf116
  v164 := Try.zeroValue116 }
theorem Try.Builder_Extra_156 : Builder.Extra Try.prog Try.lays156_ren := {
  sizeBuilder := by kernel_rfl
  liesBuilder := by kernel_rfl
  t5 := Try.underlying5
  a5 := Try.isAgg5
  z5 := Try.sizeOf5
  v5 := Try.zeroValue5
  infoByte := by kernel_rfl
  cellsByte := by kernel_rfl
  sizeByte := by kernel_rfl
  neB5 := by decide }
end Go.Proofs
namespace Go.Proofs.Ytgfjbbbkploonaa
set_option linter.unusedSimpArgs false
set_option linter.unusedVariables false
open Go.RowKit
theorem GArgs.rds {w : World} {A : Nat → Prop} : ∀ {ds : List D} {vs : List Value} {fp tp : List Nat}, GArgs w A (rd ds) vs fp tp → fp = [] ∧ tp = [] ∧ RepDs w A ds vs
  | [], _, _, _, ⟨h1, h2, h3⟩ => ⟨h2, h3, h1⟩
  | d :: ds, _, _, _, h => by
    obtain ⟨v, vs', rfl, h1, h2⟩ := h
    obtain ⟨h3, h4, h5⟩ := GArgs.rds h2
    exact ⟨h3, h4, v, vs', rfl, h1, h5⟩
/-- A contract of the library's, whose answer is one flat value, as a contract over plain data. -/
theorem FC_lib {P : Program} {f : FuncId} {args : List D} {t : T} {v : Value} (hc : Callable P f) (hv : ∀ w, OwnV w t v []) (h : ∀ w vs, RepDs w (· < w.heap.size) args vs → Calls P f ⟨vs⟩ w fun e w' => e = .returned v ∧ Below w.heap.size w w') (htop : topT t [] = []) : FC P f args [.one t] := by
  refine ⟨hc, fun w vs fp tp ha hn => ?_⟩
  obtain ⟨rfl, rfl, hr⟩ := ha.rds
  refine (h w vs ?_).mono ?_
  · simpa using hr
  · rintro e w' ⟨rfl, hb⟩
    refine ⟨[v], [], [], rfl, ⟨v, [], [], [], [], [], rfl, rfl, rfl, ⟨hv w', htop.symm⟩, rfl, rfl, rfl⟩, List.nodup_nil, by simp, ?_⟩
    exact ⟨hb.os, hb.tape, hb.output, hb.size, fun k hk => hb.block k hk.1⟩
/-- The cells of a slice of strings. -/
theorem rep_strs {w : World} {A : Nat → Prop} {b o : Nat} {xs : List (List UInt8)} (h : RepRows w A b o 1 (xs.map fun s => [.str s])) : ∀ (j : Nat) (x : ByteArray), (xs.map fun s => (⟨s.toArray⟩ : ByteArray))[j]? = some x → w.cell? ⟨b, o + j, none⟩ = some (.string x) := by
  intro j x hj
  rw [List.getElem?_map] at hj
  obtain ⟨s, hs, rfl⟩ := Option.map_eq_some_iff.1 hj
  obtain ⟨_, h2⟩ := RepRows.at h j [.str s] (by rw [List.getElem?_map, hs]; rfl)
  obtain ⟨v, h3, h4⟩ := RepAt.at h2 0 _ rfl
  unfold RepV at h4
  rw [h4.1] at h3
  simpa using h3
theorem strings_join (xs : List (List UInt8)) (sep : List UInt8) (hl : (Lib.join xs sep).length ≤ 140737488355328) (hn : xs.length ≤ 140737488355328) : FC Try.prog 63 [.one (.sl 1 (xs.map fun s => [.str s])), .one (.str sep)] [.one (.str (Lib.join xs sep))] := by
  have hmap : (xs.map fun s => (⟨s.toArray⟩ : ByteArray)).map (·.data.toList) = xs := by
    rw [List.map_map]
    exact (List.map_congr_left fun s _ => by simp).trans (List.map_id xs)
  refine FC_lib (v := .string ⟨(Lib.join xs sep).toArray⟩) Try.call63 (fun w => ?_) (fun w vs h => ?_) rfl
  · unfold OwnV
    exact ⟨rfl, by unfold maxI; omega, rfl⟩
  · obtain ⟨v1, _, rfl, h1, v2, _, rfl, h2, rfl⟩ := h
    unfold RepD RepV at h1 h2
    obtain ⟨ao, cap, rfl, k1, k2, k3⟩ := h1
    obtain ⟨rfl, _⟩ := h2
    rw [List.length_map] at k1 ⊢
    rcases k3 with k3 | ⟨b, o, rfl, hb, k3⟩
    · have : xs = [] := List.map_eq_nil_iff.1 k3
      subst this
      refine (Any.strings_Join_none Try.lays156 Try.Builder_Extra_156 ao cap ⟨sep.toArray⟩ w).mono ?_
      rintro e w' ⟨rfl, rfl⟩
      exact ⟨rfl, rfl, rfl, rfl, Nat.le_refl _, fun _ _ => rfl⟩
    · have := Any.strings_Join Try.lays156 Try.Builder_Extra_156 b o cap (xs.map fun s => (⟨s.toArray⟩ : ByteArray)) ⟨sep.toArray⟩ w (rep_strs k3) hb (by simpa using hn) (by simpa using k1) (by rw [hmap]; simpa using hl)
      rw [hmap, List.length_map] at this
      exact this
end Go.Proofs.Ytgfjbbbkploonaa
