/-
  Contracts of functions of the program and of its laws, over plain data.
  Conditions: those that each theorem names.
-/
import Derived.Test.YtgfjbbbkploonaaF2
namespace Go.Proofs.Ytgfjbbbkploonaa
set_option linter.unusedSimpArgs false
set_option linter.unusedVariables false
open Go.RowKit
def signT : T := .mp false [[.int .i64 5, .str [32, 38, 32]], [.int .i64 6, .str [32, 124, 32]], [.int .i64 7, .str [32, 61, 62, 32]]]
theorem run_mapPush {P : Program} {mt kt et : TypeId} {d : TypeDesc} (hm : P.underlying mt = some (.map kt et)) (hd : P.underlying kt = some d) {w : World} {r : Nat} {es : Array MapEntry} {clk : Nat} {key val : Value} (hb : w.heap[r]? = some (.map es clk)) (hk : Go.MapKept.IsKey d key) (hf : Instr.findNow d key es.toList 0 = some none) :
    (Instr.mapUpdate mt (.map (some r)) key val).run P w = .ok () { w with heap := w.heap.setIfInBounds r (.map (es.push { key, val, born := clk }) (clk + 1)) } := by
  simp [Instr.mapUpdate, run_underlying hm, Go.MapKept.run_getObj_map hb, Go.MapKept.run_checkKey hd hk, Go.MapKept.run_findKey hd hf, Go.MapKept.run_setObj_map _ hb, Result.andThen]
theorem run_makeMap0 {P : Program} {mt : TypeId} {w : World} : (Instr.makeMap mt none).run P w = .ok (.map (some w.heap.size)) (w.alloc (.map #[] 0)) := by
  simp [Instr.makeMap, Result.andThen]
theorem mapPush_ex {P : Program} {mt kt et : TypeId} {d : TypeDesc} (hm : P.underlying mt = some (.map kt et)) (hd : P.underlying kt = some d) {w0 w : World} {r : Nat} {es : Array MapEntry} {clk : Nat} {key val : Value} (hb : w.heap[r]? = some (.map es clk)) (hk : Go.MapKept.IsKey d key) (hf : Instr.findNow d key es.toList 0 = some none) {B : Nat} (hB : Below B w0 w) (hr : B ≤ r) :
    ∃ w', (Instr.mapUpdate mt (.map (some r)) key val).run P w = .ok () w' ∧ w'.heap[r]? = some (.map (es.push { key, val, born := clk }) (clk + 1)) ∧ Below B w0 w' := by
  refine ⟨_, run_mapPush hm hd hb hk hf, (Go.MapKept.heap_set hb).1, hB.os, hB.tape, hB.output, ?_, fun k hk => ?_⟩
  · simpa using hB.size
  · exact ((Go.MapKept.heap_set hb).2 k (by omega)).trans (hB.block k hk)
theorem ents_is {w : World} {A : Nat → Prop} {k : Int} {s : List UInt8} {rows : List (List T)} {e : MapEntry} {es : List MapEntry} (he : e.key = .int .i64 k) (hv : e.val = .string ⟨s.toArray⟩) (h1 : IntKind.i64.min ≤ k) (h2 : k ≤ IntKind.i64.max) (hs : s.length ≤ maxI) (h : RepEnts w A false rows es) : RepEnts w A false ([.int .i64 k, .str s] :: rows) (e :: es) := by
  unfold RepEnts
  refine ⟨e, es, [e.val], rfl, by simp, ?_, h⟩
  unfold RepAll
  refine ⟨_, _, rfl, by unfold RepV; exact ⟨he, h1, h2⟩, ?_⟩
  unfold RepAll
  refine ⟨_, _, rfl, by unfold RepV; exact ⟨hv, hs⟩, ?_⟩
  unfold RepAll
  rfl
set_option maxRecDepth 100000 in
theorem signs_c : RC Try.prog 106 [] [.one signT] := by
  refine ⟨Try.call106, fun w vs A hv => ?_⟩
  obtain rfl : vs = [] := hv
  go_enter Try.func106, Try.ntmps106
  go_wp2
  rw [run_makeMap0]
  have hb0 : (w.alloc (.map #[] 0)).heap[w.heap.size]? = some (.map #[] 0) := (Go.MapKept.heap_alloc w _).1
  have B0 : Below w.heap.size w (w.alloc (.map #[] 0)) := ⟨rfl, rfl, rfl, by show w.heap.size ≤ (w.heap.push _).size; rw [Array.size_push]; omega, (Go.MapKept.heap_alloc w _).2⟩
  generalize w.alloc (.map #[] 0) = w0 at hb0 B0 ⊢
  simp only [Result.andThen, Oper.upon]
  go_wp2
  obtain ⟨w1, e1, hb1, B1⟩ := mapPush_ex Try.underlying107 Try.underlying3 (es := #[]) (clk := 0) (key := .int .i64 5) (val := .string ⟨#[32, 38, 32]⟩) hb0 rfl rfl B0 (Nat.le_refl _)
  rw [e1]
  simp only [Result.andThen, Oper.upon]
  go_wp2
  have f2 : Instr.findNow (.int .i64) (.int .i64 6) (#[].push ({ key := .int .i64 5, val := .string ⟨#[32, 38, 32]⟩, born := 0 } : MapEntry)).toList 0 = some none := by simp [Instr.findNow, Instr.sameNow]
  obtain ⟨w2, e2, hb2, B2⟩ := mapPush_ex Try.underlying107 Try.underlying3 (key := .int .i64 6) (val := .string ⟨#[32, 124, 32]⟩) hb1 rfl f2 B1 (Nat.le_refl _)
  rw [e2]
  simp only [Result.andThen, Oper.upon]
  go_wp2
  have f3 : Instr.findNow (.int .i64) (.int .i64 7) ((#[].push ({ key := .int .i64 5, val := .string ⟨#[32, 38, 32]⟩, born := 0 } : MapEntry)).push ({ key := .int .i64 6, val := .string ⟨#[32, 124, 32]⟩, born := 1 } : MapEntry)).toList 0 = some none := by simp [Instr.findNow, Instr.sameNow]
  obtain ⟨w3, e3, hb3, B3⟩ := mapPush_ex Try.underlying107 Try.underlying3 (key := .int .i64 7) (val := .string ⟨#[32, 61, 62, 32]⟩) hb2 rfl f3 B2 (Nat.le_refl _)
  rw [e3]
  simp only [Result.andThen, Oper.upon]
  go_wp2
  go_ret
  refine ⟨[.map (some w.heap.size)], rfl, ⟨_, _, rfl, ?_, rfl⟩, B3⟩
  unfold RepD signT RepV
  refine ⟨_, _, _, rfl, ⟨(Array.getElem?_eq_some_iff.1 hb3).1, Or.inr (Nat.le_refl _)⟩, hb3, ?_⟩
  refine ents_is rfl rfl (by decide) (by decide) (by decide) (ents_is rfl rfl (by decide) (by decide) (by decide) (ents_is rfl rfl (by decide) (by decide) (by decide) ?_))
  unfold RepEnts
  rfl
end Go.Proofs.Ytgfjbbbkploonaa
