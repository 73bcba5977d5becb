/-
  No cell of these rows narrows 'for every input' (looked for: loops, veiled, ifaces, maps, wideKeys, modest, calm, conditions, laid).
  DERIVED. THE GIVEN ROWS OF THIS SEAT. 7 by the template 'for every input the law returns true; each argument reads behind the call as it read before'; 0 by the template 'total and deterministic' (their statements: YteeaofpphmhjdaaTotals.lean).
  GIVEN WITH THE SEED: the statements are not yours to turn. If you find one false, say at which input.
  Laid BY PROGRAM, IN A SANDBOX (cutbox-rows.mjs): the forced cells as the released guide's own fill.sh prints them over the translation 07e8de3ada70e070… (all of the seat's roots in one cut). By AI agents, Wed Nov 11 2026. No macro, syntax, notation, axiom, sorry.
-/
import Derived.Test.YteeaofpphmhjdaaChecked
import GoSem.Claim
import GoSem.ClaimJoined
import GoSem.ClaimMapViews
import Derived.JoinedTies
import Derived.KernelRfl
namespace Go.Proofs.Yteeaofpphmhjdaa
/- THE CELL 'sum', in the pinned program and in every row, IS THE sha256 OF THE DUMP (.gsa) THAT YteeaofpphmhjdaaProg.lean LOADS. Nothing in Lean hashes anything: it is a label: what it is worth is what the hold of that sum in a sandbox is worth. -/
noncomputable def Try.pinned : Pinned := { name := "yteeaofpphmhjdaa", sum := "07e8de3ada70e070d9aca0f98987482047ecad96332be35955cb07003790514c", checked := Try.checked }
namespace Rows
def none {H : Type} : Left H := { results := [], args := [] }

/-- 'laws.FnColors': WHATEVER THE INPUT: true; the input reads as it did. -/
def fnColorsSpec : ChangeSpec := { name := "fnColors", fn := fun _ => fun
  | [d] => { results := [.lit (.bool true)], args := [d] }
  | _ => none }
def fnColorsRow : OpenClaim := { program := "yteeaofpphmhjdaa", sum := "07e8de3ada70e070d9aca0f98987482047ecad96332be35955cb07003790514c", func := "loop.example/g00892/laws.FnColors", spec := "fnColors", unfollowed := true, recurses := true, apart := false }
def FnColorsSaid : Prop := fnColorsRow.holds Try.pinned (OpenSpec.ofChange fnColorsSpec)

/-- ITS FALSE NEIGHBOUR: 'it returns false'. Refute it at one input. -/
def fnColorsWrong : ChangeSpec := { name := "fnColors", fn := fun _ => fun
  | [d] => { results := [.lit (.bool false)], args := [d] }
  | _ => none }
def FnColorsWrongFalsely : Prop := fnColorsRow.holds Try.pinned (OpenSpec.ofChange fnColorsWrong)

/-- 'laws.FnPropagation': WHATEVER THE INPUT: true; the input reads as it did. -/
def fnPropagationSpec : ChangeSpec := { name := "fnPropagation", fn := fun _ => fun
  | [d] => { results := [.lit (.bool true)], args := [d] }
  | _ => none }
def fnPropagationRow : OpenClaim := { program := "yteeaofpphmhjdaa", sum := "07e8de3ada70e070d9aca0f98987482047ecad96332be35955cb07003790514c", func := "loop.example/g00892/laws.FnPropagation", spec := "fnPropagation", unfollowed := true, recurses := true, apart := false }
def FnPropagationSaid : Prop := fnPropagationRow.holds Try.pinned (OpenSpec.ofChange fnPropagationSpec)

/-- ITS FALSE NEIGHBOUR: 'it returns false'. Refute it at one input. -/
def fnPropagationWrong : ChangeSpec := { name := "fnPropagation", fn := fun _ => fun
  | [d] => { results := [.lit (.bool false)], args := [d] }
  | _ => none }
def FnPropagationWrongFalsely : Prop := fnPropagationRow.holds Try.pinned (OpenSpec.ofChange fnPropagationWrong)

/-- 'laws.FnPropositional': WHATEVER THE INPUT: true; the input reads as it did. -/
def fnPropositionalSpec : ChangeSpec := { name := "fnPropositional", fn := fun _ => fun
  | [d] => { results := [.lit (.bool true)], args := [d] }
  | _ => none }
def fnPropositionalRow : OpenClaim := { program := "yteeaofpphmhjdaa", sum := "07e8de3ada70e070d9aca0f98987482047ecad96332be35955cb07003790514c", func := "loop.example/g00892/laws.FnPropositional", spec := "fnPropositional", unfollowed := true, recurses := true, apart := false }
def FnPropositionalSaid : Prop := fnPropositionalRow.holds Try.pinned (OpenSpec.ofChange fnPropositionalSpec)

/-- ITS FALSE NEIGHBOUR: 'it returns false'. Refute it at one input. -/
def fnPropositionalWrong : ChangeSpec := { name := "fnPropositional", fn := fun _ => fun
  | [d] => { results := [.lit (.bool false)], args := [d] }
  | _ => none }
def FnPropositionalWrongFalsely : Prop := fnPropositionalRow.holds Try.pinned (OpenSpec.ofChange fnPropositionalWrong)

/-- 'laws.FnRefutations': WHATEVER THE INPUT: true; the input reads as it did. -/
def fnRefutationsSpec : ChangeSpec := { name := "fnRefutations", fn := fun _ => fun
  | [d] => { results := [.lit (.bool true)], args := [d] }
  | _ => none }
def fnRefutationsRow : OpenClaim := { program := "yteeaofpphmhjdaa", sum := "07e8de3ada70e070d9aca0f98987482047ecad96332be35955cb07003790514c", func := "loop.example/g00892/laws.FnRefutations", spec := "fnRefutations", unfollowed := true, recurses := true, apart := false }
def FnRefutationsSaid : Prop := fnRefutationsRow.holds Try.pinned (OpenSpec.ofChange fnRefutationsSpec)

/-- ITS FALSE NEIGHBOUR: 'it returns false'. Refute it at one input. -/
def fnRefutationsWrong : ChangeSpec := { name := "fnRefutations", fn := fun _ => fun
  | [d] => { results := [.lit (.bool false)], args := [d] }
  | _ => none }
def FnRefutationsWrongFalsely : Prop := fnRefutationsRow.holds Try.pinned (OpenSpec.ofChange fnRefutationsWrong)

/-- 'laws.FnExactUsedClauses': WHATEVER THE INPUT: true; the input reads as it did. -/
def fnExactUsedClausesSpec : ChangeSpec := { name := "fnExactUsedClauses", fn := fun _ => fun
  | [d1, d2] => { results := [.lit (.bool true)], args := [d1, d2] }
  | _ => none }
def fnExactUsedClausesRow : OpenClaim := { program := "yteeaofpphmhjdaa", sum := "07e8de3ada70e070d9aca0f98987482047ecad96332be35955cb07003790514c", func := "loop.example/g00892/laws.FnExactUsedClauses", spec := "fnExactUsedClauses", unfollowed := true, recurses := true, apart := false }
def FnExactUsedClausesSaid : Prop := fnExactUsedClausesRow.holds Try.pinned (OpenSpec.ofChange fnExactUsedClausesSpec)

/-- ITS FALSE NEIGHBOUR: 'it returns false'. Refute it at one input. -/
def fnExactUsedClausesWrong : ChangeSpec := { name := "fnExactUsedClauses", fn := fun _ => fun
  | [d1, d2] => { results := [.lit (.bool false)], args := [d1, d2] }
  | _ => none }
def FnExactUsedClausesWrongFalsely : Prop := fnExactUsedClausesRow.holds Try.pinned (OpenSpec.ofChange fnExactUsedClausesWrong)

/-- 'laws.FnExactTrimRefutation': WHATEVER THE INPUT: true; the input reads as it did. -/
def fnExactTrimRefutationSpec : ChangeSpec := { name := "fnExactTrimRefutation", fn := fun _ => fun
  | [d1, d2] => { results := [.lit (.bool true)], args := [d1, d2] }
  | _ => none }
def fnExactTrimRefutationRow : OpenClaim := { program := "yteeaofpphmhjdaa", sum := "07e8de3ada70e070d9aca0f98987482047ecad96332be35955cb07003790514c", func := "loop.example/g00892/laws.FnExactTrimRefutation", spec := "fnExactTrimRefutation", unfollowed := true, recurses := true, apart := false }
def FnExactTrimRefutationSaid : Prop := fnExactTrimRefutationRow.holds Try.pinned (OpenSpec.ofChange fnExactTrimRefutationSpec)

/-- ITS FALSE NEIGHBOUR: 'it returns false'. Refute it at one input. -/
def fnExactTrimRefutationWrong : ChangeSpec := { name := "fnExactTrimRefutation", fn := fun _ => fun
  | [d1, d2] => { results := [.lit (.bool false)], args := [d1, d2] }
  | _ => none }
def FnExactTrimRefutationWrongFalsely : Prop := fnExactTrimRefutationRow.holds Try.pinned (OpenSpec.ofChange fnExactTrimRefutationWrong)

/-- 'laws.FnExactRefuteClauses': WHATEVER THE INPUT: true; the input reads as it did. -/
def fnExactRefuteClausesSpec : ChangeSpec := { name := "fnExactRefuteClauses", fn := fun _ => fun
  | [d] => { results := [.lit (.bool true)], args := [d] }
  | _ => none }
def fnExactRefuteClausesRow : OpenClaim := { program := "yteeaofpphmhjdaa", sum := "07e8de3ada70e070d9aca0f98987482047ecad96332be35955cb07003790514c", func := "loop.example/g00892/laws.FnExactRefuteClauses", spec := "fnExactRefuteClauses", unfollowed := true, recurses := true, apart := false }
def FnExactRefuteClausesSaid : Prop := fnExactRefuteClausesRow.holds Try.pinned (OpenSpec.ofChange fnExactRefuteClausesSpec)

/-- ITS FALSE NEIGHBOUR: 'it returns false'. Refute it at one input. -/
def fnExactRefuteClausesWrong : ChangeSpec := { name := "fnExactRefuteClauses", fn := fun _ => fun
  | [d] => { results := [.lit (.bool false)], args := [d] }
  | _ => none }
def FnExactRefuteClausesWrongFalsely : Prop := fnExactRefuteClausesRow.holds Try.pinned (OpenSpec.ofChange fnExactRefuteClausesWrong)

/- THE SECOND FORM. 'bulk': how many values and letters a reading holds, each counted each time it is reached (what is shared counts as often as it is met; a slice's spare places count too). A statement '..UptoSaid' is the law's where the arguments, and the package variables that the reading takes, are together of bulk at most 1048576: NARROWER than '..Said'. Prove '..Said' where nothing that the law and all that it calls make is longer than what came in: it says more and counts as full. Else prove '..UptoSaid'. A law counts once. -/
mutual
def uptoBulk {H : Type} : DataW H → Nat
  | .lit (.string bytes) => bytes.length + 1
  | .lit _ => 1
  | .nil => 1
  | .ptr d => uptoBulk d + 1
  | .slice elems spare => uptoBulkAll elems + uptoBulkAll spare + 1
  | .agg parts => uptoBulkAll parts + 1
  | .iface _ d => uptoBulk d + 1
  | .map entries => uptoBulkEntries entries + 1
  | .held _ => 1
def uptoBulkAll {H : Type} : List (DataW H) → Nat
  | [] => 0
  | d :: r => uptoBulk d + uptoBulkAll r
def uptoBulkEntries {H : Type} : List (Lit × DataW H) → Nat
  | [] => 0
  | x :: r => uptoBulkEntry x + uptoBulkEntries r
def uptoBulkEntry {H : Type} : Lit × DataW H → Nat
  | (.string bytes, d) => bytes.length + uptoBulk d + 1
  | (_, d) => uptoBulk d + 1
 end
def uptoSmall : (H : Type) → List (DataW H) → Bool := fun _ ds => decide (uptoBulkAll ds ≤ 1048576)
def OpenSpec.upto (s : _root_.Go.ChangeSpec) : _root_.Go.OpenSpec := { _root_.Go.OpenSpec.ofChange s with cond := some uptoSmall }

/-- 'laws.FnColors', WHERE WHAT IT READS IS OF BULK AT MOST 1048576: true; the input reads as it did. -/
def fnColorsUptoRow : OpenClaim := { program := "yteeaofpphmhjdaa", sum := "07e8de3ada70e070d9aca0f98987482047ecad96332be35955cb07003790514c", func := "loop.example/g00892/laws.FnColors", spec := "fnColors", unfollowed := true, recurses := true, apart := false, narrowed := true }
def FnColorsUptoSaid : Prop := fnColorsUptoRow.holds Try.pinned (OpenSpec.upto fnColorsSpec)

/-- 'laws.FnPropagation', WHERE WHAT IT READS IS OF BULK AT MOST 1048576: true; the input reads as it did. -/
def fnPropagationUptoRow : OpenClaim := { program := "yteeaofpphmhjdaa", sum := "07e8de3ada70e070d9aca0f98987482047ecad96332be35955cb07003790514c", func := "loop.example/g00892/laws.FnPropagation", spec := "fnPropagation", unfollowed := true, recurses := true, apart := false, narrowed := true }
def FnPropagationUptoSaid : Prop := fnPropagationUptoRow.holds Try.pinned (OpenSpec.upto fnPropagationSpec)

/-- 'laws.FnPropositional', WHERE WHAT IT READS IS OF BULK AT MOST 1048576: true; the input reads as it did. -/
def fnPropositionalUptoRow : OpenClaim := { program := "yteeaofpphmhjdaa", sum := "07e8de3ada70e070d9aca0f98987482047ecad96332be35955cb07003790514c", func := "loop.example/g00892/laws.FnPropositional", spec := "fnPropositional", unfollowed := true, recurses := true, apart := false, narrowed := true }
def FnPropositionalUptoSaid : Prop := fnPropositionalUptoRow.holds Try.pinned (OpenSpec.upto fnPropositionalSpec)

/-- 'laws.FnRefutations', WHERE WHAT IT READS IS OF BULK AT MOST 1048576: true; the input reads as it did. -/
def fnRefutationsUptoRow : OpenClaim := { program := "yteeaofpphmhjdaa", sum := "07e8de3ada70e070d9aca0f98987482047ecad96332be35955cb07003790514c", func := "loop.example/g00892/laws.FnRefutations", spec := "fnRefutations", unfollowed := true, recurses := true, apart := false, narrowed := true }
def FnRefutationsUptoSaid : Prop := fnRefutationsUptoRow.holds Try.pinned (OpenSpec.upto fnRefutationsSpec)

/-- 'laws.FnExactUsedClauses', WHERE WHAT IT READS IS OF BULK AT MOST 1048576: true; the input reads as it did. -/
def fnExactUsedClausesUptoRow : OpenClaim := { program := "yteeaofpphmhjdaa", sum := "07e8de3ada70e070d9aca0f98987482047ecad96332be35955cb07003790514c", func := "loop.example/g00892/laws.FnExactUsedClauses", spec := "fnExactUsedClauses", unfollowed := true, recurses := true, apart := false, narrowed := true }
def FnExactUsedClausesUptoSaid : Prop := fnExactUsedClausesUptoRow.holds Try.pinned (OpenSpec.upto fnExactUsedClausesSpec)

/-- 'laws.FnExactTrimRefutation', WHERE WHAT IT READS IS OF BULK AT MOST 1048576: true; the input reads as it did. -/
def fnExactTrimRefutationUptoRow : OpenClaim := { program := "yteeaofpphmhjdaa", sum := "07e8de3ada70e070d9aca0f98987482047ecad96332be35955cb07003790514c", func := "loop.example/g00892/laws.FnExactTrimRefutation", spec := "fnExactTrimRefutation", unfollowed := true, recurses := true, apart := false, narrowed := true }
def FnExactTrimRefutationUptoSaid : Prop := fnExactTrimRefutationUptoRow.holds Try.pinned (OpenSpec.upto fnExactTrimRefutationSpec)

/-- 'laws.FnExactRefuteClauses', WHERE WHAT IT READS IS OF BULK AT MOST 1048576: true; the input reads as it did. -/
def fnExactRefuteClausesUptoRow : OpenClaim := { program := "yteeaofpphmhjdaa", sum := "07e8de3ada70e070d9aca0f98987482047ecad96332be35955cb07003790514c", func := "loop.example/g00892/laws.FnExactRefuteClauses", spec := "fnExactRefuteClauses", unfollowed := true, recurses := true, apart := false, narrowed := true }
def FnExactRefuteClausesUptoSaid : Prop := fnExactRefuteClausesUptoRow.holds Try.pinned (OpenSpec.upto fnExactRefuteClausesSpec)

end Rows
end Go.Proofs.Yteeaofpphmhjdaa
