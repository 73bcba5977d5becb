/-
  No cell of these rows narrows 'for every input' (looked for: loops, veiled, ifaces, maps, wideKeys, modest, calm, conditions, laid).
  DERIVED. THE GIVEN ROWS OF THIS SEAT. 9 by the template 'for every input the law returns true; each argument reads behind the call as it read before'; 0 by the template 'total and deterministic' (their statements: YtggialagjkhdfaaTotals.lean).
  GIVEN WITH THE SEED: the statements are not yours to turn. If you find one false, say at which input.
  Laid BY PROGRAM, IN A SANDBOX (cutbox-rows.mjs): the forced cells as the released guide's own fill.sh prints them over the translation f64b92809432ff51… (all of the seat's roots in one cut). By AI agents, Wed Nov 11 2026. No macro, syntax, notation, axiom, sorry.
-/
import Derived.Test.YtggialagjkhdfaaChecked
import GoSem.Claim
import GoSem.ClaimJoined
import GoSem.ClaimMapViews
import Derived.JoinedTies
import Derived.KernelRfl
namespace Go.Proofs.Ytggialagjkhdfaa
/- THE CELL 'sum', in the pinned program and in every row, IS THE sha256 OF THE DUMP (.gsa) THAT YtggialagjkhdfaaProg.lean LOADS. Nothing in Lean hashes anything: it is a label: what it is worth is what the hold of that sum in a sandbox is worth. -/
noncomputable def Try.pinned : Pinned := { name := "ytggialagjkhdfaa", sum := "f64b92809432ff5192f351015148b122da8c7be306e86a541faab3d4d4a16873", checked := Try.checked }
namespace Rows
def none {H : Type} : Left H := { results := [], args := [] }

/-- 'laws.FnExactVariableColors': WHATEVER THE INPUT: true; the input reads as it did. -/
def fnExactVariableColorsSpec : ChangeSpec := { name := "fnExactVariableColors", fn := fun _ => fun
  | [d1, d2] => { results := [.lit (.bool true)], args := [d1, d2] }
  | _ => none }
def fnExactVariableColorsRow : OpenClaim := { program := "ytggialagjkhdfaa", sum := "f64b92809432ff5192f351015148b122da8c7be306e86a541faab3d4d4a16873", func := "loop.example/g00892/laws.FnExactVariableColors", spec := "fnExactVariableColors", unfollowed := true, recurses := true, apart := false }
def FnExactVariableColorsSaid : Prop := fnExactVariableColorsRow.holds Try.pinned (OpenSpec.ofChange fnExactVariableColorsSpec)

/-- ITS FALSE NEIGHBOUR: 'it returns false'. Refute it at one input. -/
def fnExactVariableColorsWrong : ChangeSpec := { name := "fnExactVariableColors", fn := fun _ => fun
  | [d1, d2] => { results := [.lit (.bool false)], args := [d1, d2] }
  | _ => none }
def FnExactVariableColorsWrongFalsely : Prop := fnExactVariableColorsRow.holds Try.pinned (OpenSpec.ofChange fnExactVariableColorsWrong)

/-- 'laws.FnColors': WHATEVER THE INPUT: true; the input reads as it did. -/
def fnColorsSpec : ChangeSpec := { name := "fnColors", fn := fun _ => fun
  | [d] => { results := [.lit (.bool true)], args := [d] }
  | _ => none }
def fnColorsRow : OpenClaim := { program := "ytggialagjkhdfaa", sum := "f64b92809432ff5192f351015148b122da8c7be306e86a541faab3d4d4a16873", func := "loop.example/g00892/laws.FnColors", spec := "fnColors", unfollowed := true, recurses := true, apart := false }
def FnColorsSaid : Prop := fnColorsRow.holds Try.pinned (OpenSpec.ofChange fnColorsSpec)

/-- ITS FALSE NEIGHBOUR: 'it returns false'. Refute it at one input. -/
def fnColorsWrong : ChangeSpec := { name := "fnColors", fn := fun _ => fun
  | [d] => { results := [.lit (.bool false)], args := [d] }
  | _ => none }
def FnColorsWrongFalsely : Prop := fnColorsRow.holds Try.pinned (OpenSpec.ofChange fnColorsWrong)

/-- 'laws.FnPropagation': WHATEVER THE INPUT: true; the input reads as it did. -/
def fnPropagationSpec : ChangeSpec := { name := "fnPropagation", fn := fun _ => fun
  | [d] => { results := [.lit (.bool true)], args := [d] }
  | _ => none }
def fnPropagationRow : OpenClaim := { program := "ytggialagjkhdfaa", sum := "f64b92809432ff5192f351015148b122da8c7be306e86a541faab3d4d4a16873", func := "loop.example/g00892/laws.FnPropagation", spec := "fnPropagation", unfollowed := true, recurses := true, apart := false }
def FnPropagationSaid : Prop := fnPropagationRow.holds Try.pinned (OpenSpec.ofChange fnPropagationSpec)

/-- ITS FALSE NEIGHBOUR: 'it returns false'. Refute it at one input. -/
def fnPropagationWrong : ChangeSpec := { name := "fnPropagation", fn := fun _ => fun
  | [d] => { results := [.lit (.bool false)], args := [d] }
  | _ => none }
def FnPropagationWrongFalsely : Prop := fnPropagationRow.holds Try.pinned (OpenSpec.ofChange fnPropagationWrong)

/-- 'laws.FnPropositional': WHATEVER THE INPUT: true; the input reads as it did. -/
def fnPropositionalSpec : ChangeSpec := { name := "fnPropositional", fn := fun _ => fun
  | [d] => { results := [.lit (.bool true)], args := [d] }
  | _ => none }
def fnPropositionalRow : OpenClaim := { program := "ytggialagjkhdfaa", sum := "f64b92809432ff5192f351015148b122da8c7be306e86a541faab3d4d4a16873", func := "loop.example/g00892/laws.FnPropositional", spec := "fnPropositional", unfollowed := true, recurses := true, apart := false }
def FnPropositionalSaid : Prop := fnPropositionalRow.holds Try.pinned (OpenSpec.ofChange fnPropositionalSpec)

/-- ITS FALSE NEIGHBOUR: 'it returns false'. Refute it at one input. -/
def fnPropositionalWrong : ChangeSpec := { name := "fnPropositional", fn := fun _ => fun
  | [d] => { results := [.lit (.bool false)], args := [d] }
  | _ => none }
def FnPropositionalWrongFalsely : Prop := fnPropositionalRow.holds Try.pinned (OpenSpec.ofChange fnPropositionalWrong)

/-- 'laws.FnExactCheckRefutation': WHATEVER THE INPUT: true; the input reads as it did. -/
def fnExactCheckRefutationSpec : ChangeSpec := { name := "fnExactCheckRefutation", fn := fun _ => fun
  | [d1, d2] => { results := [.lit (.bool true)], args := [d1, d2] }
  | _ => none }
def fnExactCheckRefutationRow : OpenClaim := { program := "ytggialagjkhdfaa", sum := "f64b92809432ff5192f351015148b122da8c7be306e86a541faab3d4d4a16873", func := "loop.example/g00892/laws.FnExactCheckRefutation", spec := "fnExactCheckRefutation", unfollowed := true, recurses := true, apart := false }
def FnExactCheckRefutationSaid : Prop := fnExactCheckRefutationRow.holds Try.pinned (OpenSpec.ofChange fnExactCheckRefutationSpec)

/-- ITS FALSE NEIGHBOUR: 'it returns false'. Refute it at one input. -/
def fnExactCheckRefutationWrong : ChangeSpec := { name := "fnExactCheckRefutation", fn := fun _ => fun
  | [d1, d2] => { results := [.lit (.bool false)], args := [d1, d2] }
  | _ => none }
def FnExactCheckRefutationWrongFalsely : Prop := fnExactCheckRefutationRow.holds Try.pinned (OpenSpec.ofChange fnExactCheckRefutationWrong)

/-- 'laws.FnExactUsedClauses': WHATEVER THE INPUT: true; the input reads as it did. -/
def fnExactUsedClausesSpec : ChangeSpec := { name := "fnExactUsedClauses", fn := fun _ => fun
  | [d1, d2] => { results := [.lit (.bool true)], args := [d1, d2] }
  | _ => none }
def fnExactUsedClausesRow : OpenClaim := { program := "ytggialagjkhdfaa", sum := "f64b92809432ff5192f351015148b122da8c7be306e86a541faab3d4d4a16873", func := "loop.example/g00892/laws.FnExactUsedClauses", spec := "fnExactUsedClauses", unfollowed := true, recurses := true, apart := false }
def FnExactUsedClausesSaid : Prop := fnExactUsedClausesRow.holds Try.pinned (OpenSpec.ofChange fnExactUsedClausesSpec)

/-- ITS FALSE NEIGHBOUR: 'it returns false'. Refute it at one input. -/
def fnExactUsedClausesWrong : ChangeSpec := { name := "fnExactUsedClauses", fn := fun _ => fun
  | [d1, d2] => { results := [.lit (.bool false)], args := [d1, d2] }
  | _ => none }
def FnExactUsedClausesWrongFalsely : Prop := fnExactUsedClausesRow.holds Try.pinned (OpenSpec.ofChange fnExactUsedClausesWrong)

/-- 'laws.FnExactRefuteClauses': WHATEVER THE INPUT: true; the input reads as it did. -/
def fnExactRefuteClausesSpec : ChangeSpec := { name := "fnExactRefuteClauses", fn := fun _ => fun
  | [d] => { results := [.lit (.bool true)], args := [d] }
  | _ => none }
def fnExactRefuteClausesRow : OpenClaim := { program := "ytggialagjkhdfaa", sum := "f64b92809432ff5192f351015148b122da8c7be306e86a541faab3d4d4a16873", func := "loop.example/g00892/laws.FnExactRefuteClauses", spec := "fnExactRefuteClauses", unfollowed := true, recurses := true, apart := false }
def FnExactRefuteClausesSaid : Prop := fnExactRefuteClausesRow.holds Try.pinned (OpenSpec.ofChange fnExactRefuteClausesSpec)

/-- ITS FALSE NEIGHBOUR: 'it returns false'. Refute it at one input. -/
def fnExactRefuteClausesWrong : ChangeSpec := { name := "fnExactRefuteClauses", fn := fun _ => fun
  | [d] => { results := [.lit (.bool false)], args := [d] }
  | _ => none }
def FnExactRefuteClausesWrongFalsely : Prop := fnExactRefuteClausesRow.holds Try.pinned (OpenSpec.ofChange fnExactRefuteClausesWrong)

/-- 'laws.FnExactTrimRefutation': WHATEVER THE INPUT: true; the input reads as it did. -/
def fnExactTrimRefutationSpec : ChangeSpec := { name := "fnExactTrimRefutation", fn := fun _ => fun
  | [d1, d2] => { results := [.lit (.bool true)], args := [d1, d2] }
  | _ => none }
def fnExactTrimRefutationRow : OpenClaim := { program := "ytggialagjkhdfaa", sum := "f64b92809432ff5192f351015148b122da8c7be306e86a541faab3d4d4a16873", func := "loop.example/g00892/laws.FnExactTrimRefutation", spec := "fnExactTrimRefutation", unfollowed := true, recurses := true, apart := false }
def FnExactTrimRefutationSaid : Prop := fnExactTrimRefutationRow.holds Try.pinned (OpenSpec.ofChange fnExactTrimRefutationSpec)

/-- ITS FALSE NEIGHBOUR: 'it returns false'. Refute it at one input. -/
def fnExactTrimRefutationWrong : ChangeSpec := { name := "fnExactTrimRefutation", fn := fun _ => fun
  | [d1, d2] => { results := [.lit (.bool false)], args := [d1, d2] }
  | _ => none }
def FnExactTrimRefutationWrongFalsely : Prop := fnExactTrimRefutationRow.holds Try.pinned (OpenSpec.ofChange fnExactTrimRefutationWrong)

/-- 'laws.FnRefutations': WHATEVER THE INPUT: true; the input reads as it did. -/
def fnRefutationsSpec : ChangeSpec := { name := "fnRefutations", fn := fun _ => fun
  | [d] => { results := [.lit (.bool true)], args := [d] }
  | _ => none }
def fnRefutationsRow : OpenClaim := { program := "ytggialagjkhdfaa", sum := "f64b92809432ff5192f351015148b122da8c7be306e86a541faab3d4d4a16873", func := "loop.example/g00892/laws.FnRefutations", spec := "fnRefutations", unfollowed := true, recurses := true, apart := false }
def FnRefutationsSaid : Prop := fnRefutationsRow.holds Try.pinned (OpenSpec.ofChange fnRefutationsSpec)

/-- ITS FALSE NEIGHBOUR: 'it returns false'. Refute it at one input. -/
def fnRefutationsWrong : ChangeSpec := { name := "fnRefutations", fn := fun _ => fun
  | [d] => { results := [.lit (.bool false)], args := [d] }
  | _ => none }
def FnRefutationsWrongFalsely : Prop := fnRefutationsRow.holds Try.pinned (OpenSpec.ofChange fnRefutationsWrong)

/- THE SECOND FORM. 'bulk': how many values and letters a reading holds, each counted each time it is reached (what is shared counts as often as it is met; a slice's spare places count too). A statement '..UptoSaid' is the law's where the arguments, and the package variables that the reading takes, are together of bulk at most 1048576: NARROWER than '..Said'. Prove '..Said' where nothing that the law and all that it calls make is longer than what came in: it says more and counts as full. Else prove '..UptoSaid'. A law counts once. -/
mutual
def uptoBulk {H : Type} : DataW H → Nat
  | .lit (.string bytes) => bytes.length + 1
  | .lit _ => 1
  | .nil => 1
  | .ptr d => uptoBulk d + 1
  | .slice elems spare => uptoBulkAll elems + uptoBulkAll spare + 1
  | .agg parts => uptoBulkAll parts + 1
  | .iface _ d => uptoBulk d + 1
  | .map entries => uptoBulkEntries entries + 1
  | .held _ => 1
def uptoBulkAll {H : Type} : List (DataW H) → Nat
  | [] => 0
  | d :: r => uptoBulk d + uptoBulkAll r
def uptoBulkEntries {H : Type} : List (Lit × DataW H) → Nat
  | [] => 0
  | x :: r => uptoBulkEntry x + uptoBulkEntries r
def uptoBulkEntry {H : Type} : Lit × DataW H → Nat
  | (.string bytes, d) => bytes.length + uptoBulk d + 1
  | (_, d) => uptoBulk d + 1
 end
def uptoSmall : (H : Type) → List (DataW H) → Bool := fun _ ds => decide (uptoBulkAll ds ≤ 1048576)
def OpenSpec.upto (s : _root_.Go.ChangeSpec) : _root_.Go.OpenSpec := { _root_.Go.OpenSpec.ofChange s with cond := some uptoSmall }

/-- 'laws.FnExactVariableColors', WHERE WHAT IT READS IS OF BULK AT MOST 1048576: true; the input reads as it did. -/
def fnExactVariableColorsUptoRow : OpenClaim := { program := "ytggialagjkhdfaa", sum := "f64b92809432ff5192f351015148b122da8c7be306e86a541faab3d4d4a16873", func := "loop.example/g00892/laws.FnExactVariableColors", spec := "fnExactVariableColors", unfollowed := true, recurses := true, apart := false, narrowed := true }
def FnExactVariableColorsUptoSaid : Prop := fnExactVariableColorsUptoRow.holds Try.pinned (OpenSpec.upto fnExactVariableColorsSpec)

/-- 'laws.FnColors', WHERE WHAT IT READS IS OF BULK AT MOST 1048576: true; the input reads as it did. -/
def fnColorsUptoRow : OpenClaim := { program := "ytggialagjkhdfaa", sum := "f64b92809432ff5192f351015148b122da8c7be306e86a541faab3d4d4a16873", func := "loop.example/g00892/laws.FnColors", spec := "fnColors", unfollowed := true, recurses := true, apart := false, narrowed := true }
def FnColorsUptoSaid : Prop := fnColorsUptoRow.holds Try.pinned (OpenSpec.upto fnColorsSpec)

/-- 'laws.FnPropagation', WHERE WHAT IT READS IS OF BULK AT MOST 1048576: true; the input reads as it did. -/
def fnPropagationUptoRow : OpenClaim := { program := "ytggialagjkhdfaa", sum := "f64b92809432ff5192f351015148b122da8c7be306e86a541faab3d4d4a16873", func := "loop.example/g00892/laws.FnPropagation", spec := "fnPropagation", unfollowed := true, recurses := true, apart := false, narrowed := true }
def FnPropagationUptoSaid : Prop := fnPropagationUptoRow.holds Try.pinned (OpenSpec.upto fnPropagationSpec)

/-- 'laws.FnPropositional', WHERE WHAT IT READS IS OF BULK AT MOST 1048576: true; the input reads as it did. -/
def fnPropositionalUptoRow : OpenClaim := { program := "ytggialagjkhdfaa", sum := "f64b92809432ff5192f351015148b122da8c7be306e86a541faab3d4d4a16873", func := "loop.example/g00892/laws.FnPropositional", spec := "fnPropositional", unfollowed := true, recurses := true, apart := false, narrowed := true }
def FnPropositionalUptoSaid : Prop := fnPropositionalUptoRow.holds Try.pinned (OpenSpec.upto fnPropositionalSpec)

/-- 'laws.FnExactCheckRefutation', WHERE WHAT IT READS IS OF BULK AT MOST 1048576: true; the input reads as it did. -/
def fnExactCheckRefutationUptoRow : OpenClaim := { program := "ytggialagjkhdfaa", sum := "f64b92809432ff5192f351015148b122da8c7be306e86a541faab3d4d4a16873", func := "loop.example/g00892/laws.FnExactCheckRefutation", spec := "fnExactCheckRefutation", unfollowed := true, recurses := true, apart := false, narrowed := true }
def FnExactCheckRefutationUptoSaid : Prop := fnExactCheckRefutationUptoRow.holds Try.pinned (OpenSpec.upto fnExactCheckRefutationSpec)

/-- 'laws.FnExactUsedClauses', WHERE WHAT IT READS IS OF BULK AT MOST 1048576: true; the input reads as it did. -/
def fnExactUsedClausesUptoRow : OpenClaim := { program := "ytggialagjkhdfaa", sum := "f64b92809432ff5192f351015148b122da8c7be306e86a541faab3d4d4a16873", func := "loop.example/g00892/laws.FnExactUsedClauses", spec := "fnExactUsedClauses", unfollowed := true, recurses := true, apart := false, narrowed := true }
def FnExactUsedClausesUptoSaid : Prop := fnExactUsedClausesUptoRow.holds Try.pinned (OpenSpec.upto fnExactUsedClausesSpec)

/-- 'laws.FnExactRefuteClauses', WHERE WHAT IT READS IS OF BULK AT MOST 1048576: true; the input reads as it did. -/
def fnExactRefuteClausesUptoRow : OpenClaim := { program := "ytggialagjkhdfaa", sum := "f64b92809432ff5192f351015148b122da8c7be306e86a541faab3d4d4a16873", func := "loop.example/g00892/laws.FnExactRefuteClauses", spec := "fnExactRefuteClauses", unfollowed := true, recurses := true, apart := false, narrowed := true }
def FnExactRefuteClausesUptoSaid : Prop := fnExactRefuteClausesUptoRow.holds Try.pinned (OpenSpec.upto fnExactRefuteClausesSpec)

/-- 'laws.FnExactTrimRefutation', WHERE WHAT IT READS IS OF BULK AT MOST 1048576: true; the input reads as it did. -/
def fnExactTrimRefutationUptoRow : OpenClaim := { program := "ytggialagjkhdfaa", sum := "f64b92809432ff5192f351015148b122da8c7be306e86a541faab3d4d4a16873", func := "loop.example/g00892/laws.FnExactTrimRefutation", spec := "fnExactTrimRefutation", unfollowed := true, recurses := true, apart := false, narrowed := true }
def FnExactTrimRefutationUptoSaid : Prop := fnExactTrimRefutationUptoRow.holds Try.pinned (OpenSpec.upto fnExactTrimRefutationSpec)

/-- 'laws.FnRefutations', WHERE WHAT IT READS IS OF BULK AT MOST 1048576: true; the input reads as it did. -/
def fnRefutationsUptoRow : OpenClaim := { program := "ytggialagjkhdfaa", sum := "f64b92809432ff5192f351015148b122da8c7be306e86a541faab3d4d4a16873", func := "loop.example/g00892/laws.FnRefutations", spec := "fnRefutations", unfollowed := true, recurses := true, apart := false, narrowed := true }
def FnRefutationsUptoSaid : Prop := fnRefutationsUptoRow.holds Try.pinned (OpenSpec.upto fnRefutationsSpec)

end Rows
end Go.Proofs.Ytggialagjkhdfaa
