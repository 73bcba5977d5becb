/-
  NARROWER THAN 'FOR EVERY INPUT', by the rows' own cells (each row's printed sentence says how): FnExactHerbrandDisjunction: loops · FnExactIsHerbrandProof: loops · FnExactNeededTuples: loops · FnExactDeepFormula: loops · FnExactTuplesOf: loops · FnExactIsExpansionProof: loops · FnExactEigenOrder: loops · FnExactExpansionOfTuples: loops · FnExactPruneExpansion: loops · FnExactMergeExpansions: loops.
  DERIVED. THE GIVEN ROWS OF THIS SEAT. 10 by the template 'for every input the law returns true; each argument reads behind the call as it read before'; 0 by the template 'total and deterministic' (their statements: YtbccfiillleimaaGreatTotals.lean).
  GIVEN WITH THE SEED: the statements are not yours to turn. If you find one false, say at which input.
  Laid BY PROGRAM, IN A SANDBOX (cutbox-rows.mjs): the forced cells as the released guide's own fill.sh prints them over the translation 34e721c671564183… (all of the seat's roots in one cut). By AI agents, Wed Nov 11 2026. No macro, syntax, notation, axiom, sorry.
-/
import Derived.Test.YtbccfiillleimaaGreatChecked
import GoSem.Claim
import GoSem.ClaimJoined
import GoSem.ClaimMapViews
import Derived.JoinedTies
import Derived.KernelRfl
namespace Go.Proofs.YtbccfiillleimaaGreat
/- THE CELL 'sum', in the pinned program and in every row, IS THE sha256 OF THE DUMP (.gsa) THAT YtbccfiillleimaaGreatProg.lean LOADS. Nothing in Lean hashes anything: it is a label: what it is worth is what the hold of that sum in a sandbox is worth. -/
noncomputable def Tryz.pinned : Pinned := { name := "ytbccfiillleimaagreat", sum := "34e721c671564183ea7e3d0f7fd0b19c832fb4e3b9cfa696c9650b2ea5f47298", checked := Tryz.checked }
namespace Rows
def none {H : Type} : Left H := { results := [], args := [] }

/-- 'laws.FnExactHerbrandDisjunction': WHATEVER THE INPUT: true; the input reads as it did. -/
def fnExactHerbrandDisjunctionSpec : ChangeSpec := { name := "fnExactHerbrandDisjunction", fn := fun _ => fun
  | [d1, d2] => { results := [.lit (.bool true)], args := [d1, d2] }
  | _ => none }
def fnExactHerbrandDisjunctionRow : OpenClaim := { program := "ytbccfiillleimaagreat", sum := "34e721c671564183ea7e3d0f7fd0b19c832fb4e3b9cfa696c9650b2ea5f47298", func := "loop.example/g00892/laws.FnExactHerbrandDisjunction", spec := "fnExactHerbrandDisjunction", unfollowed := true, recurses := true, loops := true, apart := false }
def FnExactHerbrandDisjunctionSaid : Prop := fnExactHerbrandDisjunctionRow.holds Tryz.pinned (OpenSpec.ofChange fnExactHerbrandDisjunctionSpec)

/-- ITS FALSE NEIGHBOUR: 'it returns false'. Refute it at one input. -/
def fnExactHerbrandDisjunctionWrong : ChangeSpec := { name := "fnExactHerbrandDisjunction", fn := fun _ => fun
  | [d1, d2] => { results := [.lit (.bool false)], args := [d1, d2] }
  | _ => none }
def FnExactHerbrandDisjunctionWrongFalsely : Prop := fnExactHerbrandDisjunctionRow.holds Tryz.pinned (OpenSpec.ofChange fnExactHerbrandDisjunctionWrong)

/-- 'laws.FnExactIsHerbrandProof': WHATEVER THE INPUT: true; the input reads as it did. -/
def fnExactIsHerbrandProofSpec : ChangeSpec := { name := "fnExactIsHerbrandProof", fn := fun _ => fun
  | [d1, d2] => { results := [.lit (.bool true)], args := [d1, d2] }
  | _ => none }
def fnExactIsHerbrandProofRow : OpenClaim := { program := "ytbccfiillleimaagreat", sum := "34e721c671564183ea7e3d0f7fd0b19c832fb4e3b9cfa696c9650b2ea5f47298", func := "loop.example/g00892/laws.FnExactIsHerbrandProof", spec := "fnExactIsHerbrandProof", unfollowed := true, recurses := true, loops := true, apart := false }
def FnExactIsHerbrandProofSaid : Prop := fnExactIsHerbrandProofRow.holds Tryz.pinned (OpenSpec.ofChange fnExactIsHerbrandProofSpec)

/-- ITS FALSE NEIGHBOUR: 'it returns false'. Refute it at one input. -/
def fnExactIsHerbrandProofWrong : ChangeSpec := { name := "fnExactIsHerbrandProof", fn := fun _ => fun
  | [d1, d2] => { results := [.lit (.bool false)], args := [d1, d2] }
  | _ => none }
def FnExactIsHerbrandProofWrongFalsely : Prop := fnExactIsHerbrandProofRow.holds Tryz.pinned (OpenSpec.ofChange fnExactIsHerbrandProofWrong)

/-- 'laws.FnExactNeededTuples': WHATEVER THE INPUT: true; the input reads as it did. -/
def fnExactNeededTuplesSpec : ChangeSpec := { name := "fnExactNeededTuples", fn := fun _ => fun
  | [d1, d2] => { results := [.lit (.bool true)], args := [d1, d2] }
  | _ => none }
def fnExactNeededTuplesRow : OpenClaim := { program := "ytbccfiillleimaagreat", sum := "34e721c671564183ea7e3d0f7fd0b19c832fb4e3b9cfa696c9650b2ea5f47298", func := "loop.example/g00892/laws.FnExactNeededTuples", spec := "fnExactNeededTuples", unfollowed := true, recurses := true, loops := true, apart := false }
def FnExactNeededTuplesSaid : Prop := fnExactNeededTuplesRow.holds Tryz.pinned (OpenSpec.ofChange fnExactNeededTuplesSpec)

/-- ITS FALSE NEIGHBOUR: 'it returns false'. Refute it at one input. -/
def fnExactNeededTuplesWrong : ChangeSpec := { name := "fnExactNeededTuples", fn := fun _ => fun
  | [d1, d2] => { results := [.lit (.bool false)], args := [d1, d2] }
  | _ => none }
def FnExactNeededTuplesWrongFalsely : Prop := fnExactNeededTuplesRow.holds Tryz.pinned (OpenSpec.ofChange fnExactNeededTuplesWrong)

/-- 'laws.FnExactDeepFormula': WHATEVER THE INPUT: true; the input reads as it did. -/
def fnExactDeepFormulaSpec : ChangeSpec := { name := "fnExactDeepFormula", fn := fun _ => fun
  | [d1, d2] => { results := [.lit (.bool true)], args := [d1, d2] }
  | _ => none }
def fnExactDeepFormulaRow : OpenClaim := { program := "ytbccfiillleimaagreat", sum := "34e721c671564183ea7e3d0f7fd0b19c832fb4e3b9cfa696c9650b2ea5f47298", func := "loop.example/g00892/laws.FnExactDeepFormula", spec := "fnExactDeepFormula", unfollowed := true, recurses := true, loops := true, apart := false }
def FnExactDeepFormulaSaid : Prop := fnExactDeepFormulaRow.holds Tryz.pinned (OpenSpec.ofChange fnExactDeepFormulaSpec)

/-- ITS FALSE NEIGHBOUR: 'it returns false'. Refute it at one input. -/
def fnExactDeepFormulaWrong : ChangeSpec := { name := "fnExactDeepFormula", fn := fun _ => fun
  | [d1, d2] => { results := [.lit (.bool false)], args := [d1, d2] }
  | _ => none }
def FnExactDeepFormulaWrongFalsely : Prop := fnExactDeepFormulaRow.holds Tryz.pinned (OpenSpec.ofChange fnExactDeepFormulaWrong)

/-- 'laws.FnExactTuplesOf': WHATEVER THE INPUT: true; the input reads as it did. -/
def fnExactTuplesOfSpec : ChangeSpec := { name := "fnExactTuplesOf", fn := fun _ => fun
  | [d] => { results := [.lit (.bool true)], args := [d] }
  | _ => none }
def fnExactTuplesOfRow : OpenClaim := { program := "ytbccfiillleimaagreat", sum := "34e721c671564183ea7e3d0f7fd0b19c832fb4e3b9cfa696c9650b2ea5f47298", func := "loop.example/g00892/laws.FnExactTuplesOf", spec := "fnExactTuplesOf", unfollowed := true, recurses := true, loops := true, apart := false }
def FnExactTuplesOfSaid : Prop := fnExactTuplesOfRow.holds Tryz.pinned (OpenSpec.ofChange fnExactTuplesOfSpec)

/-- ITS FALSE NEIGHBOUR: 'it returns false'. Refute it at one input. -/
def fnExactTuplesOfWrong : ChangeSpec := { name := "fnExactTuplesOf", fn := fun _ => fun
  | [d] => { results := [.lit (.bool false)], args := [d] }
  | _ => none }
def FnExactTuplesOfWrongFalsely : Prop := fnExactTuplesOfRow.holds Tryz.pinned (OpenSpec.ofChange fnExactTuplesOfWrong)

/-- 'laws.FnExactIsExpansionProof': WHATEVER THE INPUT: true; the input reads as it did. -/
def fnExactIsExpansionProofSpec : ChangeSpec := { name := "fnExactIsExpansionProof", fn := fun _ => fun
  | [d] => { results := [.lit (.bool true)], args := [d] }
  | _ => none }
def fnExactIsExpansionProofRow : OpenClaim := { program := "ytbccfiillleimaagreat", sum := "34e721c671564183ea7e3d0f7fd0b19c832fb4e3b9cfa696c9650b2ea5f47298", func := "loop.example/g00892/laws.FnExactIsExpansionProof", spec := "fnExactIsExpansionProof", unfollowed := true, recurses := true, loops := true, apart := false }
def FnExactIsExpansionProofSaid : Prop := fnExactIsExpansionProofRow.holds Tryz.pinned (OpenSpec.ofChange fnExactIsExpansionProofSpec)

/-- ITS FALSE NEIGHBOUR: 'it returns false'. Refute it at one input. -/
def fnExactIsExpansionProofWrong : ChangeSpec := { name := "fnExactIsExpansionProof", fn := fun _ => fun
  | [d] => { results := [.lit (.bool false)], args := [d] }
  | _ => none }
def FnExactIsExpansionProofWrongFalsely : Prop := fnExactIsExpansionProofRow.holds Tryz.pinned (OpenSpec.ofChange fnExactIsExpansionProofWrong)

/-- 'laws.FnExactEigenOrder': WHATEVER THE INPUT: true; the input reads as it did. -/
def fnExactEigenOrderSpec : ChangeSpec := { name := "fnExactEigenOrder", fn := fun _ => fun
  | [d1, d2] => { results := [.lit (.bool true)], args := [d1, d2] }
  | _ => none }
def fnExactEigenOrderRow : OpenClaim := { program := "ytbccfiillleimaagreat", sum := "34e721c671564183ea7e3d0f7fd0b19c832fb4e3b9cfa696c9650b2ea5f47298", func := "loop.example/g00892/laws.FnExactEigenOrder", spec := "fnExactEigenOrder", unfollowed := true, recurses := true, loops := true, apart := false }
def FnExactEigenOrderSaid : Prop := fnExactEigenOrderRow.holds Tryz.pinned (OpenSpec.ofChange fnExactEigenOrderSpec)

/-- ITS FALSE NEIGHBOUR: 'it returns false'. Refute it at one input. -/
def fnExactEigenOrderWrong : ChangeSpec := { name := "fnExactEigenOrder", fn := fun _ => fun
  | [d1, d2] => { results := [.lit (.bool false)], args := [d1, d2] }
  | _ => none }
def FnExactEigenOrderWrongFalsely : Prop := fnExactEigenOrderRow.holds Tryz.pinned (OpenSpec.ofChange fnExactEigenOrderWrong)

/-- 'laws.FnExactExpansionOfTuples': WHATEVER THE INPUT: true; the input reads as it did. -/
def fnExactExpansionOfTuplesSpec : ChangeSpec := { name := "fnExactExpansionOfTuples", fn := fun _ => fun
  | [d1, d2] => { results := [.lit (.bool true)], args := [d1, d2] }
  | _ => none }
def fnExactExpansionOfTuplesRow : OpenClaim := { program := "ytbccfiillleimaagreat", sum := "34e721c671564183ea7e3d0f7fd0b19c832fb4e3b9cfa696c9650b2ea5f47298", func := "loop.example/g00892/laws.FnExactExpansionOfTuples", spec := "fnExactExpansionOfTuples", unfollowed := true, recurses := true, loops := true, apart := false }
def FnExactExpansionOfTuplesSaid : Prop := fnExactExpansionOfTuplesRow.holds Tryz.pinned (OpenSpec.ofChange fnExactExpansionOfTuplesSpec)

/-- ITS FALSE NEIGHBOUR: 'it returns false'. Refute it at one input. -/
def fnExactExpansionOfTuplesWrong : ChangeSpec := { name := "fnExactExpansionOfTuples", fn := fun _ => fun
  | [d1, d2] => { results := [.lit (.bool false)], args := [d1, d2] }
  | _ => none }
def FnExactExpansionOfTuplesWrongFalsely : Prop := fnExactExpansionOfTuplesRow.holds Tryz.pinned (OpenSpec.ofChange fnExactExpansionOfTuplesWrong)

/-- 'laws.FnExactPruneExpansion': WHATEVER THE INPUT: true; the input reads as it did. -/
def fnExactPruneExpansionSpec : ChangeSpec := { name := "fnExactPruneExpansion", fn := fun _ => fun
  | [d] => { results := [.lit (.bool true)], args := [d] }
  | _ => none }
def fnExactPruneExpansionRow : OpenClaim := { program := "ytbccfiillleimaagreat", sum := "34e721c671564183ea7e3d0f7fd0b19c832fb4e3b9cfa696c9650b2ea5f47298", func := "loop.example/g00892/laws.FnExactPruneExpansion", spec := "fnExactPruneExpansion", unfollowed := true, recurses := true, loops := true, apart := false }
def FnExactPruneExpansionSaid : Prop := fnExactPruneExpansionRow.holds Tryz.pinned (OpenSpec.ofChange fnExactPruneExpansionSpec)

/-- ITS FALSE NEIGHBOUR: 'it returns false'. Refute it at one input. -/
def fnExactPruneExpansionWrong : ChangeSpec := { name := "fnExactPruneExpansion", fn := fun _ => fun
  | [d] => { results := [.lit (.bool false)], args := [d] }
  | _ => none }
def FnExactPruneExpansionWrongFalsely : Prop := fnExactPruneExpansionRow.holds Tryz.pinned (OpenSpec.ofChange fnExactPruneExpansionWrong)

/-- 'laws.FnExactMergeExpansions': WHATEVER THE INPUT: true; the input reads as it did. -/
def fnExactMergeExpansionsSpec : ChangeSpec := { name := "fnExactMergeExpansions", fn := fun _ => fun
  | [d1, d2, d3] => { results := [.lit (.bool true)], args := [d1, d2, d3] }
  | _ => none }
def fnExactMergeExpansionsRow : OpenClaim := { program := "ytbccfiillleimaagreat", sum := "34e721c671564183ea7e3d0f7fd0b19c832fb4e3b9cfa696c9650b2ea5f47298", func := "loop.example/g00892/laws.FnExactMergeExpansions", spec := "fnExactMergeExpansions", unfollowed := true, recurses := true, loops := true, apart := false }
def FnExactMergeExpansionsSaid : Prop := fnExactMergeExpansionsRow.holds Tryz.pinned (OpenSpec.ofChange fnExactMergeExpansionsSpec)

/-- ITS FALSE NEIGHBOUR: 'it returns false'. Refute it at one input. -/
def fnExactMergeExpansionsWrong : ChangeSpec := { name := "fnExactMergeExpansions", fn := fun _ => fun
  | [d1, d2, d3] => { results := [.lit (.bool false)], args := [d1, d2, d3] }
  | _ => none }
def FnExactMergeExpansionsWrongFalsely : Prop := fnExactMergeExpansionsRow.holds Tryz.pinned (OpenSpec.ofChange fnExactMergeExpansionsWrong)

/- THE SECOND FORM. 'bulk': how many values and letters a reading holds, each counted each time it is reached (what is shared counts as often as it is met; a slice's spare places count too). A statement '..UptoSaid' is the law's where the arguments, and the package variables that the reading takes, are together of bulk at most 1048576: NARROWER than '..Said'. Prove '..Said' where nothing that the law and all that it calls make is longer than what came in: it says more and counts as full. Else prove '..UptoSaid'. A law counts once. -/
mutual
def uptoBulk {H : Type} : DataW H → Nat
  | .lit (.string bytes) => bytes.length + 1
  | .lit _ => 1
  | .nil => 1
  | .ptr d => uptoBulk d + 1
  | .slice elems spare => uptoBulkAll elems + uptoBulkAll spare + 1
  | .agg parts => uptoBulkAll parts + 1
  | .iface _ d => uptoBulk d + 1
  | .map entries => uptoBulkEntries entries + 1
  | .held _ => 1
def uptoBulkAll {H : Type} : List (DataW H) → Nat
  | [] => 0
  | d :: r => uptoBulk d + uptoBulkAll r
def uptoBulkEntries {H : Type} : List (Lit × DataW H) → Nat
  | [] => 0
  | x :: r => uptoBulkEntry x + uptoBulkEntries r
def uptoBulkEntry {H : Type} : Lit × DataW H → Nat
  | (.string bytes, d) => bytes.length + uptoBulk d + 1
  | (_, d) => uptoBulk d + 1
 end
def uptoSmall : (H : Type) → List (DataW H) → Bool := fun _ ds => decide (uptoBulkAll ds ≤ 1048576)
def OpenSpec.upto (s : _root_.Go.ChangeSpec) : _root_.Go.OpenSpec := { _root_.Go.OpenSpec.ofChange s with cond := some uptoSmall }

/-- 'laws.FnExactHerbrandDisjunction', WHERE WHAT IT READS IS OF BULK AT MOST 1048576: true; the input reads as it did. -/
def fnExactHerbrandDisjunctionUptoRow : OpenClaim := { program := "ytbccfiillleimaagreat", sum := "34e721c671564183ea7e3d0f7fd0b19c832fb4e3b9cfa696c9650b2ea5f47298", func := "loop.example/g00892/laws.FnExactHerbrandDisjunction", spec := "fnExactHerbrandDisjunction", unfollowed := true, recurses := true, loops := true, apart := false, narrowed := true }
def FnExactHerbrandDisjunctionUptoSaid : Prop := fnExactHerbrandDisjunctionUptoRow.holds Tryz.pinned (OpenSpec.upto fnExactHerbrandDisjunctionSpec)

/-- 'laws.FnExactIsHerbrandProof', WHERE WHAT IT READS IS OF BULK AT MOST 1048576: true; the input reads as it did. -/
def fnExactIsHerbrandProofUptoRow : OpenClaim := { program := "ytbccfiillleimaagreat", sum := "34e721c671564183ea7e3d0f7fd0b19c832fb4e3b9cfa696c9650b2ea5f47298", func := "loop.example/g00892/laws.FnExactIsHerbrandProof", spec := "fnExactIsHerbrandProof", unfollowed := true, recurses := true, loops := true, apart := false, narrowed := true }
def FnExactIsHerbrandProofUptoSaid : Prop := fnExactIsHerbrandProofUptoRow.holds Tryz.pinned (OpenSpec.upto fnExactIsHerbrandProofSpec)

/-- 'laws.FnExactNeededTuples', WHERE WHAT IT READS IS OF BULK AT MOST 1048576: true; the input reads as it did. -/
def fnExactNeededTuplesUptoRow : OpenClaim := { program := "ytbccfiillleimaagreat", sum := "34e721c671564183ea7e3d0f7fd0b19c832fb4e3b9cfa696c9650b2ea5f47298", func := "loop.example/g00892/laws.FnExactNeededTuples", spec := "fnExactNeededTuples", unfollowed := true, recurses := true, loops := true, apart := false, narrowed := true }
def FnExactNeededTuplesUptoSaid : Prop := fnExactNeededTuplesUptoRow.holds Tryz.pinned (OpenSpec.upto fnExactNeededTuplesSpec)

/-- 'laws.FnExactDeepFormula', WHERE WHAT IT READS IS OF BULK AT MOST 1048576: true; the input reads as it did. -/
def fnExactDeepFormulaUptoRow : OpenClaim := { program := "ytbccfiillleimaagreat", sum := "34e721c671564183ea7e3d0f7fd0b19c832fb4e3b9cfa696c9650b2ea5f47298", func := "loop.example/g00892/laws.FnExactDeepFormula", spec := "fnExactDeepFormula", unfollowed := true, recurses := true, loops := true, apart := false, narrowed := true }
def FnExactDeepFormulaUptoSaid : Prop := fnExactDeepFormulaUptoRow.holds Tryz.pinned (OpenSpec.upto fnExactDeepFormulaSpec)

/-- 'laws.FnExactTuplesOf', WHERE WHAT IT READS IS OF BULK AT MOST 1048576: true; the input reads as it did. -/
def fnExactTuplesOfUptoRow : OpenClaim := { program := "ytbccfiillleimaagreat", sum := "34e721c671564183ea7e3d0f7fd0b19c832fb4e3b9cfa696c9650b2ea5f47298", func := "loop.example/g00892/laws.FnExactTuplesOf", spec := "fnExactTuplesOf", unfollowed := true, recurses := true, loops := true, apart := false, narrowed := true }
def FnExactTuplesOfUptoSaid : Prop := fnExactTuplesOfUptoRow.holds Tryz.pinned (OpenSpec.upto fnExactTuplesOfSpec)

/-- 'laws.FnExactIsExpansionProof', WHERE WHAT IT READS IS OF BULK AT MOST 1048576: true; the input reads as it did. -/
def fnExactIsExpansionProofUptoRow : OpenClaim := { program := "ytbccfiillleimaagreat", sum := "34e721c671564183ea7e3d0f7fd0b19c832fb4e3b9cfa696c9650b2ea5f47298", func := "loop.example/g00892/laws.FnExactIsExpansionProof", spec := "fnExactIsExpansionProof", unfollowed := true, recurses := true, loops := true, apart := false, narrowed := true }
def FnExactIsExpansionProofUptoSaid : Prop := fnExactIsExpansionProofUptoRow.holds Tryz.pinned (OpenSpec.upto fnExactIsExpansionProofSpec)

/-- 'laws.FnExactEigenOrder', WHERE WHAT IT READS IS OF BULK AT MOST 1048576: true; the input reads as it did. -/
def fnExactEigenOrderUptoRow : OpenClaim := { program := "ytbccfiillleimaagreat", sum := "34e721c671564183ea7e3d0f7fd0b19c832fb4e3b9cfa696c9650b2ea5f47298", func := "loop.example/g00892/laws.FnExactEigenOrder", spec := "fnExactEigenOrder", unfollowed := true, recurses := true, loops := true, apart := false, narrowed := true }
def FnExactEigenOrderUptoSaid : Prop := fnExactEigenOrderUptoRow.holds Tryz.pinned (OpenSpec.upto fnExactEigenOrderSpec)

/-- 'laws.FnExactExpansionOfTuples', WHERE WHAT IT READS IS OF BULK AT MOST 1048576: true; the input reads as it did. -/
def fnExactExpansionOfTuplesUptoRow : OpenClaim := { program := "ytbccfiillleimaagreat", sum := "34e721c671564183ea7e3d0f7fd0b19c832fb4e3b9cfa696c9650b2ea5f47298", func := "loop.example/g00892/laws.FnExactExpansionOfTuples", spec := "fnExactExpansionOfTuples", unfollowed := true, recurses := true, loops := true, apart := false, narrowed := true }
def FnExactExpansionOfTuplesUptoSaid : Prop := fnExactExpansionOfTuplesUptoRow.holds Tryz.pinned (OpenSpec.upto fnExactExpansionOfTuplesSpec)

/-- 'laws.FnExactPruneExpansion', WHERE WHAT IT READS IS OF BULK AT MOST 1048576: true; the input reads as it did. -/
def fnExactPruneExpansionUptoRow : OpenClaim := { program := "ytbccfiillleimaagreat", sum := "34e721c671564183ea7e3d0f7fd0b19c832fb4e3b9cfa696c9650b2ea5f47298", func := "loop.example/g00892/laws.FnExactPruneExpansion", spec := "fnExactPruneExpansion", unfollowed := true, recurses := true, loops := true, apart := false, narrowed := true }
def FnExactPruneExpansionUptoSaid : Prop := fnExactPruneExpansionUptoRow.holds Tryz.pinned (OpenSpec.upto fnExactPruneExpansionSpec)

/-- 'laws.FnExactMergeExpansions', WHERE WHAT IT READS IS OF BULK AT MOST 1048576: true; the input reads as it did. -/
def fnExactMergeExpansionsUptoRow : OpenClaim := { program := "ytbccfiillleimaagreat", sum := "34e721c671564183ea7e3d0f7fd0b19c832fb4e3b9cfa696c9650b2ea5f47298", func := "loop.example/g00892/laws.FnExactMergeExpansions", spec := "fnExactMergeExpansions", unfollowed := true, recurses := true, loops := true, apart := false, narrowed := true }
def FnExactMergeExpansionsUptoSaid : Prop := fnExactMergeExpansionsUptoRow.holds Tryz.pinned (OpenSpec.upto fnExactMergeExpansionsSpec)

end Rows
end Go.Proofs.YtbccfiillleimaaGreat
