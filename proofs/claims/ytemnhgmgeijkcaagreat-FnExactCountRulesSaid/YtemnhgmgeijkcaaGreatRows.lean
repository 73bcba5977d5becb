/-
  NARROWER THAN 'FOR EVERY INPUT', by the rows' own cells (each row's printed sentence says how): FnExactHerbrandDisjunction: loops · FnExactIsHerbrandProof: loops · FnExactNeededTuples: loops · FnExactPremisesOf: loops · FnExactIsValidDerivation: loops · FnExactFirstWrongNode: loops · FnExactCountRules: loops · FnExactOpenLeaf: loops · FnExactExpansionOfTuples: loops.
  DERIVED. THE GIVEN ROWS OF THIS SEAT. 9 by the template 'for every input the law returns true; each argument reads behind the call as it read before'; 0 by the template 'total and deterministic' (their statements: YtemnhgmgeijkcaaGreatTotals.lean).
  GIVEN WITH THE SEED: the statements are not yours to turn. If you find one false, say at which input.
  Laid BY PROGRAM, IN A SANDBOX (cutbox-rows.mjs): the forced cells as the released guide's own fill.sh prints them over the translation 1cac415d7a9df437… (all of the seat's roots in one cut). By AI agents, Wed Nov 11 2026. No macro, syntax, notation, axiom, sorry.
-/
import Derived.Test.YtemnhgmgeijkcaaGreatChecked
import GoSem.Claim
import GoSem.ClaimJoined
import GoSem.ClaimMapViews
import Derived.JoinedTies
import Derived.KernelRfl
namespace Go.Proofs.YtemnhgmgeijkcaaGreat
/- THE CELL 'sum', in the pinned program and in every row, IS THE sha256 OF THE DUMP (.gsa) THAT YtemnhgmgeijkcaaGreatProg.lean LOADS. Nothing in Lean hashes anything: it is a label: what it is worth is what the hold of that sum in a sandbox is worth. -/
noncomputable def Tryz.pinned : Pinned := { name := "ytemnhgmgeijkcaagreat", sum := "1cac415d7a9df437d6238ab295d206164658eb189fc450062aa0dbeb627edcba", checked := Tryz.checked }
namespace Rows
def none {H : Type} : Left H := { results := [], args := [] }

/-- 'laws.FnExactHerbrandDisjunction': WHATEVER THE INPUT: true; the input reads as it did. -/
def fnExactHerbrandDisjunctionSpec : ChangeSpec := { name := "fnExactHerbrandDisjunction", fn := fun _ => fun
  | [d1, d2] => { results := [.lit (.bool true)], args := [d1, d2] }
  | _ => none }
def fnExactHerbrandDisjunctionRow : OpenClaim := { program := "ytemnhgmgeijkcaagreat", sum := "1cac415d7a9df437d6238ab295d206164658eb189fc450062aa0dbeb627edcba", func := "loop.example/g00892/laws.FnExactHerbrandDisjunction", spec := "fnExactHerbrandDisjunction", unfollowed := true, recurses := true, loops := true, apart := false }
def FnExactHerbrandDisjunctionSaid : Prop := fnExactHerbrandDisjunctionRow.holds Tryz.pinned (OpenSpec.ofChange fnExactHerbrandDisjunctionSpec)

/-- ITS FALSE NEIGHBOUR: 'it returns false'. Refute it at one input. -/
def fnExactHerbrandDisjunctionWrong : ChangeSpec := { name := "fnExactHerbrandDisjunction", fn := fun _ => fun
  | [d1, d2] => { results := [.lit (.bool false)], args := [d1, d2] }
  | _ => none }
def FnExactHerbrandDisjunctionWrongFalsely : Prop := fnExactHerbrandDisjunctionRow.holds Tryz.pinned (OpenSpec.ofChange fnExactHerbrandDisjunctionWrong)

/-- 'laws.FnExactIsHerbrandProof': WHATEVER THE INPUT: true; the input reads as it did. -/
def fnExactIsHerbrandProofSpec : ChangeSpec := { name := "fnExactIsHerbrandProof", fn := fun _ => fun
  | [d1, d2] => { results := [.lit (.bool true)], args := [d1, d2] }
  | _ => none }
def fnExactIsHerbrandProofRow : OpenClaim := { program := "ytemnhgmgeijkcaagreat", sum := "1cac415d7a9df437d6238ab295d206164658eb189fc450062aa0dbeb627edcba", func := "loop.example/g00892/laws.FnExactIsHerbrandProof", spec := "fnExactIsHerbrandProof", unfollowed := true, recurses := true, loops := true, apart := false }
def FnExactIsHerbrandProofSaid : Prop := fnExactIsHerbrandProofRow.holds Tryz.pinned (OpenSpec.ofChange fnExactIsHerbrandProofSpec)

/-- ITS FALSE NEIGHBOUR: 'it returns false'. Refute it at one input. -/
def fnExactIsHerbrandProofWrong : ChangeSpec := { name := "fnExactIsHerbrandProof", fn := fun _ => fun
  | [d1, d2] => { results := [.lit (.bool false)], args := [d1, d2] }
  | _ => none }
def FnExactIsHerbrandProofWrongFalsely : Prop := fnExactIsHerbrandProofRow.holds Tryz.pinned (OpenSpec.ofChange fnExactIsHerbrandProofWrong)

/-- 'laws.FnExactNeededTuples': WHATEVER THE INPUT: true; the input reads as it did. -/
def fnExactNeededTuplesSpec : ChangeSpec := { name := "fnExactNeededTuples", fn := fun _ => fun
  | [d1, d2] => { results := [.lit (.bool true)], args := [d1, d2] }
  | _ => none }
def fnExactNeededTuplesRow : OpenClaim := { program := "ytemnhgmgeijkcaagreat", sum := "1cac415d7a9df437d6238ab295d206164658eb189fc450062aa0dbeb627edcba", func := "loop.example/g00892/laws.FnExactNeededTuples", spec := "fnExactNeededTuples", unfollowed := true, recurses := true, loops := true, apart := false }
def FnExactNeededTuplesSaid : Prop := fnExactNeededTuplesRow.holds Tryz.pinned (OpenSpec.ofChange fnExactNeededTuplesSpec)

/-- ITS FALSE NEIGHBOUR: 'it returns false'. Refute it at one input. -/
def fnExactNeededTuplesWrong : ChangeSpec := { name := "fnExactNeededTuples", fn := fun _ => fun
  | [d1, d2] => { results := [.lit (.bool false)], args := [d1, d2] }
  | _ => none }
def FnExactNeededTuplesWrongFalsely : Prop := fnExactNeededTuplesRow.holds Tryz.pinned (OpenSpec.ofChange fnExactNeededTuplesWrong)

/-- 'laws.FnExactPremisesOf': WHATEVER THE INPUT: true; the input reads as it did. -/
def fnExactPremisesOfSpec : ChangeSpec := { name := "fnExactPremisesOf", fn := fun _ => fun
  | [d1, d2] => { results := [.lit (.bool true)], args := [d1, d2] }
  | _ => none }
def fnExactPremisesOfRow : OpenClaim := { program := "ytemnhgmgeijkcaagreat", sum := "1cac415d7a9df437d6238ab295d206164658eb189fc450062aa0dbeb627edcba", func := "loop.example/g00892/laws.FnExactPremisesOf", spec := "fnExactPremisesOf", unfollowed := true, recurses := true, loops := true, apart := false }
def FnExactPremisesOfSaid : Prop := fnExactPremisesOfRow.holds Tryz.pinned (OpenSpec.ofChange fnExactPremisesOfSpec)

/-- ITS FALSE NEIGHBOUR: 'it returns false'. Refute it at one input. -/
def fnExactPremisesOfWrong : ChangeSpec := { name := "fnExactPremisesOf", fn := fun _ => fun
  | [d1, d2] => { results := [.lit (.bool false)], args := [d1, d2] }
  | _ => none }
def FnExactPremisesOfWrongFalsely : Prop := fnExactPremisesOfRow.holds Tryz.pinned (OpenSpec.ofChange fnExactPremisesOfWrong)

/-- 'laws.FnExactIsValidDerivation': WHATEVER THE INPUT: true; the input reads as it did. -/
def fnExactIsValidDerivationSpec : ChangeSpec := { name := "fnExactIsValidDerivation", fn := fun _ => fun
  | [d] => { results := [.lit (.bool true)], args := [d] }
  | _ => none }
def fnExactIsValidDerivationRow : OpenClaim := { program := "ytemnhgmgeijkcaagreat", sum := "1cac415d7a9df437d6238ab295d206164658eb189fc450062aa0dbeb627edcba", func := "loop.example/g00892/laws.FnExactIsValidDerivation", spec := "fnExactIsValidDerivation", unfollowed := true, recurses := true, loops := true, apart := false }
def FnExactIsValidDerivationSaid : Prop := fnExactIsValidDerivationRow.holds Tryz.pinned (OpenSpec.ofChange fnExactIsValidDerivationSpec)

/-- ITS FALSE NEIGHBOUR: 'it returns false'. Refute it at one input. -/
def fnExactIsValidDerivationWrong : ChangeSpec := { name := "fnExactIsValidDerivation", fn := fun _ => fun
  | [d] => { results := [.lit (.bool false)], args := [d] }
  | _ => none }
def FnExactIsValidDerivationWrongFalsely : Prop := fnExactIsValidDerivationRow.holds Tryz.pinned (OpenSpec.ofChange fnExactIsValidDerivationWrong)

/-- 'laws.FnExactFirstWrongNode': WHATEVER THE INPUT: true; the input reads as it did. -/
def fnExactFirstWrongNodeSpec : ChangeSpec := { name := "fnExactFirstWrongNode", fn := fun _ => fun
  | [d] => { results := [.lit (.bool true)], args := [d] }
  | _ => none }
def fnExactFirstWrongNodeRow : OpenClaim := { program := "ytemnhgmgeijkcaagreat", sum := "1cac415d7a9df437d6238ab295d206164658eb189fc450062aa0dbeb627edcba", func := "loop.example/g00892/laws.FnExactFirstWrongNode", spec := "fnExactFirstWrongNode", unfollowed := true, recurses := true, loops := true, apart := false }
def FnExactFirstWrongNodeSaid : Prop := fnExactFirstWrongNodeRow.holds Tryz.pinned (OpenSpec.ofChange fnExactFirstWrongNodeSpec)

/-- ITS FALSE NEIGHBOUR: 'it returns false'. Refute it at one input. -/
def fnExactFirstWrongNodeWrong : ChangeSpec := { name := "fnExactFirstWrongNode", fn := fun _ => fun
  | [d] => { results := [.lit (.bool false)], args := [d] }
  | _ => none }
def FnExactFirstWrongNodeWrongFalsely : Prop := fnExactFirstWrongNodeRow.holds Tryz.pinned (OpenSpec.ofChange fnExactFirstWrongNodeWrong)

/-- 'laws.FnExactCountRules': WHATEVER THE INPUT: true; the input reads as it did. -/
def fnExactCountRulesSpec : ChangeSpec := { name := "fnExactCountRules", fn := fun _ => fun
  | [d] => { results := [.lit (.bool true)], args := [d] }
  | _ => none }
def fnExactCountRulesRow : OpenClaim := { program := "ytemnhgmgeijkcaagreat", sum := "1cac415d7a9df437d6238ab295d206164658eb189fc450062aa0dbeb627edcba", func := "loop.example/g00892/laws.FnExactCountRules", spec := "fnExactCountRules", unfollowed := true, recurses := true, loops := true, apart := false }
def FnExactCountRulesSaid : Prop := fnExactCountRulesRow.holds Tryz.pinned (OpenSpec.ofChange fnExactCountRulesSpec)

/-- ITS FALSE NEIGHBOUR: 'it returns false'. Refute it at one input. -/
def fnExactCountRulesWrong : ChangeSpec := { name := "fnExactCountRules", fn := fun _ => fun
  | [d] => { results := [.lit (.bool false)], args := [d] }
  | _ => none }
def FnExactCountRulesWrongFalsely : Prop := fnExactCountRulesRow.holds Tryz.pinned (OpenSpec.ofChange fnExactCountRulesWrong)

/-- 'laws.FnExactOpenLeaf': WHATEVER THE INPUT: true; the input reads as it did. -/
def fnExactOpenLeafSpec : ChangeSpec := { name := "fnExactOpenLeaf", fn := fun _ => fun
  | [d] => { results := [.lit (.bool true)], args := [d] }
  | _ => none }
def fnExactOpenLeafRow : OpenClaim := { program := "ytemnhgmgeijkcaagreat", sum := "1cac415d7a9df437d6238ab295d206164658eb189fc450062aa0dbeb627edcba", func := "loop.example/g00892/laws.FnExactOpenLeaf", spec := "fnExactOpenLeaf", unfollowed := true, recurses := true, loops := true, apart := false }
def FnExactOpenLeafSaid : Prop := fnExactOpenLeafRow.holds Tryz.pinned (OpenSpec.ofChange fnExactOpenLeafSpec)

/-- ITS FALSE NEIGHBOUR: 'it returns false'. Refute it at one input. -/
def fnExactOpenLeafWrong : ChangeSpec := { name := "fnExactOpenLeaf", fn := fun _ => fun
  | [d] => { results := [.lit (.bool false)], args := [d] }
  | _ => none }
def FnExactOpenLeafWrongFalsely : Prop := fnExactOpenLeafRow.holds Tryz.pinned (OpenSpec.ofChange fnExactOpenLeafWrong)

/-- 'laws.FnExactExpansionOfTuples': WHATEVER THE INPUT: true; the input reads as it did. -/
def fnExactExpansionOfTuplesSpec : ChangeSpec := { name := "fnExactExpansionOfTuples", fn := fun _ => fun
  | [d1, d2] => { results := [.lit (.bool true)], args := [d1, d2] }
  | _ => none }
def fnExactExpansionOfTuplesRow : OpenClaim := { program := "ytemnhgmgeijkcaagreat", sum := "1cac415d7a9df437d6238ab295d206164658eb189fc450062aa0dbeb627edcba", func := "loop.example/g00892/laws.FnExactExpansionOfTuples", spec := "fnExactExpansionOfTuples", unfollowed := true, recurses := true, loops := true, apart := false }
def FnExactExpansionOfTuplesSaid : Prop := fnExactExpansionOfTuplesRow.holds Tryz.pinned (OpenSpec.ofChange fnExactExpansionOfTuplesSpec)

/-- ITS FALSE NEIGHBOUR: 'it returns false'. Refute it at one input. -/
def fnExactExpansionOfTuplesWrong : ChangeSpec := { name := "fnExactExpansionOfTuples", fn := fun _ => fun
  | [d1, d2] => { results := [.lit (.bool false)], args := [d1, d2] }
  | _ => none }
def FnExactExpansionOfTuplesWrongFalsely : Prop := fnExactExpansionOfTuplesRow.holds Tryz.pinned (OpenSpec.ofChange fnExactExpansionOfTuplesWrong)

/- THE SECOND FORM. 'bulk': how many values and letters a reading holds, each counted each time it is reached (what is shared counts as often as it is met; a slice's spare places count too). A statement '..UptoSaid' is the law's where the arguments, and the package variables that the reading takes, are together of bulk at most 1048576: NARROWER than '..Said'. Prove '..Said' where nothing that the law and all that it calls make is longer than what came in: it says more and counts as full. Else prove '..UptoSaid'. A law counts once. -/
mutual
def uptoBulk {H : Type} : DataW H → Nat
  | .lit (.string bytes) => bytes.length + 1
  | .lit _ => 1
  | .nil => 1
  | .ptr d => uptoBulk d + 1
  | .slice elems spare => uptoBulkAll elems + uptoBulkAll spare + 1
  | .agg parts => uptoBulkAll parts + 1
  | .iface _ d => uptoBulk d + 1
  | .map entries => uptoBulkEntries entries + 1
  | .held _ => 1
def uptoBulkAll {H : Type} : List (DataW H) → Nat
  | [] => 0
  | d :: r => uptoBulk d + uptoBulkAll r
def uptoBulkEntries {H : Type} : List (Lit × DataW H) → Nat
  | [] => 0
  | x :: r => uptoBulkEntry x + uptoBulkEntries r
def uptoBulkEntry {H : Type} : Lit × DataW H → Nat
  | (.string bytes, d) => bytes.length + uptoBulk d + 1
  | (_, d) => uptoBulk d + 1
 end
def uptoSmall : (H : Type) → List (DataW H) → Bool := fun _ ds => decide (uptoBulkAll ds ≤ 1048576)
def OpenSpec.upto (s : _root_.Go.ChangeSpec) : _root_.Go.OpenSpec := { _root_.Go.OpenSpec.ofChange s with cond := some uptoSmall }

/-- 'laws.FnExactHerbrandDisjunction', WHERE WHAT IT READS IS OF BULK AT MOST 1048576: true; the input reads as it did. -/
def fnExactHerbrandDisjunctionUptoRow : OpenClaim := { program := "ytemnhgmgeijkcaagreat", sum := "1cac415d7a9df437d6238ab295d206164658eb189fc450062aa0dbeb627edcba", func := "loop.example/g00892/laws.FnExactHerbrandDisjunction", spec := "fnExactHerbrandDisjunction", unfollowed := true, recurses := true, loops := true, apart := false, narrowed := true }
def FnExactHerbrandDisjunctionUptoSaid : Prop := fnExactHerbrandDisjunctionUptoRow.holds Tryz.pinned (OpenSpec.upto fnExactHerbrandDisjunctionSpec)

/-- 'laws.FnExactIsHerbrandProof', WHERE WHAT IT READS IS OF BULK AT MOST 1048576: true; the input reads as it did. -/
def fnExactIsHerbrandProofUptoRow : OpenClaim := { program := "ytemnhgmgeijkcaagreat", sum := "1cac415d7a9df437d6238ab295d206164658eb189fc450062aa0dbeb627edcba", func := "loop.example/g00892/laws.FnExactIsHerbrandProof", spec := "fnExactIsHerbrandProof", unfollowed := true, recurses := true, loops := true, apart := false, narrowed := true }
def FnExactIsHerbrandProofUptoSaid : Prop := fnExactIsHerbrandProofUptoRow.holds Tryz.pinned (OpenSpec.upto fnExactIsHerbrandProofSpec)

/-- 'laws.FnExactNeededTuples', WHERE WHAT IT READS IS OF BULK AT MOST 1048576: true; the input reads as it did. -/
def fnExactNeededTuplesUptoRow : OpenClaim := { program := "ytemnhgmgeijkcaagreat", sum := "1cac415d7a9df437d6238ab295d206164658eb189fc450062aa0dbeb627edcba", func := "loop.example/g00892/laws.FnExactNeededTuples", spec := "fnExactNeededTuples", unfollowed := true, recurses := true, loops := true, apart := false, narrowed := true }
def FnExactNeededTuplesUptoSaid : Prop := fnExactNeededTuplesUptoRow.holds Tryz.pinned (OpenSpec.upto fnExactNeededTuplesSpec)

/-- 'laws.FnExactPremisesOf', WHERE WHAT IT READS IS OF BULK AT MOST 1048576: true; the input reads as it did. -/
def fnExactPremisesOfUptoRow : OpenClaim := { program := "ytemnhgmgeijkcaagreat", sum := "1cac415d7a9df437d6238ab295d206164658eb189fc450062aa0dbeb627edcba", func := "loop.example/g00892/laws.FnExactPremisesOf", spec := "fnExactPremisesOf", unfollowed := true, recurses := true, loops := true, apart := false, narrowed := true }
def FnExactPremisesOfUptoSaid : Prop := fnExactPremisesOfUptoRow.holds Tryz.pinned (OpenSpec.upto fnExactPremisesOfSpec)

/-- 'laws.FnExactIsValidDerivation', WHERE WHAT IT READS IS OF BULK AT MOST 1048576: true; the input reads as it did. -/
def fnExactIsValidDerivationUptoRow : OpenClaim := { program := "ytemnhgmgeijkcaagreat", sum := "1cac415d7a9df437d6238ab295d206164658eb189fc450062aa0dbeb627edcba", func := "loop.example/g00892/laws.FnExactIsValidDerivation", spec := "fnExactIsValidDerivation", unfollowed := true, recurses := true, loops := true, apart := false, narrowed := true }
def FnExactIsValidDerivationUptoSaid : Prop := fnExactIsValidDerivationUptoRow.holds Tryz.pinned (OpenSpec.upto fnExactIsValidDerivationSpec)

/-- 'laws.FnExactFirstWrongNode', WHERE WHAT IT READS IS OF BULK AT MOST 1048576: true; the input reads as it did. -/
def fnExactFirstWrongNodeUptoRow : OpenClaim := { program := "ytemnhgmgeijkcaagreat", sum := "1cac415d7a9df437d6238ab295d206164658eb189fc450062aa0dbeb627edcba", func := "loop.example/g00892/laws.FnExactFirstWrongNode", spec := "fnExactFirstWrongNode", unfollowed := true, recurses := true, loops := true, apart := false, narrowed := true }
def FnExactFirstWrongNodeUptoSaid : Prop := fnExactFirstWrongNodeUptoRow.holds Tryz.pinned (OpenSpec.upto fnExactFirstWrongNodeSpec)

/-- 'laws.FnExactCountRules', WHERE WHAT IT READS IS OF BULK AT MOST 1048576: true; the input reads as it did. -/
def fnExactCountRulesUptoRow : OpenClaim := { program := "ytemnhgmgeijkcaagreat", sum := "1cac415d7a9df437d6238ab295d206164658eb189fc450062aa0dbeb627edcba", func := "loop.example/g00892/laws.FnExactCountRules", spec := "fnExactCountRules", unfollowed := true, recurses := true, loops := true, apart := false, narrowed := true }
def FnExactCountRulesUptoSaid : Prop := fnExactCountRulesUptoRow.holds Tryz.pinned (OpenSpec.upto fnExactCountRulesSpec)

/-- 'laws.FnExactOpenLeaf', WHERE WHAT IT READS IS OF BULK AT MOST 1048576: true; the input reads as it did. -/
def fnExactOpenLeafUptoRow : OpenClaim := { program := "ytemnhgmgeijkcaagreat", sum := "1cac415d7a9df437d6238ab295d206164658eb189fc450062aa0dbeb627edcba", func := "loop.example/g00892/laws.FnExactOpenLeaf", spec := "fnExactOpenLeaf", unfollowed := true, recurses := true, loops := true, apart := false, narrowed := true }
def FnExactOpenLeafUptoSaid : Prop := fnExactOpenLeafUptoRow.holds Tryz.pinned (OpenSpec.upto fnExactOpenLeafSpec)

/-- 'laws.FnExactExpansionOfTuples', WHERE WHAT IT READS IS OF BULK AT MOST 1048576: true; the input reads as it did. -/
def fnExactExpansionOfTuplesUptoRow : OpenClaim := { program := "ytemnhgmgeijkcaagreat", sum := "1cac415d7a9df437d6238ab295d206164658eb189fc450062aa0dbeb627edcba", func := "loop.example/g00892/laws.FnExactExpansionOfTuples", spec := "fnExactExpansionOfTuples", unfollowed := true, recurses := true, loops := true, apart := false, narrowed := true }
def FnExactExpansionOfTuplesUptoSaid : Prop := fnExactExpansionOfTuplesUptoRow.holds Tryz.pinned (OpenSpec.upto fnExactExpansionOfTuplesSpec)

end Rows
end Go.Proofs.YtemnhgmgeijkcaaGreat
