/-
  NARROWER THAN 'FOR EVERY INPUT', by the rows' own cells (each row's printed sentence says how): FnExactIsValidSequent: loops · FnExactSequentFormula: loops · FnExactFormatSequent: loops · FnExactSimplifyFormula: loops.
  DERIVED. THE GIVEN ROWS OF THIS SEAT. 4 by the template 'for every input the law returns true; each argument reads behind the call as it read before'; 0 by the template 'total and deterministic' (their statements: YtgfjbbbkploonaaTotals.lean).
  GIVEN WITH THE SEED: the statements are not yours to turn. If you find one false, say at which input.
  Laid BY PROGRAM, IN A SANDBOX (cutbox-rows.mjs): the forced cells as the released guide's own fill.sh prints them over the translation 2ef6ce6cf1587879… (all of the seat's roots in one cut). By AI agents, Wed Nov 11 2026. No macro, syntax, notation, axiom, sorry.
-/
import Derived.Test.YtgfjbbbkploonaaChecked
import GoSem.Claim
import GoSem.ClaimJoined
import GoSem.ClaimMapViews
import Derived.JoinedTies
import Derived.KernelRfl
namespace Go.Proofs.Ytgfjbbbkploonaa
/- THE CELL 'sum', in the pinned program and in every row, IS THE sha256 OF THE DUMP (.gsa) THAT YtgfjbbbkploonaaProg.lean LOADS. Nothing in Lean hashes anything: it is a label: what it is worth is what the hold of that sum in a sandbox is worth. -/
noncomputable def Try.pinned : Pinned := { name := "ytgfjbbbkploonaa", sum := "2ef6ce6cf1587879084baa67e35ece29e0a2dfaa5b3be4e3a8d397c2e9ca45b4", checked := Try.checked }
namespace Rows
def none {H : Type} : Left H := { results := [], args := [] }

/-- 'laws.FnExactIsValidSequent': WHATEVER THE INPUT: true; the input reads as it did. -/
def fnExactIsValidSequentSpec : ChangeSpec := { name := "fnExactIsValidSequent", fn := fun _ => fun
  | [d] => { results := [.lit (.bool true)], args := [d] }
  | _ => none }
def fnExactIsValidSequentRow : OpenClaim := { program := "ytgfjbbbkploonaa", sum := "2ef6ce6cf1587879084baa67e35ece29e0a2dfaa5b3be4e3a8d397c2e9ca45b4", func := "loop.example/g00892/laws.FnExactIsValidSequent", spec := "fnExactIsValidSequent", unfollowed := true, recurses := true, loops := true, apart := false }
def FnExactIsValidSequentSaid : Prop := fnExactIsValidSequentRow.holds Try.pinned (OpenSpec.ofChange fnExactIsValidSequentSpec)

/-- ITS FALSE NEIGHBOUR: 'it returns false'. Refute it at one input. -/
def fnExactIsValidSequentWrong : ChangeSpec := { name := "fnExactIsValidSequent", fn := fun _ => fun
  | [d] => { results := [.lit (.bool false)], args := [d] }
  | _ => none }
def FnExactIsValidSequentWrongFalsely : Prop := fnExactIsValidSequentRow.holds Try.pinned (OpenSpec.ofChange fnExactIsValidSequentWrong)

/-- 'laws.FnExactSequentFormula': WHATEVER THE INPUT: true; the input reads as it did. -/
def fnExactSequentFormulaSpec : ChangeSpec := { name := "fnExactSequentFormula", fn := fun _ => fun
  | [d] => { results := [.lit (.bool true)], args := [d] }
  | _ => none }
def fnExactSequentFormulaRow : OpenClaim := { program := "ytgfjbbbkploonaa", sum := "2ef6ce6cf1587879084baa67e35ece29e0a2dfaa5b3be4e3a8d397c2e9ca45b4", func := "loop.example/g00892/laws.FnExactSequentFormula", spec := "fnExactSequentFormula", unfollowed := true, recurses := true, loops := true, apart := false }
def FnExactSequentFormulaSaid : Prop := fnExactSequentFormulaRow.holds Try.pinned (OpenSpec.ofChange fnExactSequentFormulaSpec)

/-- ITS FALSE NEIGHBOUR: 'it returns false'. Refute it at one input. -/
def fnExactSequentFormulaWrong : ChangeSpec := { name := "fnExactSequentFormula", fn := fun _ => fun
  | [d] => { results := [.lit (.bool false)], args := [d] }
  | _ => none }
def FnExactSequentFormulaWrongFalsely : Prop := fnExactSequentFormulaRow.holds Try.pinned (OpenSpec.ofChange fnExactSequentFormulaWrong)

/-- 'laws.FnExactFormatSequent': WHATEVER THE INPUT: true; the input reads as it did. -/
def fnExactFormatSequentSpec : ChangeSpec := { name := "fnExactFormatSequent", fn := fun _ => fun
  | [d] => { results := [.lit (.bool true)], args := [d] }
  | _ => none }
def fnExactFormatSequentRow : OpenClaim := { program := "ytgfjbbbkploonaa", sum := "2ef6ce6cf1587879084baa67e35ece29e0a2dfaa5b3be4e3a8d397c2e9ca45b4", func := "loop.example/g00892/laws.FnExactFormatSequent", spec := "fnExactFormatSequent", inPlace := ["internal/abi.NoEscape", "internal/bytealg.MakeNoZero"], unfollowed := true, recurses := true, loops := true, apart := false }
def FnExactFormatSequentSaid : Prop := fnExactFormatSequentRow.holds Try.pinned (OpenSpec.ofChange fnExactFormatSequentSpec)

/-- ITS FALSE NEIGHBOUR: 'it returns false'. Refute it at one input. -/
def fnExactFormatSequentWrong : ChangeSpec := { name := "fnExactFormatSequent", fn := fun _ => fun
  | [d] => { results := [.lit (.bool false)], args := [d] }
  | _ => none }
def FnExactFormatSequentWrongFalsely : Prop := fnExactFormatSequentRow.holds Try.pinned (OpenSpec.ofChange fnExactFormatSequentWrong)

/-- 'laws.FnExactSimplifyFormula': WHATEVER THE INPUT: true; the input reads as it did. -/
def fnExactSimplifyFormulaSpec : ChangeSpec := { name := "fnExactSimplifyFormula", fn := fun _ => fun
  | [d] => { results := [.lit (.bool true)], args := [d] }
  | _ => none }
def fnExactSimplifyFormulaRow : OpenClaim := { program := "ytgfjbbbkploonaa", sum := "2ef6ce6cf1587879084baa67e35ece29e0a2dfaa5b3be4e3a8d397c2e9ca45b4", func := "loop.example/g00892/laws.FnExactSimplifyFormula", spec := "fnExactSimplifyFormula", unfollowed := true, recurses := true, loops := true, apart := false }
def FnExactSimplifyFormulaSaid : Prop := fnExactSimplifyFormulaRow.holds Try.pinned (OpenSpec.ofChange fnExactSimplifyFormulaSpec)

/-- ITS FALSE NEIGHBOUR: 'it returns false'. Refute it at one input. -/
def fnExactSimplifyFormulaWrong : ChangeSpec := { name := "fnExactSimplifyFormula", fn := fun _ => fun
  | [d] => { results := [.lit (.bool false)], args := [d] }
  | _ => none }
def FnExactSimplifyFormulaWrongFalsely : Prop := fnExactSimplifyFormulaRow.holds Try.pinned (OpenSpec.ofChange fnExactSimplifyFormulaWrong)

/- THE SECOND FORM. 'bulk': how many values and letters a reading holds, each counted each time it is reached (what is shared counts as often as it is met; a slice's spare places count too). A statement '..UptoSaid' is the law's where the arguments, and the package variables that the reading takes, are together of bulk at most 1048576: NARROWER than '..Said'. Prove '..Said' where nothing that the law and all that it calls make is longer than what came in: it says more and counts as full. Else prove '..UptoSaid'. A law counts once. -/
mutual
def uptoBulk {H : Type} : DataW H → Nat
  | .lit (.string bytes) => bytes.length + 1
  | .lit _ => 1
  | .nil => 1
  | .ptr d => uptoBulk d + 1
  | .slice elems spare => uptoBulkAll elems + uptoBulkAll spare + 1
  | .agg parts => uptoBulkAll parts + 1
  | .iface _ d => uptoBulk d + 1
  | .map entries => uptoBulkEntries entries + 1
  | .held _ => 1
def uptoBulkAll {H : Type} : List (DataW H) → Nat
  | [] => 0
  | d :: r => uptoBulk d + uptoBulkAll r
def uptoBulkEntries {H : Type} : List (Lit × DataW H) → Nat
  | [] => 0
  | x :: r => uptoBulkEntry x + uptoBulkEntries r
def uptoBulkEntry {H : Type} : Lit × DataW H → Nat
  | (.string bytes, d) => bytes.length + uptoBulk d + 1
  | (_, d) => uptoBulk d + 1
 end
def uptoSmall : (H : Type) → List (DataW H) → Bool := fun _ ds => decide (uptoBulkAll ds ≤ 1048576)
def OpenSpec.upto (s : _root_.Go.ChangeSpec) : _root_.Go.OpenSpec := { _root_.Go.OpenSpec.ofChange s with cond := some uptoSmall }

/-- 'laws.FnExactIsValidSequent', WHERE WHAT IT READS IS OF BULK AT MOST 1048576: true; the input reads as it did. -/
def fnExactIsValidSequentUptoRow : OpenClaim := { program := "ytgfjbbbkploonaa", sum := "2ef6ce6cf1587879084baa67e35ece29e0a2dfaa5b3be4e3a8d397c2e9ca45b4", func := "loop.example/g00892/laws.FnExactIsValidSequent", spec := "fnExactIsValidSequent", unfollowed := true, recurses := true, loops := true, apart := false, narrowed := true }
def FnExactIsValidSequentUptoSaid : Prop := fnExactIsValidSequentUptoRow.holds Try.pinned (OpenSpec.upto fnExactIsValidSequentSpec)

/-- 'laws.FnExactSequentFormula', WHERE WHAT IT READS IS OF BULK AT MOST 1048576: true; the input reads as it did. -/
def fnExactSequentFormulaUptoRow : OpenClaim := { program := "ytgfjbbbkploonaa", sum := "2ef6ce6cf1587879084baa67e35ece29e0a2dfaa5b3be4e3a8d397c2e9ca45b4", func := "loop.example/g00892/laws.FnExactSequentFormula", spec := "fnExactSequentFormula", unfollowed := true, recurses := true, loops := true, apart := false, narrowed := true }
def FnExactSequentFormulaUptoSaid : Prop := fnExactSequentFormulaUptoRow.holds Try.pinned (OpenSpec.upto fnExactSequentFormulaSpec)

/-- 'laws.FnExactFormatSequent', WHERE WHAT IT READS IS OF BULK AT MOST 1048576: true; the input reads as it did. -/
def fnExactFormatSequentUptoRow : OpenClaim := { program := "ytgfjbbbkploonaa", sum := "2ef6ce6cf1587879084baa67e35ece29e0a2dfaa5b3be4e3a8d397c2e9ca45b4", func := "loop.example/g00892/laws.FnExactFormatSequent", spec := "fnExactFormatSequent", inPlace := ["internal/abi.NoEscape", "internal/bytealg.MakeNoZero"], unfollowed := true, recurses := true, loops := true, apart := false, narrowed := true }
def FnExactFormatSequentUptoSaid : Prop := fnExactFormatSequentUptoRow.holds Try.pinned (OpenSpec.upto fnExactFormatSequentSpec)

/-- 'laws.FnExactSimplifyFormula', WHERE WHAT IT READS IS OF BULK AT MOST 1048576: true; the input reads as it did. -/
def fnExactSimplifyFormulaUptoRow : OpenClaim := { program := "ytgfjbbbkploonaa", sum := "2ef6ce6cf1587879084baa67e35ece29e0a2dfaa5b3be4e3a8d397c2e9ca45b4", func := "loop.example/g00892/laws.FnExactSimplifyFormula", spec := "fnExactSimplifyFormula", unfollowed := true, recurses := true, loops := true, apart := false, narrowed := true }
def FnExactSimplifyFormulaUptoSaid : Prop := fnExactSimplifyFormulaUptoRow.holds Try.pinned (OpenSpec.upto fnExactSimplifyFormulaSpec)

end Rows
end Go.Proofs.Ytgfjbbbkploonaa
