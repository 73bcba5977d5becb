/-
  NARROWER THAN 'FOR EVERY INPUT', by the rows' own cells (each row's printed sentence says how): FnExactExpansionOfTuples: loops · FnExactPruneExpansion: loops.
  DERIVED. THE GIVEN ROWS OF THIS SEAT. 4 by the template 'for every input the law returns true; each argument reads behind the call as it read before'; 0 by the template 'total and deterministic' (their statements: YtliiapbmkcbfaaaGreatTotals.lean).
  GIVEN WITH THE SEED: the statements are not yours to turn. If you find one false, say at which input.
  Laid BY PROGRAM, IN A SANDBOX (cutbox-rows.mjs): the forced cells as the released guide's own fill.sh prints them over the translation 4524e9439136f840… (all of the seat's roots in one cut). By AI agents, Wed Nov 11 2026. No macro, syntax, notation, axiom, sorry.
-/
import Derived.Test.YtliiapbmkcbfaaaGreatChecked
import GoSem.Claim
import GoSem.ClaimJoined
import GoSem.ClaimMapViews
import Derived.JoinedTies
import Derived.KernelRfl
namespace Go.Proofs.YtliiapbmkcbfaaaGreat
/- THE CELL 'sum', in the pinned program and in every row, IS THE sha256 OF THE DUMP (.gsa) THAT YtliiapbmkcbfaaaGreatProg.lean LOADS. Nothing in Lean hashes anything: it is a label: what it is worth is what the hold of that sum in a sandbox is worth. -/
noncomputable def Tryz.pinned : Pinned := { name := "ytliiapbmkcbfaaagreat", sum := "4524e9439136f84062f3a44916e3ba710bdbb167a0b30566c43d9f9d1d94cbe5", checked := Tryz.checked }
namespace Rows
def none {H : Type} : Left H := { results := [], args := [] }

/-- 'laws.FnExactExpansionOfTuples': WHATEVER THE INPUT: true; the input reads as it did. -/
def fnExactExpansionOfTuplesSpec : ChangeSpec := { name := "fnExactExpansionOfTuples", fn := fun _ => fun
  | [d1, d2] => { results := [.lit (.bool true)], args := [d1, d2] }
  | _ => none }
def fnExactExpansionOfTuplesRow : OpenClaim := { program := "ytliiapbmkcbfaaagreat", sum := "4524e9439136f84062f3a44916e3ba710bdbb167a0b30566c43d9f9d1d94cbe5", func := "loop.example/g00892/laws.FnExactExpansionOfTuples", spec := "fnExactExpansionOfTuples", unfollowed := true, recurses := true, loops := true, apart := false }
def FnExactExpansionOfTuplesSaid : Prop := fnExactExpansionOfTuplesRow.holds Tryz.pinned (OpenSpec.ofChange fnExactExpansionOfTuplesSpec)

/-- ITS FALSE NEIGHBOUR: 'it returns false'. Refute it at one input. -/
def fnExactExpansionOfTuplesWrong : ChangeSpec := { name := "fnExactExpansionOfTuples", fn := fun _ => fun
  | [d1, d2] => { results := [.lit (.bool false)], args := [d1, d2] }
  | _ => none }
def FnExactExpansionOfTuplesWrongFalsely : Prop := fnExactExpansionOfTuplesRow.holds Tryz.pinned (OpenSpec.ofChange fnExactExpansionOfTuplesWrong)

/-- 'laws.FnExactPruneExpansion': WHATEVER THE INPUT: true; the input reads as it did. -/
def fnExactPruneExpansionSpec : ChangeSpec := { name := "fnExactPruneExpansion", fn := fun _ => fun
  | [d] => { results := [.lit (.bool true)], args := [d] }
  | _ => none }
def fnExactPruneExpansionRow : OpenClaim := { program := "ytliiapbmkcbfaaagreat", sum := "4524e9439136f84062f3a44916e3ba710bdbb167a0b30566c43d9f9d1d94cbe5", func := "loop.example/g00892/laws.FnExactPruneExpansion", spec := "fnExactPruneExpansion", unfollowed := true, recurses := true, loops := true, apart := false }
def FnExactPruneExpansionSaid : Prop := fnExactPruneExpansionRow.holds Tryz.pinned (OpenSpec.ofChange fnExactPruneExpansionSpec)

/-- ITS FALSE NEIGHBOUR: 'it returns false'. Refute it at one input. -/
def fnExactPruneExpansionWrong : ChangeSpec := { name := "fnExactPruneExpansion", fn := fun _ => fun
  | [d] => { results := [.lit (.bool false)], args := [d] }
  | _ => none }
def FnExactPruneExpansionWrongFalsely : Prop := fnExactPruneExpansionRow.holds Tryz.pinned (OpenSpec.ofChange fnExactPruneExpansionWrong)

/-- 'laws.FnEigen': WHATEVER THE INPUT: true; the input reads as it did. -/
def fnEigenSpec : ChangeSpec := { name := "fnEigen", fn := fun _ => fun
  | [d] => { results := [.lit (.bool true)], args := [d] }
  | _ => none }
def fnEigenRow : OpenClaim := { program := "ytliiapbmkcbfaaagreat", sum := "4524e9439136f84062f3a44916e3ba710bdbb167a0b30566c43d9f9d1d94cbe5", func := "loop.example/g00892/laws.FnEigen", spec := "fnEigen", unfollowed := true, recurses := true, apart := false }
def FnEigenSaid : Prop := fnEigenRow.holds Tryz.pinned (OpenSpec.ofChange fnEigenSpec)

/-- ITS FALSE NEIGHBOUR: 'it returns false'. Refute it at one input. -/
def fnEigenWrong : ChangeSpec := { name := "fnEigen", fn := fun _ => fun
  | [d] => { results := [.lit (.bool false)], args := [d] }
  | _ => none }
def FnEigenWrongFalsely : Prop := fnEigenRow.holds Tryz.pinned (OpenSpec.ofChange fnEigenWrong)

/-- 'laws.FnTuples': WHATEVER THE INPUT: true; the input reads as it did. -/
def fnTuplesSpec : ChangeSpec := { name := "fnTuples", fn := fun _ => fun
  | [d] => { results := [.lit (.bool true)], args := [d] }
  | _ => none }
def fnTuplesRow : OpenClaim := { program := "ytliiapbmkcbfaaagreat", sum := "4524e9439136f84062f3a44916e3ba710bdbb167a0b30566c43d9f9d1d94cbe5", func := "loop.example/g00892/laws.FnTuples", spec := "fnTuples", unfollowed := true, recurses := true, apart := false }
def FnTuplesSaid : Prop := fnTuplesRow.holds Tryz.pinned (OpenSpec.ofChange fnTuplesSpec)

/-- ITS FALSE NEIGHBOUR: 'it returns false'. Refute it at one input. -/
def fnTuplesWrong : ChangeSpec := { name := "fnTuples", fn := fun _ => fun
  | [d] => { results := [.lit (.bool false)], args := [d] }
  | _ => none }
def FnTuplesWrongFalsely : Prop := fnTuplesRow.holds Tryz.pinned (OpenSpec.ofChange fnTuplesWrong)

/- THE SECOND FORM. 'bulk': how many values and letters a reading holds, each counted each time it is reached (what is shared counts as often as it is met; a slice's spare places count too). A statement '..UptoSaid' is the law's where the arguments, and the package variables that the reading takes, are together of bulk at most 1048576: NARROWER than '..Said'. Prove '..Said' where nothing that the law and all that it calls make is longer than what came in: it says more and counts as full. Else prove '..UptoSaid'. A law counts once. -/
mutual
def uptoBulk {H : Type} : DataW H → Nat
  | .lit (.string bytes) => bytes.length + 1
  | .lit _ => 1
  | .nil => 1
  | .ptr d => uptoBulk d + 1
  | .slice elems spare => uptoBulkAll elems + uptoBulkAll spare + 1
  | .agg parts => uptoBulkAll parts + 1
  | .iface _ d => uptoBulk d + 1
  | .map entries => uptoBulkEntries entries + 1
  | .held _ => 1
def uptoBulkAll {H : Type} : List (DataW H) → Nat
  | [] => 0
  | d :: r => uptoBulk d + uptoBulkAll r
def uptoBulkEntries {H : Type} : List (Lit × DataW H) → Nat
  | [] => 0
  | x :: r => uptoBulkEntry x + uptoBulkEntries r
def uptoBulkEntry {H : Type} : Lit × DataW H → Nat
  | (.string bytes, d) => bytes.length + uptoBulk d + 1
  | (_, d) => uptoBulk d + 1
 end
def uptoSmall : (H : Type) → List (DataW H) → Bool := fun _ ds => decide (uptoBulkAll ds ≤ 1048576)
def OpenSpec.upto (s : _root_.Go.ChangeSpec) : _root_.Go.OpenSpec := { _root_.Go.OpenSpec.ofChange s with cond := some uptoSmall }

/-- 'laws.FnExactExpansionOfTuples', WHERE WHAT IT READS IS OF BULK AT MOST 1048576: true; the input reads as it did. -/
def fnExactExpansionOfTuplesUptoRow : OpenClaim := { program := "ytliiapbmkcbfaaagreat", sum := "4524e9439136f84062f3a44916e3ba710bdbb167a0b30566c43d9f9d1d94cbe5", func := "loop.example/g00892/laws.FnExactExpansionOfTuples", spec := "fnExactExpansionOfTuples", unfollowed := true, recurses := true, loops := true, apart := false, narrowed := true }
def FnExactExpansionOfTuplesUptoSaid : Prop := fnExactExpansionOfTuplesUptoRow.holds Tryz.pinned (OpenSpec.upto fnExactExpansionOfTuplesSpec)

/-- 'laws.FnExactPruneExpansion', WHERE WHAT IT READS IS OF BULK AT MOST 1048576: true; the input reads as it did. -/
def fnExactPruneExpansionUptoRow : OpenClaim := { program := "ytliiapbmkcbfaaagreat", sum := "4524e9439136f84062f3a44916e3ba710bdbb167a0b30566c43d9f9d1d94cbe5", func := "loop.example/g00892/laws.FnExactPruneExpansion", spec := "fnExactPruneExpansion", unfollowed := true, recurses := true, loops := true, apart := false, narrowed := true }
def FnExactPruneExpansionUptoSaid : Prop := fnExactPruneExpansionUptoRow.holds Tryz.pinned (OpenSpec.upto fnExactPruneExpansionSpec)

/-- 'laws.FnEigen', WHERE WHAT IT READS IS OF BULK AT MOST 1048576: true; the input reads as it did. -/
def fnEigenUptoRow : OpenClaim := { program := "ytliiapbmkcbfaaagreat", sum := "4524e9439136f84062f3a44916e3ba710bdbb167a0b30566c43d9f9d1d94cbe5", func := "loop.example/g00892/laws.FnEigen", spec := "fnEigen", unfollowed := true, recurses := true, apart := false, narrowed := true }
def FnEigenUptoSaid : Prop := fnEigenUptoRow.holds Tryz.pinned (OpenSpec.upto fnEigenSpec)

/-- 'laws.FnTuples', WHERE WHAT IT READS IS OF BULK AT MOST 1048576: true; the input reads as it did. -/
def fnTuplesUptoRow : OpenClaim := { program := "ytliiapbmkcbfaaagreat", sum := "4524e9439136f84062f3a44916e3ba710bdbb167a0b30566c43d9f9d1d94cbe5", func := "loop.example/g00892/laws.FnTuples", spec := "fnTuples", unfollowed := true, recurses := true, apart := false, narrowed := true }
def FnTuplesUptoSaid : Prop := fnTuplesUptoRow.holds Tryz.pinned (OpenSpec.upto fnTuplesSpec)

end Rows
end Go.Proofs.YtliiapbmkcbfaaaGreat
