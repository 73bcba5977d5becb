/-
  NARROWER THAN 'FOR EVERY INPUT', by the rows' own cells (each row's printed sentence says how): FnExactIsValidNatural: loops · FnExactFirstWrongStep: loops · FnExactFirstDetour: loops · FnExactNaturalSequent: loops · FnExactOpenAssumptions: loops · FnExactInsertProof: loops · FnExactRemoveDetour: loops · FnExactNormalizeProof: loops.
  DERIVED. THE GIVEN ROWS OF THIS SEAT. 8 by the template 'for every input the law returns true; each argument reads behind the call as it read before'; 0 by the template 'total and deterministic' (their statements: YtnemmlahbbbobaaGreatTotals.lean).
  GIVEN WITH THE SEED: the statements are not yours to turn. If you find one false, say at which input.
  Laid BY PROGRAM, IN A SANDBOX (cutbox-rows.mjs): the forced cells as the released guide's own fill.sh prints them over the translation b957700cc6db71d6… (all of the seat's roots in one cut). By AI agents, Wed Nov 11 2026. No macro, syntax, notation, axiom, sorry.
-/
import Derived.Test.YtnemmlahbbbobaaGreatChecked
import GoSem.Claim
import GoSem.ClaimJoined
import GoSem.ClaimMapViews
import Derived.JoinedTies
import Derived.KernelRfl
namespace Go.Proofs.YtnemmlahbbbobaaGreat
/- THE CELL 'sum', in the pinned program and in every row, IS THE sha256 OF THE DUMP (.gsa) THAT YtnemmlahbbbobaaGreatProg.lean LOADS. Nothing in Lean hashes anything: it is a label: what it is worth is what the hold of that sum in a sandbox is worth. -/
noncomputable def Tryz.pinned : Pinned := { name := "ytnemmlahbbbobaagreat", sum := "b957700cc6db71d6de8aa2fddfbbfd4f5e7d0bbe47e77f0893ea4fab15216e8a", checked := Tryz.checked }
namespace Rows
def none {H : Type} : Left H := { results := [], args := [] }

/-- 'laws.FnExactIsValidNatural': WHATEVER THE INPUT: true; the input reads as it did. -/
def fnExactIsValidNaturalSpec : ChangeSpec := { name := "fnExactIsValidNatural", fn := fun _ => fun
  | [d] => { results := [.lit (.bool true)], args := [d] }
  | _ => none }
def fnExactIsValidNaturalRow : OpenClaim := { program := "ytnemmlahbbbobaagreat", sum := "b957700cc6db71d6de8aa2fddfbbfd4f5e7d0bbe47e77f0893ea4fab15216e8a", func := "loop.example/g00892/laws.FnExactIsValidNatural", spec := "fnExactIsValidNatural", unfollowed := true, recurses := true, loops := true, apart := false }
def FnExactIsValidNaturalSaid : Prop := fnExactIsValidNaturalRow.holds Tryz.pinned (OpenSpec.ofChange fnExactIsValidNaturalSpec)

/-- ITS FALSE NEIGHBOUR: 'it returns false'. Refute it at one input. -/
def fnExactIsValidNaturalWrong : ChangeSpec := { name := "fnExactIsValidNatural", fn := fun _ => fun
  | [d] => { results := [.lit (.bool false)], args := [d] }
  | _ => none }
def FnExactIsValidNaturalWrongFalsely : Prop := fnExactIsValidNaturalRow.holds Tryz.pinned (OpenSpec.ofChange fnExactIsValidNaturalWrong)

/-- 'laws.FnExactFirstWrongStep': WHATEVER THE INPUT: true; the input reads as it did. -/
def fnExactFirstWrongStepSpec : ChangeSpec := { name := "fnExactFirstWrongStep", fn := fun _ => fun
  | [d] => { results := [.lit (.bool true)], args := [d] }
  | _ => none }
def fnExactFirstWrongStepRow : OpenClaim := { program := "ytnemmlahbbbobaagreat", sum := "b957700cc6db71d6de8aa2fddfbbfd4f5e7d0bbe47e77f0893ea4fab15216e8a", func := "loop.example/g00892/laws.FnExactFirstWrongStep", spec := "fnExactFirstWrongStep", unfollowed := true, recurses := true, loops := true, apart := false }
def FnExactFirstWrongStepSaid : Prop := fnExactFirstWrongStepRow.holds Tryz.pinned (OpenSpec.ofChange fnExactFirstWrongStepSpec)

/-- ITS FALSE NEIGHBOUR: 'it returns false'. Refute it at one input. -/
def fnExactFirstWrongStepWrong : ChangeSpec := { name := "fnExactFirstWrongStep", fn := fun _ => fun
  | [d] => { results := [.lit (.bool false)], args := [d] }
  | _ => none }
def FnExactFirstWrongStepWrongFalsely : Prop := fnExactFirstWrongStepRow.holds Tryz.pinned (OpenSpec.ofChange fnExactFirstWrongStepWrong)

/-- 'laws.FnExactFirstDetour': WHATEVER THE INPUT: true; the input reads as it did. -/
def fnExactFirstDetourSpec : ChangeSpec := { name := "fnExactFirstDetour", fn := fun _ => fun
  | [d] => { results := [.lit (.bool true)], args := [d] }
  | _ => none }
def fnExactFirstDetourRow : OpenClaim := { program := "ytnemmlahbbbobaagreat", sum := "b957700cc6db71d6de8aa2fddfbbfd4f5e7d0bbe47e77f0893ea4fab15216e8a", func := "loop.example/g00892/laws.FnExactFirstDetour", spec := "fnExactFirstDetour", unfollowed := true, recurses := true, loops := true, apart := false }
def FnExactFirstDetourSaid : Prop := fnExactFirstDetourRow.holds Tryz.pinned (OpenSpec.ofChange fnExactFirstDetourSpec)

/-- ITS FALSE NEIGHBOUR: 'it returns false'. Refute it at one input. -/
def fnExactFirstDetourWrong : ChangeSpec := { name := "fnExactFirstDetour", fn := fun _ => fun
  | [d] => { results := [.lit (.bool false)], args := [d] }
  | _ => none }
def FnExactFirstDetourWrongFalsely : Prop := fnExactFirstDetourRow.holds Tryz.pinned (OpenSpec.ofChange fnExactFirstDetourWrong)

/-- 'laws.FnExactNaturalSequent': WHATEVER THE INPUT: true; the input reads as it did. -/
def fnExactNaturalSequentSpec : ChangeSpec := { name := "fnExactNaturalSequent", fn := fun _ => fun
  | [d] => { results := [.lit (.bool true)], args := [d] }
  | _ => none }
def fnExactNaturalSequentRow : OpenClaim := { program := "ytnemmlahbbbobaagreat", sum := "b957700cc6db71d6de8aa2fddfbbfd4f5e7d0bbe47e77f0893ea4fab15216e8a", func := "loop.example/g00892/laws.FnExactNaturalSequent", spec := "fnExactNaturalSequent", unfollowed := true, recurses := true, loops := true, apart := false }
def FnExactNaturalSequentSaid : Prop := fnExactNaturalSequentRow.holds Tryz.pinned (OpenSpec.ofChange fnExactNaturalSequentSpec)

/-- ITS FALSE NEIGHBOUR: 'it returns false'. Refute it at one input. -/
def fnExactNaturalSequentWrong : ChangeSpec := { name := "fnExactNaturalSequent", fn := fun _ => fun
  | [d] => { results := [.lit (.bool false)], args := [d] }
  | _ => none }
def FnExactNaturalSequentWrongFalsely : Prop := fnExactNaturalSequentRow.holds Tryz.pinned (OpenSpec.ofChange fnExactNaturalSequentWrong)

/-- 'laws.FnExactOpenAssumptions': WHATEVER THE INPUT: true; the input reads as it did. -/
def fnExactOpenAssumptionsSpec : ChangeSpec := { name := "fnExactOpenAssumptions", fn := fun _ => fun
  | [d] => { results := [.lit (.bool true)], args := [d] }
  | _ => none }
def fnExactOpenAssumptionsRow : OpenClaim := { program := "ytnemmlahbbbobaagreat", sum := "b957700cc6db71d6de8aa2fddfbbfd4f5e7d0bbe47e77f0893ea4fab15216e8a", func := "loop.example/g00892/laws.FnExactOpenAssumptions", spec := "fnExactOpenAssumptions", unfollowed := true, recurses := true, loops := true, apart := false }
def FnExactOpenAssumptionsSaid : Prop := fnExactOpenAssumptionsRow.holds Tryz.pinned (OpenSpec.ofChange fnExactOpenAssumptionsSpec)

/-- ITS FALSE NEIGHBOUR: 'it returns false'. Refute it at one input. -/
def fnExactOpenAssumptionsWrong : ChangeSpec := { name := "fnExactOpenAssumptions", fn := fun _ => fun
  | [d] => { results := [.lit (.bool false)], args := [d] }
  | _ => none }
def FnExactOpenAssumptionsWrongFalsely : Prop := fnExactOpenAssumptionsRow.holds Tryz.pinned (OpenSpec.ofChange fnExactOpenAssumptionsWrong)

/-- 'laws.FnExactInsertProof': WHATEVER THE INPUT: true; the input reads as it did. -/
def fnExactInsertProofSpec : ChangeSpec := { name := "fnExactInsertProof", fn := fun _ => fun
  | [d1, d2, d3] => { results := [.lit (.bool true)], args := [d1, d2, d3] }
  | _ => none }
def fnExactInsertProofRow : OpenClaim := { program := "ytnemmlahbbbobaagreat", sum := "b957700cc6db71d6de8aa2fddfbbfd4f5e7d0bbe47e77f0893ea4fab15216e8a", func := "loop.example/g00892/laws.FnExactInsertProof", spec := "fnExactInsertProof", unfollowed := true, recurses := true, loops := true, apart := false }
def FnExactInsertProofSaid : Prop := fnExactInsertProofRow.holds Tryz.pinned (OpenSpec.ofChange fnExactInsertProofSpec)

/-- ITS FALSE NEIGHBOUR: 'it returns false'. Refute it at one input. -/
def fnExactInsertProofWrong : ChangeSpec := { name := "fnExactInsertProof", fn := fun _ => fun
  | [d1, d2, d3] => { results := [.lit (.bool false)], args := [d1, d2, d3] }
  | _ => none }
def FnExactInsertProofWrongFalsely : Prop := fnExactInsertProofRow.holds Tryz.pinned (OpenSpec.ofChange fnExactInsertProofWrong)

/-- 'laws.FnExactRemoveDetour': WHATEVER THE INPUT: true; the input reads as it did. -/
def fnExactRemoveDetourSpec : ChangeSpec := { name := "fnExactRemoveDetour", fn := fun _ => fun
  | [d] => { results := [.lit (.bool true)], args := [d] }
  | _ => none }
def fnExactRemoveDetourRow : OpenClaim := { program := "ytnemmlahbbbobaagreat", sum := "b957700cc6db71d6de8aa2fddfbbfd4f5e7d0bbe47e77f0893ea4fab15216e8a", func := "loop.example/g00892/laws.FnExactRemoveDetour", spec := "fnExactRemoveDetour", unfollowed := true, recurses := true, loops := true, apart := false }
def FnExactRemoveDetourSaid : Prop := fnExactRemoveDetourRow.holds Tryz.pinned (OpenSpec.ofChange fnExactRemoveDetourSpec)

/-- ITS FALSE NEIGHBOUR: 'it returns false'. Refute it at one input. -/
def fnExactRemoveDetourWrong : ChangeSpec := { name := "fnExactRemoveDetour", fn := fun _ => fun
  | [d] => { results := [.lit (.bool false)], args := [d] }
  | _ => none }
def FnExactRemoveDetourWrongFalsely : Prop := fnExactRemoveDetourRow.holds Tryz.pinned (OpenSpec.ofChange fnExactRemoveDetourWrong)

/-- 'laws.FnExactNormalizeProof': WHATEVER THE INPUT: true; the input reads as it did. -/
def fnExactNormalizeProofSpec : ChangeSpec := { name := "fnExactNormalizeProof", fn := fun _ => fun
  | [d1, d2] => { results := [.lit (.bool true)], args := [d1, d2] }
  | _ => none }
def fnExactNormalizeProofRow : OpenClaim := { program := "ytnemmlahbbbobaagreat", sum := "b957700cc6db71d6de8aa2fddfbbfd4f5e7d0bbe47e77f0893ea4fab15216e8a", func := "loop.example/g00892/laws.FnExactNormalizeProof", spec := "fnExactNormalizeProof", unfollowed := true, recurses := true, loops := true, apart := false }
def FnExactNormalizeProofSaid : Prop := fnExactNormalizeProofRow.holds Tryz.pinned (OpenSpec.ofChange fnExactNormalizeProofSpec)

/-- ITS FALSE NEIGHBOUR: 'it returns false'. Refute it at one input. -/
def fnExactNormalizeProofWrong : ChangeSpec := { name := "fnExactNormalizeProof", fn := fun _ => fun
  | [d1, d2] => { results := [.lit (.bool false)], args := [d1, d2] }
  | _ => none }
def FnExactNormalizeProofWrongFalsely : Prop := fnExactNormalizeProofRow.holds Tryz.pinned (OpenSpec.ofChange fnExactNormalizeProofWrong)

/- THE SECOND FORM. 'bulk': how many values and letters a reading holds, each counted each time it is reached (what is shared counts as often as it is met; a slice's spare places count too). A statement '..UptoSaid' is the law's where the arguments, and the package variables that the reading takes, are together of bulk at most 1048576: NARROWER than '..Said'. Prove '..Said' where nothing that the law and all that it calls make is longer than what came in: it says more and counts as full. Else prove '..UptoSaid'. A law counts once. -/
mutual
def uptoBulk {H : Type} : DataW H → Nat
  | .lit (.string bytes) => bytes.length + 1
  | .lit _ => 1
  | .nil => 1
  | .ptr d => uptoBulk d + 1
  | .slice elems spare => uptoBulkAll elems + uptoBulkAll spare + 1
  | .agg parts => uptoBulkAll parts + 1
  | .iface _ d => uptoBulk d + 1
  | .map entries => uptoBulkEntries entries + 1
  | .held _ => 1
def uptoBulkAll {H : Type} : List (DataW H) → Nat
  | [] => 0
  | d :: r => uptoBulk d + uptoBulkAll r
def uptoBulkEntries {H : Type} : List (Lit × DataW H) → Nat
  | [] => 0
  | x :: r => uptoBulkEntry x + uptoBulkEntries r
def uptoBulkEntry {H : Type} : Lit × DataW H → Nat
  | (.string bytes, d) => bytes.length + uptoBulk d + 1
  | (_, d) => uptoBulk d + 1
 end
def uptoSmall : (H : Type) → List (DataW H) → Bool := fun _ ds => decide (uptoBulkAll ds ≤ 1048576)
def OpenSpec.upto (s : _root_.Go.ChangeSpec) : _root_.Go.OpenSpec := { _root_.Go.OpenSpec.ofChange s with cond := some uptoSmall }

/-- 'laws.FnExactIsValidNatural', WHERE WHAT IT READS IS OF BULK AT MOST 1048576: true; the input reads as it did. -/
def fnExactIsValidNaturalUptoRow : OpenClaim := { program := "ytnemmlahbbbobaagreat", sum := "b957700cc6db71d6de8aa2fddfbbfd4f5e7d0bbe47e77f0893ea4fab15216e8a", func := "loop.example/g00892/laws.FnExactIsValidNatural", spec := "fnExactIsValidNatural", unfollowed := true, recurses := true, loops := true, apart := false, narrowed := true }
def FnExactIsValidNaturalUptoSaid : Prop := fnExactIsValidNaturalUptoRow.holds Tryz.pinned (OpenSpec.upto fnExactIsValidNaturalSpec)

/-- 'laws.FnExactFirstWrongStep', WHERE WHAT IT READS IS OF BULK AT MOST 1048576: true; the input reads as it did. -/
def fnExactFirstWrongStepUptoRow : OpenClaim := { program := "ytnemmlahbbbobaagreat", sum := "b957700cc6db71d6de8aa2fddfbbfd4f5e7d0bbe47e77f0893ea4fab15216e8a", func := "loop.example/g00892/laws.FnExactFirstWrongStep", spec := "fnExactFirstWrongStep", unfollowed := true, recurses := true, loops := true, apart := false, narrowed := true }
def FnExactFirstWrongStepUptoSaid : Prop := fnExactFirstWrongStepUptoRow.holds Tryz.pinned (OpenSpec.upto fnExactFirstWrongStepSpec)

/-- 'laws.FnExactFirstDetour', WHERE WHAT IT READS IS OF BULK AT MOST 1048576: true; the input reads as it did. -/
def fnExactFirstDetourUptoRow : OpenClaim := { program := "ytnemmlahbbbobaagreat", sum := "b957700cc6db71d6de8aa2fddfbbfd4f5e7d0bbe47e77f0893ea4fab15216e8a", func := "loop.example/g00892/laws.FnExactFirstDetour", spec := "fnExactFirstDetour", unfollowed := true, recurses := true, loops := true, apart := false, narrowed := true }
def FnExactFirstDetourUptoSaid : Prop := fnExactFirstDetourUptoRow.holds Tryz.pinned (OpenSpec.upto fnExactFirstDetourSpec)

/-- 'laws.FnExactNaturalSequent', WHERE WHAT IT READS IS OF BULK AT MOST 1048576: true; the input reads as it did. -/
def fnExactNaturalSequentUptoRow : OpenClaim := { program := "ytnemmlahbbbobaagreat", sum := "b957700cc6db71d6de8aa2fddfbbfd4f5e7d0bbe47e77f0893ea4fab15216e8a", func := "loop.example/g00892/laws.FnExactNaturalSequent", spec := "fnExactNaturalSequent", unfollowed := true, recurses := true, loops := true, apart := false, narrowed := true }
def FnExactNaturalSequentUptoSaid : Prop := fnExactNaturalSequentUptoRow.holds Tryz.pinned (OpenSpec.upto fnExactNaturalSequentSpec)

/-- 'laws.FnExactOpenAssumptions', WHERE WHAT IT READS IS OF BULK AT MOST 1048576: true; the input reads as it did. -/
def fnExactOpenAssumptionsUptoRow : OpenClaim := { program := "ytnemmlahbbbobaagreat", sum := "b957700cc6db71d6de8aa2fddfbbfd4f5e7d0bbe47e77f0893ea4fab15216e8a", func := "loop.example/g00892/laws.FnExactOpenAssumptions", spec := "fnExactOpenAssumptions", unfollowed := true, recurses := true, loops := true, apart := false, narrowed := true }
def FnExactOpenAssumptionsUptoSaid : Prop := fnExactOpenAssumptionsUptoRow.holds Tryz.pinned (OpenSpec.upto fnExactOpenAssumptionsSpec)

/-- 'laws.FnExactInsertProof', WHERE WHAT IT READS IS OF BULK AT MOST 1048576: true; the input reads as it did. -/
def fnExactInsertProofUptoRow : OpenClaim := { program := "ytnemmlahbbbobaagreat", sum := "b957700cc6db71d6de8aa2fddfbbfd4f5e7d0bbe47e77f0893ea4fab15216e8a", func := "loop.example/g00892/laws.FnExactInsertProof", spec := "fnExactInsertProof", unfollowed := true, recurses := true, loops := true, apart := false, narrowed := true }
def FnExactInsertProofUptoSaid : Prop := fnExactInsertProofUptoRow.holds Tryz.pinned (OpenSpec.upto fnExactInsertProofSpec)

/-- 'laws.FnExactRemoveDetour', WHERE WHAT IT READS IS OF BULK AT MOST 1048576: true; the input reads as it did. -/
def fnExactRemoveDetourUptoRow : OpenClaim := { program := "ytnemmlahbbbobaagreat", sum := "b957700cc6db71d6de8aa2fddfbbfd4f5e7d0bbe47e77f0893ea4fab15216e8a", func := "loop.example/g00892/laws.FnExactRemoveDetour", spec := "fnExactRemoveDetour", unfollowed := true, recurses := true, loops := true, apart := false, narrowed := true }
def FnExactRemoveDetourUptoSaid : Prop := fnExactRemoveDetourUptoRow.holds Tryz.pinned (OpenSpec.upto fnExactRemoveDetourSpec)

/-- 'laws.FnExactNormalizeProof', WHERE WHAT IT READS IS OF BULK AT MOST 1048576: true; the input reads as it did. -/
def fnExactNormalizeProofUptoRow : OpenClaim := { program := "ytnemmlahbbbobaagreat", sum := "b957700cc6db71d6de8aa2fddfbbfd4f5e7d0bbe47e77f0893ea4fab15216e8a", func := "loop.example/g00892/laws.FnExactNormalizeProof", spec := "fnExactNormalizeProof", unfollowed := true, recurses := true, loops := true, apart := false, narrowed := true }
def FnExactNormalizeProofUptoSaid : Prop := fnExactNormalizeProofUptoRow.holds Tryz.pinned (OpenSpec.upto fnExactNormalizeProofSpec)

end Rows
end Go.Proofs.YtnemmlahbbbobaaGreat
