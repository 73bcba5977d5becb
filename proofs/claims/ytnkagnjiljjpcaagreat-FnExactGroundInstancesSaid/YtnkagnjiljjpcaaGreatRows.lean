/-
  NARROWER THAN 'FOR EVERY INPUT', by the rows' own cells (each row's printed sentence says how): FnExactGroundAtoms: loops · FnExactToPropositional: loops · FnExactHerbrandTerms: loops · FnExactGroundInstances: loops.
  DERIVED. THE GIVEN ROWS OF THIS SEAT. 4 by the template 'for every input the law returns true; each argument reads behind the call as it read before'; 0 by the template 'total and deterministic' (their statements: YtnkagnjiljjpcaaGreatTotals.lean).
  GIVEN WITH THE SEED: the statements are not yours to turn. If you find one false, say at which input.
  Laid BY PROGRAM, IN A SANDBOX (cutbox-rows.mjs): the forced cells as the released guide's own fill.sh prints them over the translation d78bfb01a1979144… (all of the seat's roots in one cut). By AI agents, Wed Nov 11 2026. No macro, syntax, notation, axiom, sorry.
-/
import Derived.Test.YtnkagnjiljjpcaaGreatChecked
import GoSem.Claim
import GoSem.ClaimJoined
import GoSem.ClaimMapViews
import Derived.JoinedTies
import Derived.KernelRfl
namespace Go.Proofs.YtnkagnjiljjpcaaGreat
/- THE CELL 'sum', in the pinned program and in every row, IS THE sha256 OF THE DUMP (.gsa) THAT YtnkagnjiljjpcaaGreatProg.lean LOADS. Nothing in Lean hashes anything: it is a label: what it is worth is what the hold of that sum in a sandbox is worth. -/
noncomputable def Tryz.pinned : Pinned := { name := "ytnkagnjiljjpcaagreat", sum := "d78bfb01a1979144eac2eac316a447e03238012310dcefc2eb4f447ddad53b6c", checked := Tryz.checked }
namespace Rows
def none {H : Type} : Left H := { results := [], args := [] }

/-- 'laws.FnExactGroundAtoms': WHATEVER THE INPUT: true; the input reads as it did. -/
def fnExactGroundAtomsSpec : ChangeSpec := { name := "fnExactGroundAtoms", fn := fun _ => fun
  | [d] => { results := [.lit (.bool true)], args := [d] }
  | _ => none }
def fnExactGroundAtomsRow : OpenClaim := { program := "ytnkagnjiljjpcaagreat", sum := "d78bfb01a1979144eac2eac316a447e03238012310dcefc2eb4f447ddad53b6c", func := "loop.example/g00892/laws.FnExactGroundAtoms", spec := "fnExactGroundAtoms", unfollowed := true, recurses := true, loops := true, apart := false }
def FnExactGroundAtomsSaid : Prop := fnExactGroundAtomsRow.holds Tryz.pinned (OpenSpec.ofChange fnExactGroundAtomsSpec)

/-- ITS FALSE NEIGHBOUR: 'it returns false'. Refute it at one input. -/
def fnExactGroundAtomsWrong : ChangeSpec := { name := "fnExactGroundAtoms", fn := fun _ => fun
  | [d] => { results := [.lit (.bool false)], args := [d] }
  | _ => none }
def FnExactGroundAtomsWrongFalsely : Prop := fnExactGroundAtomsRow.holds Tryz.pinned (OpenSpec.ofChange fnExactGroundAtomsWrong)

/-- 'laws.FnExactToPropositional': WHATEVER THE INPUT: true; the input reads as it did. -/
def fnExactToPropositionalSpec : ChangeSpec := { name := "fnExactToPropositional", fn := fun _ => fun
  | [d] => { results := [.lit (.bool true)], args := [d] }
  | _ => none }
def fnExactToPropositionalRow : OpenClaim := { program := "ytnkagnjiljjpcaagreat", sum := "d78bfb01a1979144eac2eac316a447e03238012310dcefc2eb4f447ddad53b6c", func := "loop.example/g00892/laws.FnExactToPropositional", spec := "fnExactToPropositional", unfollowed := true, recurses := true, loops := true, apart := false }
def FnExactToPropositionalSaid : Prop := fnExactToPropositionalRow.holds Tryz.pinned (OpenSpec.ofChange fnExactToPropositionalSpec)

/-- ITS FALSE NEIGHBOUR: 'it returns false'. Refute it at one input. -/
def fnExactToPropositionalWrong : ChangeSpec := { name := "fnExactToPropositional", fn := fun _ => fun
  | [d] => { results := [.lit (.bool false)], args := [d] }
  | _ => none }
def FnExactToPropositionalWrongFalsely : Prop := fnExactToPropositionalRow.holds Tryz.pinned (OpenSpec.ofChange fnExactToPropositionalWrong)

/-- 'laws.FnExactHerbrandTerms': WHATEVER THE INPUT: true; the input reads as it did. -/
def fnExactHerbrandTermsSpec : ChangeSpec := { name := "fnExactHerbrandTerms", fn := fun _ => fun
  | [d1, d2] => { results := [.lit (.bool true)], args := [d1, d2] }
  | _ => none }
def fnExactHerbrandTermsRow : OpenClaim := { program := "ytnkagnjiljjpcaagreat", sum := "d78bfb01a1979144eac2eac316a447e03238012310dcefc2eb4f447ddad53b6c", func := "loop.example/g00892/laws.FnExactHerbrandTerms", spec := "fnExactHerbrandTerms", inPlace := ["slices.overlaps[loop.example/g00892/impl.Table]"], unfollowed := true, recurses := true, loops := true, apart := false }
def FnExactHerbrandTermsSaid : Prop := fnExactHerbrandTermsRow.holds Tryz.pinned (OpenSpec.ofChange fnExactHerbrandTermsSpec)

/-- ITS FALSE NEIGHBOUR: 'it returns false'. Refute it at one input. -/
def fnExactHerbrandTermsWrong : ChangeSpec := { name := "fnExactHerbrandTerms", fn := fun _ => fun
  | [d1, d2] => { results := [.lit (.bool false)], args := [d1, d2] }
  | _ => none }
def FnExactHerbrandTermsWrongFalsely : Prop := fnExactHerbrandTermsRow.holds Tryz.pinned (OpenSpec.ofChange fnExactHerbrandTermsWrong)

/-- 'laws.FnExactGroundInstances': WHATEVER THE INPUT: true; the input reads as it did. -/
def fnExactGroundInstancesSpec : ChangeSpec := { name := "fnExactGroundInstances", fn := fun _ => fun
  | [d1, d2] => { results := [.lit (.bool true)], args := [d1, d2] }
  | _ => none }
def fnExactGroundInstancesRow : OpenClaim := { program := "ytnkagnjiljjpcaagreat", sum := "d78bfb01a1979144eac2eac316a447e03238012310dcefc2eb4f447ddad53b6c", func := "loop.example/g00892/laws.FnExactGroundInstances", spec := "fnExactGroundInstances", unfollowed := true, recurses := true, loops := true, apart := false }
def FnExactGroundInstancesSaid : Prop := fnExactGroundInstancesRow.holds Tryz.pinned (OpenSpec.ofChange fnExactGroundInstancesSpec)

/-- ITS FALSE NEIGHBOUR: 'it returns false'. Refute it at one input. -/
def fnExactGroundInstancesWrong : ChangeSpec := { name := "fnExactGroundInstances", fn := fun _ => fun
  | [d1, d2] => { results := [.lit (.bool false)], args := [d1, d2] }
  | _ => none }
def FnExactGroundInstancesWrongFalsely : Prop := fnExactGroundInstancesRow.holds Tryz.pinned (OpenSpec.ofChange fnExactGroundInstancesWrong)

/- THE SECOND FORM. 'bulk': how many values and letters a reading holds, each counted each time it is reached (what is shared counts as often as it is met; a slice's spare places count too). A statement '..UptoSaid' is the law's where the arguments, and the package variables that the reading takes, are together of bulk at most 1048576: NARROWER than '..Said'. Prove '..Said' where nothing that the law and all that it calls make is longer than what came in: it says more and counts as full. Else prove '..UptoSaid'. A law counts once. -/
mutual
def uptoBulk {H : Type} : DataW H → Nat
  | .lit (.string bytes) => bytes.length + 1
  | .lit _ => 1
  | .nil => 1
  | .ptr d => uptoBulk d + 1
  | .slice elems spare => uptoBulkAll elems + uptoBulkAll spare + 1
  | .agg parts => uptoBulkAll parts + 1
  | .iface _ d => uptoBulk d + 1
  | .map entries => uptoBulkEntries entries + 1
  | .held _ => 1
def uptoBulkAll {H : Type} : List (DataW H) → Nat
  | [] => 0
  | d :: r => uptoBulk d + uptoBulkAll r
def uptoBulkEntries {H : Type} : List (Lit × DataW H) → Nat
  | [] => 0
  | x :: r => uptoBulkEntry x + uptoBulkEntries r
def uptoBulkEntry {H : Type} : Lit × DataW H → Nat
  | (.string bytes, d) => bytes.length + uptoBulk d + 1
  | (_, d) => uptoBulk d + 1
 end
def uptoSmall : (H : Type) → List (DataW H) → Bool := fun _ ds => decide (uptoBulkAll ds ≤ 1048576)
def OpenSpec.upto (s : _root_.Go.ChangeSpec) : _root_.Go.OpenSpec := { _root_.Go.OpenSpec.ofChange s with cond := some uptoSmall }

/-- 'laws.FnExactGroundAtoms', WHERE WHAT IT READS IS OF BULK AT MOST 1048576: true; the input reads as it did. -/
def fnExactGroundAtomsUptoRow : OpenClaim := { program := "ytnkagnjiljjpcaagreat", sum := "d78bfb01a1979144eac2eac316a447e03238012310dcefc2eb4f447ddad53b6c", func := "loop.example/g00892/laws.FnExactGroundAtoms", spec := "fnExactGroundAtoms", unfollowed := true, recurses := true, loops := true, apart := false, narrowed := true }
def FnExactGroundAtomsUptoSaid : Prop := fnExactGroundAtomsUptoRow.holds Tryz.pinned (OpenSpec.upto fnExactGroundAtomsSpec)

/-- 'laws.FnExactToPropositional', WHERE WHAT IT READS IS OF BULK AT MOST 1048576: true; the input reads as it did. -/
def fnExactToPropositionalUptoRow : OpenClaim := { program := "ytnkagnjiljjpcaagreat", sum := "d78bfb01a1979144eac2eac316a447e03238012310dcefc2eb4f447ddad53b6c", func := "loop.example/g00892/laws.FnExactToPropositional", spec := "fnExactToPropositional", unfollowed := true, recurses := true, loops := true, apart := false, narrowed := true }
def FnExactToPropositionalUptoSaid : Prop := fnExactToPropositionalUptoRow.holds Tryz.pinned (OpenSpec.upto fnExactToPropositionalSpec)

/-- 'laws.FnExactHerbrandTerms', WHERE WHAT IT READS IS OF BULK AT MOST 1048576: true; the input reads as it did. -/
def fnExactHerbrandTermsUptoRow : OpenClaim := { program := "ytnkagnjiljjpcaagreat", sum := "d78bfb01a1979144eac2eac316a447e03238012310dcefc2eb4f447ddad53b6c", func := "loop.example/g00892/laws.FnExactHerbrandTerms", spec := "fnExactHerbrandTerms", inPlace := ["slices.overlaps[loop.example/g00892/impl.Table]"], unfollowed := true, recurses := true, loops := true, apart := false, narrowed := true }
def FnExactHerbrandTermsUptoSaid : Prop := fnExactHerbrandTermsUptoRow.holds Tryz.pinned (OpenSpec.upto fnExactHerbrandTermsSpec)

/-- 'laws.FnExactGroundInstances', WHERE WHAT IT READS IS OF BULK AT MOST 1048576: true; the input reads as it did. -/
def fnExactGroundInstancesUptoRow : OpenClaim := { program := "ytnkagnjiljjpcaagreat", sum := "d78bfb01a1979144eac2eac316a447e03238012310dcefc2eb4f447ddad53b6c", func := "loop.example/g00892/laws.FnExactGroundInstances", spec := "fnExactGroundInstances", unfollowed := true, recurses := true, loops := true, apart := false, narrowed := true }
def FnExactGroundInstancesUptoSaid : Prop := fnExactGroundInstancesUptoRow.holds Tryz.pinned (OpenSpec.upto fnExactGroundInstancesSpec)

end Rows
end Go.Proofs.YtnkagnjiljjpcaaGreat
