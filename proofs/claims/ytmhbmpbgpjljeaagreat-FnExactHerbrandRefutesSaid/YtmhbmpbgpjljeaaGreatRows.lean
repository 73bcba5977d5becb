/-
  NARROWER THAN 'FOR EVERY INPUT', by the rows' own cells (each row's printed sentence says how): FnExactHerbrandCore: loops · FnExactHerbrandTerms: loops · FnExactHerbrandRefutes: loops.
  DERIVED. THE GIVEN ROWS OF THIS SEAT. 3 by the template 'for every input the law returns true; each argument reads behind the call as it read before'; 0 by the template 'total and deterministic' (their statements: YtmhbmpbgpjljeaaGreatTotals.lean).
  GIVEN WITH THE SEED: the statements are not yours to turn. If you find one false, say at which input.
  Laid BY PROGRAM, IN A SANDBOX (cutbox-rows.mjs): the forced cells as the released guide's own fill.sh prints them over the translation 77c761703bd0e607… (all of the seat's roots in one cut). By AI agents, Wed Nov 11 2026. No macro, syntax, notation, axiom, sorry.
-/
import Derived.Test.YtmhbmpbgpjljeaaGreatChecked
import GoSem.Claim
import GoSem.ClaimJoined
import GoSem.ClaimMapViews
import Derived.JoinedTies
import Derived.KernelRfl
namespace Go.Proofs.YtmhbmpbgpjljeaaGreat
/- THE CELL 'sum', in the pinned program and in every row, IS THE sha256 OF THE DUMP (.gsa) THAT YtmhbmpbgpjljeaaGreatProg.lean LOADS. Nothing in Lean hashes anything: it is a label: what it is worth is what the hold of that sum in a sandbox is worth. -/
noncomputable def Tryz.pinned : Pinned := { name := "ytmhbmpbgpjljeaagreat", sum := "77c761703bd0e607ef1c41b7ac9eb41763eb01ee32e32d3623c3134be9176cf8", checked := Tryz.checked }
namespace Rows
def none {H : Type} : Left H := { results := [], args := [] }

/-- 'laws.FnExactHerbrandCore': WHATEVER THE INPUT: true; the input reads as it did. -/
def fnExactHerbrandCoreSpec : ChangeSpec := { name := "fnExactHerbrandCore", fn := fun _ => fun
  | [d1, d2] => { results := [.lit (.bool true)], args := [d1, d2] }
  | _ => none }
def fnExactHerbrandCoreRow : OpenClaim := { program := "ytmhbmpbgpjljeaagreat", sum := "77c761703bd0e607ef1c41b7ac9eb41763eb01ee32e32d3623c3134be9176cf8", func := "loop.example/g00892/laws.FnExactHerbrandCore", spec := "fnExactHerbrandCore", inPlace := ["slices.overlaps[loop.example/g00892/impl.Table]"], unfollowed := true, recurses := true, loops := true, apart := false }
def FnExactHerbrandCoreSaid : Prop := fnExactHerbrandCoreRow.holds Tryz.pinned (OpenSpec.ofChange fnExactHerbrandCoreSpec)

/-- ITS FALSE NEIGHBOUR: 'it returns false'. Refute it at one input. -/
def fnExactHerbrandCoreWrong : ChangeSpec := { name := "fnExactHerbrandCore", fn := fun _ => fun
  | [d1, d2] => { results := [.lit (.bool false)], args := [d1, d2] }
  | _ => none }
def FnExactHerbrandCoreWrongFalsely : Prop := fnExactHerbrandCoreRow.holds Tryz.pinned (OpenSpec.ofChange fnExactHerbrandCoreWrong)

/-- 'laws.FnExactHerbrandTerms': WHATEVER THE INPUT: true; the input reads as it did. -/
def fnExactHerbrandTermsSpec : ChangeSpec := { name := "fnExactHerbrandTerms", fn := fun _ => fun
  | [d1, d2] => { results := [.lit (.bool true)], args := [d1, d2] }
  | _ => none }
def fnExactHerbrandTermsRow : OpenClaim := { program := "ytmhbmpbgpjljeaagreat", sum := "77c761703bd0e607ef1c41b7ac9eb41763eb01ee32e32d3623c3134be9176cf8", func := "loop.example/g00892/laws.FnExactHerbrandTerms", spec := "fnExactHerbrandTerms", inPlace := ["slices.overlaps[loop.example/g00892/impl.Table]"], unfollowed := true, recurses := true, loops := true, apart := false }
def FnExactHerbrandTermsSaid : Prop := fnExactHerbrandTermsRow.holds Tryz.pinned (OpenSpec.ofChange fnExactHerbrandTermsSpec)

/-- ITS FALSE NEIGHBOUR: 'it returns false'. Refute it at one input. -/
def fnExactHerbrandTermsWrong : ChangeSpec := { name := "fnExactHerbrandTerms", fn := fun _ => fun
  | [d1, d2] => { results := [.lit (.bool false)], args := [d1, d2] }
  | _ => none }
def FnExactHerbrandTermsWrongFalsely : Prop := fnExactHerbrandTermsRow.holds Tryz.pinned (OpenSpec.ofChange fnExactHerbrandTermsWrong)

/-- 'laws.FnExactHerbrandRefutes': WHATEVER THE INPUT: true; the input reads as it did. -/
def fnExactHerbrandRefutesSpec : ChangeSpec := { name := "fnExactHerbrandRefutes", fn := fun _ => fun
  | [d1, d2] => { results := [.lit (.bool true)], args := [d1, d2] }
  | _ => none }
def fnExactHerbrandRefutesRow : OpenClaim := { program := "ytmhbmpbgpjljeaagreat", sum := "77c761703bd0e607ef1c41b7ac9eb41763eb01ee32e32d3623c3134be9176cf8", func := "loop.example/g00892/laws.FnExactHerbrandRefutes", spec := "fnExactHerbrandRefutes", inPlace := ["slices.overlaps[loop.example/g00892/impl.Table]"], unfollowed := true, recurses := true, loops := true, apart := false }
def FnExactHerbrandRefutesSaid : Prop := fnExactHerbrandRefutesRow.holds Tryz.pinned (OpenSpec.ofChange fnExactHerbrandRefutesSpec)

/-- ITS FALSE NEIGHBOUR: 'it returns false'. Refute it at one input. -/
def fnExactHerbrandRefutesWrong : ChangeSpec := { name := "fnExactHerbrandRefutes", fn := fun _ => fun
  | [d1, d2] => { results := [.lit (.bool false)], args := [d1, d2] }
  | _ => none }
def FnExactHerbrandRefutesWrongFalsely : Prop := fnExactHerbrandRefutesRow.holds Tryz.pinned (OpenSpec.ofChange fnExactHerbrandRefutesWrong)

/- THE SECOND FORM. 'bulk': how many values and letters a reading holds, each counted each time it is reached (what is shared counts as often as it is met; a slice's spare places count too). A statement '..UptoSaid' is the law's where the arguments, and the package variables that the reading takes, are together of bulk at most 1048576: NARROWER than '..Said'. Prove '..Said' where nothing that the law and all that it calls make is longer than what came in: it says more and counts as full. Else prove '..UptoSaid'. A law counts once. -/
mutual
def uptoBulk {H : Type} : DataW H → Nat
  | .lit (.string bytes) => bytes.length + 1
  | .lit _ => 1
  | .nil => 1
  | .ptr d => uptoBulk d + 1
  | .slice elems spare => uptoBulkAll elems + uptoBulkAll spare + 1
  | .agg parts => uptoBulkAll parts + 1
  | .iface _ d => uptoBulk d + 1
  | .map entries => uptoBulkEntries entries + 1
  | .held _ => 1
def uptoBulkAll {H : Type} : List (DataW H) → Nat
  | [] => 0
  | d :: r => uptoBulk d + uptoBulkAll r
def uptoBulkEntries {H : Type} : List (Lit × DataW H) → Nat
  | [] => 0
  | x :: r => uptoBulkEntry x + uptoBulkEntries r
def uptoBulkEntry {H : Type} : Lit × DataW H → Nat
  | (.string bytes, d) => bytes.length + uptoBulk d + 1
  | (_, d) => uptoBulk d + 1
 end
def uptoSmall : (H : Type) → List (DataW H) → Bool := fun _ ds => decide (uptoBulkAll ds ≤ 1048576)
def OpenSpec.upto (s : _root_.Go.ChangeSpec) : _root_.Go.OpenSpec := { _root_.Go.OpenSpec.ofChange s with cond := some uptoSmall }

/-- 'laws.FnExactHerbrandCore', WHERE WHAT IT READS IS OF BULK AT MOST 1048576: true; the input reads as it did. -/
def fnExactHerbrandCoreUptoRow : OpenClaim := { program := "ytmhbmpbgpjljeaagreat", sum := "77c761703bd0e607ef1c41b7ac9eb41763eb01ee32e32d3623c3134be9176cf8", func := "loop.example/g00892/laws.FnExactHerbrandCore", spec := "fnExactHerbrandCore", inPlace := ["slices.overlaps[loop.example/g00892/impl.Table]"], unfollowed := true, recurses := true, loops := true, apart := false, narrowed := true }
def FnExactHerbrandCoreUptoSaid : Prop := fnExactHerbrandCoreUptoRow.holds Tryz.pinned (OpenSpec.upto fnExactHerbrandCoreSpec)

/-- 'laws.FnExactHerbrandTerms', WHERE WHAT IT READS IS OF BULK AT MOST 1048576: true; the input reads as it did. -/
def fnExactHerbrandTermsUptoRow : OpenClaim := { program := "ytmhbmpbgpjljeaagreat", sum := "77c761703bd0e607ef1c41b7ac9eb41763eb01ee32e32d3623c3134be9176cf8", func := "loop.example/g00892/laws.FnExactHerbrandTerms", spec := "fnExactHerbrandTerms", inPlace := ["slices.overlaps[loop.example/g00892/impl.Table]"], unfollowed := true, recurses := true, loops := true, apart := false, narrowed := true }
def FnExactHerbrandTermsUptoSaid : Prop := fnExactHerbrandTermsUptoRow.holds Tryz.pinned (OpenSpec.upto fnExactHerbrandTermsSpec)

/-- 'laws.FnExactHerbrandRefutes', WHERE WHAT IT READS IS OF BULK AT MOST 1048576: true; the input reads as it did. -/
def fnExactHerbrandRefutesUptoRow : OpenClaim := { program := "ytmhbmpbgpjljeaagreat", sum := "77c761703bd0e607ef1c41b7ac9eb41763eb01ee32e32d3623c3134be9176cf8", func := "loop.example/g00892/laws.FnExactHerbrandRefutes", spec := "fnExactHerbrandRefutes", inPlace := ["slices.overlaps[loop.example/g00892/impl.Table]"], unfollowed := true, recurses := true, loops := true, apart := false, narrowed := true }
def FnExactHerbrandRefutesUptoSaid : Prop := fnExactHerbrandRefutesUptoRow.holds Tryz.pinned (OpenSpec.upto fnExactHerbrandRefutesSpec)

end Rows
end Go.Proofs.YtmhbmpbgpjljeaaGreat
