/-
  NARROWER THAN 'FOR EVERY INPUT', by the rows' own cells (each row's printed sentence says how): FnExactPossibleLetters: laid · FnExactAreGroupConjugate: laid · FnExactSleepSearch: laid · FnExactGroupConjugator: laid · FnExactGroupRoot: laid · FnExactSourceSearch: laid · FnExactPersistentSearch: laid · FnPersistentSets: laid · FnAsynchronousRuns: laid · FnExactCountMaximal: laid · FnGroupPowers: laid.
  DERIVED. THE GIVEN ROWS OF THIS SEAT. 11 by the template 'for every input the law returns true; each argument reads behind the call as it read before'; 0 by the template 'total and deterministic' (their statements: YtcbeifkfllcjoaaDoorTotals.lean).
  GIVEN WITH THE SEED: the statements are not yours to turn. If you find one false, say at which input.
  Laid BY PROGRAM, IN A SANDBOX (cutbox-rows.mjs): the forced cells as the released guide's own fill.sh prints them over the translation 1d1f690e3bd283cc… (all of the seat's roots in one cut). By AI agents, Wed Nov 11 2026. No macro, syntax, notation, axiom, sorry.
-/
import Derived.Test.YtcbeifkfllcjoaaDoorChecked
import GoSem.Claim
import GoSem.ClaimJoined
import GoSem.ClaimMapViews
import Derived.JoinedTies
import Derived.KernelRfl
namespace Go.Proofs.YtcbeifkfllcjoaaDoor
/- THE CELL 'sum', in the pinned program and in every row, IS THE sha256 OF THE DUMP (.gsa) THAT YtcbeifkfllcjoaaDoorProg.lean LOADS. Nothing in Lean hashes anything: it is a label: what it is worth is what the hold of that sum in a sandbox is worth. -/
noncomputable def Tryd.pinned : Pinned := { name := "ytcbeifkfllcjoaadoor", sum := "1d1f690e3bd283cc262d880bfd34d0f20430170402aec982358567a02d80503c", checked := Tryd.checked }
namespace Rows
def none {H : Type} : Left H := { results := [], args := [] }

/- WHAT THE LISTED PACKAGE-LEVEL VARIABLES READ AS WHEN THE CALL BEGINS. Each datum BY PROGRAM (the guide's laid-datum.mjs) off the statement by which the dump's own 'gosem.cut.vars' lays the variable. In a bare row this is a premise. The card (YtcbeifkfllcjoaaDoorCards.lean) ties it to the program's text. -/
def laid_math_bits_deBruijn64tab {H : Type} : DataW H := .agg [.lit (.int .u8 0), .lit (.int .u8 1), .lit (.int .u8 56), .lit (.int .u8 2), .lit (.int .u8 57), .lit (.int .u8 49), .lit (.int .u8 28), .lit (.int .u8 3), .lit (.int .u8 61), .lit (.int .u8 58), .lit (.int .u8 42), .lit (.int .u8 50), .lit (.int .u8 38), .lit (.int .u8 29), .lit (.int .u8 17), .lit (.int .u8 4), .lit (.int .u8 62), .lit (.int .u8 47), .lit (.int .u8 59), .lit (.int .u8 36), .lit (.int .u8 45), .lit (.int .u8 43), .lit (.int .u8 51), .lit (.int .u8 22), .lit (.int .u8 53), .lit (.int .u8 39), .lit (.int .u8 33), .lit (.int .u8 30), .lit (.int .u8 24), .lit (.int .u8 18), .lit (.int .u8 12), .lit (.int .u8 5), .lit (.int .u8 63), .lit (.int .u8 55), .lit (.int .u8 48), .lit (.int .u8 27), .lit (.int .u8 60), .lit (.int .u8 41), .lit (.int .u8 37), .lit (.int .u8 16), .lit (.int .u8 46), .lit (.int .u8 35), .lit (.int .u8 44), .lit (.int .u8 21), .lit (.int .u8 52), .lit (.int .u8 32), .lit (.int .u8 23), .lit (.int .u8 11), .lit (.int .u8 54), .lit (.int .u8 26), .lit (.int .u8 40), .lit (.int .u8 15), .lit (.int .u8 34), .lit (.int .u8 20), .lit (.int .u8 31), .lit (.int .u8 10), .lit (.int .u8 25), .lit (.int .u8 14), .lit (.int .u8 19), .lit (.int .u8 9), .lit (.int .u8 13), .lit (.int .u8 8), .lit (.int .u8 7), .lit (.int .u8 6)]

/-- 'laws.FnExactPossibleLetters': WHATEVER THE INPUT: true; the input reads as it did. -/
def fnExactPossibleLettersSpec : ChangeSpec := { name := "fnExactPossibleLetters", fn := fun _ => fun
  | [d1, d2] => { results := [.lit (.bool true)], args := [d1, d2] }
  | _ => none }
def fnExactPossibleLettersRow : OpenClaim := { program := "ytcbeifkfllcjoaadoor", sum := "1d1f690e3bd283cc262d880bfd34d0f20430170402aec982358567a02d80503c", func := "loop.example/g01094/laws.FnExactPossibleLetters", spec := "fnExactPossibleLetters", unfollowed := true, recurses := true, named := ["math/bits.deBruijn64tab"], plainKeys := false, apart := false, laid := [("math/bits.deBruijn64tab", laid_math_bits_deBruijn64tab)] }
def FnExactPossibleLettersSaid : Prop := fnExactPossibleLettersRow.holds Tryd.pinned (OpenSpec.ofChange fnExactPossibleLettersSpec)

/-- ITS FALSE NEIGHBOUR: 'it returns false'. Refute it at one input. -/
def fnExactPossibleLettersWrong : ChangeSpec := { name := "fnExactPossibleLetters", fn := fun _ => fun
  | [d1, d2] => { results := [.lit (.bool false)], args := [d1, d2] }
  | _ => none }
def FnExactPossibleLettersWrongFalsely : Prop := fnExactPossibleLettersRow.holds Tryd.pinned (OpenSpec.ofChange fnExactPossibleLettersWrong)

/-- 'laws.FnExactAreGroupConjugate': WHATEVER THE INPUT: true; the input reads as it did. -/
def fnExactAreGroupConjugateSpec : ChangeSpec := { name := "fnExactAreGroupConjugate", fn := fun _ => fun
  | [d1, d2, d3] => { results := [.lit (.bool true)], args := [d1, d2, d3] }
  | _ => none }
def fnExactAreGroupConjugateRow : OpenClaim := { program := "ytcbeifkfllcjoaadoor", sum := "1d1f690e3bd283cc262d880bfd34d0f20430170402aec982358567a02d80503c", func := "loop.example/g01094/laws.FnExactAreGroupConjugate", spec := "fnExactAreGroupConjugate", unfollowed := true, recurses := true, named := ["math/bits.deBruijn64tab"], plainKeys := false, apart := false, laid := [("math/bits.deBruijn64tab", laid_math_bits_deBruijn64tab)] }
def FnExactAreGroupConjugateSaid : Prop := fnExactAreGroupConjugateRow.holds Tryd.pinned (OpenSpec.ofChange fnExactAreGroupConjugateSpec)

/-- ITS FALSE NEIGHBOUR: 'it returns false'. Refute it at one input. -/
def fnExactAreGroupConjugateWrong : ChangeSpec := { name := "fnExactAreGroupConjugate", fn := fun _ => fun
  | [d1, d2, d3] => { results := [.lit (.bool false)], args := [d1, d2, d3] }
  | _ => none }
def FnExactAreGroupConjugateWrongFalsely : Prop := fnExactAreGroupConjugateRow.holds Tryd.pinned (OpenSpec.ofChange fnExactAreGroupConjugateWrong)

/-- 'laws.FnExactSleepSearch': WHATEVER THE INPUT: true; the input reads as it did. -/
def fnExactSleepSearchSpec : ChangeSpec := { name := "fnExactSleepSearch", fn := fun _ => fun
  | [d1, d2] => { results := [.lit (.bool true)], args := [d1, d2] }
  | _ => none }
def fnExactSleepSearchRow : OpenClaim := { program := "ytcbeifkfllcjoaadoor", sum := "1d1f690e3bd283cc262d880bfd34d0f20430170402aec982358567a02d80503c", func := "loop.example/g01094/laws.FnExactSleepSearch", spec := "fnExactSleepSearch", unfollowed := true, recurses := true, named := ["math/bits.deBruijn64tab"], plainKeys := false, apart := false, laid := [("math/bits.deBruijn64tab", laid_math_bits_deBruijn64tab)] }
def FnExactSleepSearchSaid : Prop := fnExactSleepSearchRow.holds Tryd.pinned (OpenSpec.ofChange fnExactSleepSearchSpec)

/-- ITS FALSE NEIGHBOUR: 'it returns false'. Refute it at one input. -/
def fnExactSleepSearchWrong : ChangeSpec := { name := "fnExactSleepSearch", fn := fun _ => fun
  | [d1, d2] => { results := [.lit (.bool false)], args := [d1, d2] }
  | _ => none }
def FnExactSleepSearchWrongFalsely : Prop := fnExactSleepSearchRow.holds Tryd.pinned (OpenSpec.ofChange fnExactSleepSearchWrong)

/-- 'laws.FnExactGroupConjugator': WHATEVER THE INPUT: true; the input reads as it did. -/
def fnExactGroupConjugatorSpec : ChangeSpec := { name := "fnExactGroupConjugator", fn := fun _ => fun
  | [d1, d2, d3] => { results := [.lit (.bool true)], args := [d1, d2, d3] }
  | _ => none }
def fnExactGroupConjugatorRow : OpenClaim := { program := "ytcbeifkfllcjoaadoor", sum := "1d1f690e3bd283cc262d880bfd34d0f20430170402aec982358567a02d80503c", func := "loop.example/g01094/laws.FnExactGroupConjugator", spec := "fnExactGroupConjugator", unfollowed := true, recurses := true, named := ["math/bits.deBruijn64tab"], plainKeys := false, apart := false, laid := [("math/bits.deBruijn64tab", laid_math_bits_deBruijn64tab)] }
def FnExactGroupConjugatorSaid : Prop := fnExactGroupConjugatorRow.holds Tryd.pinned (OpenSpec.ofChange fnExactGroupConjugatorSpec)

/-- ITS FALSE NEIGHBOUR: 'it returns false'. Refute it at one input. -/
def fnExactGroupConjugatorWrong : ChangeSpec := { name := "fnExactGroupConjugator", fn := fun _ => fun
  | [d1, d2, d3] => { results := [.lit (.bool false)], args := [d1, d2, d3] }
  | _ => none }
def FnExactGroupConjugatorWrongFalsely : Prop := fnExactGroupConjugatorRow.holds Tryd.pinned (OpenSpec.ofChange fnExactGroupConjugatorWrong)

/-- 'laws.FnExactGroupRoot': WHATEVER THE INPUT: true; the input reads as it did. -/
def fnExactGroupRootSpec : ChangeSpec := { name := "fnExactGroupRoot", fn := fun _ => fun
  | [d1, d2] => { results := [.lit (.bool true)], args := [d1, d2] }
  | _ => none }
def fnExactGroupRootRow : OpenClaim := { program := "ytcbeifkfllcjoaadoor", sum := "1d1f690e3bd283cc262d880bfd34d0f20430170402aec982358567a02d80503c", func := "loop.example/g01094/laws.FnExactGroupRoot", spec := "fnExactGroupRoot", unfollowed := true, recurses := true, named := ["math/bits.deBruijn64tab"], plainKeys := false, apart := false, laid := [("math/bits.deBruijn64tab", laid_math_bits_deBruijn64tab)] }
def FnExactGroupRootSaid : Prop := fnExactGroupRootRow.holds Tryd.pinned (OpenSpec.ofChange fnExactGroupRootSpec)

/-- ITS FALSE NEIGHBOUR: 'it returns false'. Refute it at one input. -/
def fnExactGroupRootWrong : ChangeSpec := { name := "fnExactGroupRoot", fn := fun _ => fun
  | [d1, d2] => { results := [.lit (.bool false)], args := [d1, d2] }
  | _ => none }
def FnExactGroupRootWrongFalsely : Prop := fnExactGroupRootRow.holds Tryd.pinned (OpenSpec.ofChange fnExactGroupRootWrong)

/-- 'laws.FnExactSourceSearch': WHATEVER THE INPUT: true; the input reads as it did. -/
def fnExactSourceSearchSpec : ChangeSpec := { name := "fnExactSourceSearch", fn := fun _ => fun
  | [d1, d2] => { results := [.lit (.bool true)], args := [d1, d2] }
  | _ => none }
def fnExactSourceSearchRow : OpenClaim := { program := "ytcbeifkfllcjoaadoor", sum := "1d1f690e3bd283cc262d880bfd34d0f20430170402aec982358567a02d80503c", func := "loop.example/g01094/laws.FnExactSourceSearch", spec := "fnExactSourceSearch", unfollowed := true, recurses := true, named := ["math/bits.deBruijn64tab"], plainKeys := false, apart := false, laid := [("math/bits.deBruijn64tab", laid_math_bits_deBruijn64tab)] }
def FnExactSourceSearchSaid : Prop := fnExactSourceSearchRow.holds Tryd.pinned (OpenSpec.ofChange fnExactSourceSearchSpec)

/-- ITS FALSE NEIGHBOUR: 'it returns false'. Refute it at one input. -/
def fnExactSourceSearchWrong : ChangeSpec := { name := "fnExactSourceSearch", fn := fun _ => fun
  | [d1, d2] => { results := [.lit (.bool false)], args := [d1, d2] }
  | _ => none }
def FnExactSourceSearchWrongFalsely : Prop := fnExactSourceSearchRow.holds Tryd.pinned (OpenSpec.ofChange fnExactSourceSearchWrong)

/-- 'laws.FnExactPersistentSearch': WHATEVER THE INPUT: true; the input reads as it did. -/
def fnExactPersistentSearchSpec : ChangeSpec := { name := "fnExactPersistentSearch", fn := fun _ => fun
  | [d1, d2] => { results := [.lit (.bool true)], args := [d1, d2] }
  | _ => none }
def fnExactPersistentSearchRow : OpenClaim := { program := "ytcbeifkfllcjoaadoor", sum := "1d1f690e3bd283cc262d880bfd34d0f20430170402aec982358567a02d80503c", func := "loop.example/g01094/laws.FnExactPersistentSearch", spec := "fnExactPersistentSearch", unfollowed := true, recurses := true, named := ["math/bits.deBruijn64tab"], plainKeys := false, apart := false, laid := [("math/bits.deBruijn64tab", laid_math_bits_deBruijn64tab)] }
def FnExactPersistentSearchSaid : Prop := fnExactPersistentSearchRow.holds Tryd.pinned (OpenSpec.ofChange fnExactPersistentSearchSpec)

/-- ITS FALSE NEIGHBOUR: 'it returns false'. Refute it at one input. -/
def fnExactPersistentSearchWrong : ChangeSpec := { name := "fnExactPersistentSearch", fn := fun _ => fun
  | [d1, d2] => { results := [.lit (.bool false)], args := [d1, d2] }
  | _ => none }
def FnExactPersistentSearchWrongFalsely : Prop := fnExactPersistentSearchRow.holds Tryd.pinned (OpenSpec.ofChange fnExactPersistentSearchWrong)

/-- 'laws.FnPersistentSets': WHATEVER THE INPUT: true; the input reads as it did. -/
def fnPersistentSetsSpec : ChangeSpec := { name := "fnPersistentSets", fn := fun _ => fun
  | [d] => { results := [.lit (.bool true)], args := [d] }
  | _ => none }
def fnPersistentSetsRow : OpenClaim := { program := "ytcbeifkfllcjoaadoor", sum := "1d1f690e3bd283cc262d880bfd34d0f20430170402aec982358567a02d80503c", func := "loop.example/g01094/laws.FnPersistentSets", spec := "fnPersistentSets", unfollowed := true, recurses := true, named := ["math/bits.deBruijn64tab"], plainKeys := false, apart := false, laid := [("math/bits.deBruijn64tab", laid_math_bits_deBruijn64tab)] }
def FnPersistentSetsSaid : Prop := fnPersistentSetsRow.holds Tryd.pinned (OpenSpec.ofChange fnPersistentSetsSpec)

/-- ITS FALSE NEIGHBOUR: 'it returns false'. Refute it at one input. -/
def fnPersistentSetsWrong : ChangeSpec := { name := "fnPersistentSets", fn := fun _ => fun
  | [d] => { results := [.lit (.bool false)], args := [d] }
  | _ => none }
def FnPersistentSetsWrongFalsely : Prop := fnPersistentSetsRow.holds Tryd.pinned (OpenSpec.ofChange fnPersistentSetsWrong)

/-- 'laws.FnAsynchronousRuns': WHATEVER THE INPUT: true; the input reads as it did. -/
def fnAsynchronousRunsSpec : ChangeSpec := { name := "fnAsynchronousRuns", fn := fun _ => fun
  | [d] => { results := [.lit (.bool true)], args := [d] }
  | _ => none }
def fnAsynchronousRunsRow : OpenClaim := { program := "ytcbeifkfllcjoaadoor", sum := "1d1f690e3bd283cc262d880bfd34d0f20430170402aec982358567a02d80503c", func := "loop.example/g01094/laws.FnAsynchronousRuns", spec := "fnAsynchronousRuns", unfollowed := true, recurses := true, named := ["math/bits.deBruijn64tab"], plainKeys := false, apart := false, laid := [("math/bits.deBruijn64tab", laid_math_bits_deBruijn64tab)] }
def FnAsynchronousRunsSaid : Prop := fnAsynchronousRunsRow.holds Tryd.pinned (OpenSpec.ofChange fnAsynchronousRunsSpec)

/-- ITS FALSE NEIGHBOUR: 'it returns false'. Refute it at one input. -/
def fnAsynchronousRunsWrong : ChangeSpec := { name := "fnAsynchronousRuns", fn := fun _ => fun
  | [d] => { results := [.lit (.bool false)], args := [d] }
  | _ => none }
def FnAsynchronousRunsWrongFalsely : Prop := fnAsynchronousRunsRow.holds Tryd.pinned (OpenSpec.ofChange fnAsynchronousRunsWrong)

/-- 'laws.FnExactCountMaximal': WHATEVER THE INPUT: true; the input reads as it did. -/
def fnExactCountMaximalSpec : ChangeSpec := { name := "fnExactCountMaximal", fn := fun _ => fun
  | [d1, d2] => { results := [.lit (.bool true)], args := [d1, d2] }
  | _ => none }
def fnExactCountMaximalRow : OpenClaim := { program := "ytcbeifkfllcjoaadoor", sum := "1d1f690e3bd283cc262d880bfd34d0f20430170402aec982358567a02d80503c", func := "loop.example/g01094/laws.FnExactCountMaximal", spec := "fnExactCountMaximal", unfollowed := true, recurses := true, named := ["math/bits.deBruijn64tab"], plainKeys := false, apart := false, laid := [("math/bits.deBruijn64tab", laid_math_bits_deBruijn64tab)] }
def FnExactCountMaximalSaid : Prop := fnExactCountMaximalRow.holds Tryd.pinned (OpenSpec.ofChange fnExactCountMaximalSpec)

/-- ITS FALSE NEIGHBOUR: 'it returns false'. Refute it at one input. -/
def fnExactCountMaximalWrong : ChangeSpec := { name := "fnExactCountMaximal", fn := fun _ => fun
  | [d1, d2] => { results := [.lit (.bool false)], args := [d1, d2] }
  | _ => none }
def FnExactCountMaximalWrongFalsely : Prop := fnExactCountMaximalRow.holds Tryd.pinned (OpenSpec.ofChange fnExactCountMaximalWrong)

/-- 'laws.FnGroupPowers': WHATEVER THE INPUT: true; the input reads as it did. -/
def fnGroupPowersSpec : ChangeSpec := { name := "fnGroupPowers", fn := fun _ => fun
  | [d] => { results := [.lit (.bool true)], args := [d] }
  | _ => none }
def fnGroupPowersRow : OpenClaim := { program := "ytcbeifkfllcjoaadoor", sum := "1d1f690e3bd283cc262d880bfd34d0f20430170402aec982358567a02d80503c", func := "loop.example/g01094/laws.FnGroupPowers", spec := "fnGroupPowers", unfollowed := true, recurses := true, named := ["math/bits.deBruijn64tab"], plainKeys := false, apart := false, laid := [("math/bits.deBruijn64tab", laid_math_bits_deBruijn64tab)] }
def FnGroupPowersSaid : Prop := fnGroupPowersRow.holds Tryd.pinned (OpenSpec.ofChange fnGroupPowersSpec)

/-- ITS FALSE NEIGHBOUR: 'it returns false'. Refute it at one input. -/
def fnGroupPowersWrong : ChangeSpec := { name := "fnGroupPowers", fn := fun _ => fun
  | [d] => { results := [.lit (.bool false)], args := [d] }
  | _ => none }
def FnGroupPowersWrongFalsely : Prop := fnGroupPowersRow.holds Tryd.pinned (OpenSpec.ofChange fnGroupPowersWrong)

/- THE SECOND FORM. 'bulk': how many values and letters a reading holds, each counted each time it is reached (what is shared counts as often as it is met; a slice's spare places count too). A statement '..UptoSaid' is the law's where the arguments, and the package variables that the reading takes, are together of bulk at most 1048576: NARROWER than '..Said'. Prove '..Said' where nothing that the law and all that it calls make is longer than what came in: it says more and counts as full. Else prove '..UptoSaid'. A law counts once. -/
mutual
def uptoBulk {H : Type} : DataW H → Nat
  | .lit (.string bytes) => bytes.length + 1
  | .lit _ => 1
  | .nil => 1
  | .ptr d => uptoBulk d + 1
  | .slice elems spare => uptoBulkAll elems + uptoBulkAll spare + 1
  | .agg parts => uptoBulkAll parts + 1
  | .iface _ d => uptoBulk d + 1
  | .map entries => uptoBulkEntries entries + 1
  | .held _ => 1
def uptoBulkAll {H : Type} : List (DataW H) → Nat
  | [] => 0
  | d :: r => uptoBulk d + uptoBulkAll r
def uptoBulkEntries {H : Type} : List (Lit × DataW H) → Nat
  | [] => 0
  | x :: r => uptoBulkEntry x + uptoBulkEntries r
def uptoBulkEntry {H : Type} : Lit × DataW H → Nat
  | (.string bytes, d) => bytes.length + uptoBulk d + 1
  | (_, d) => uptoBulk d + 1
 end
def uptoSmall : (H : Type) → List (DataW H) → Bool := fun _ ds => decide (uptoBulkAll ds ≤ 1048576)
def OpenSpec.upto (s : _root_.Go.ChangeSpec) : _root_.Go.OpenSpec := { _root_.Go.OpenSpec.ofChange s with cond := some uptoSmall }

/-- 'laws.FnExactPossibleLetters', WHERE WHAT IT READS IS OF BULK AT MOST 1048576: true; the input reads as it did. -/
def fnExactPossibleLettersUptoRow : OpenClaim := { program := "ytcbeifkfllcjoaadoor", sum := "1d1f690e3bd283cc262d880bfd34d0f20430170402aec982358567a02d80503c", func := "loop.example/g01094/laws.FnExactPossibleLetters", spec := "fnExactPossibleLetters", unfollowed := true, recurses := true, named := ["math/bits.deBruijn64tab"], plainKeys := false, apart := false, laid := [("math/bits.deBruijn64tab", laid_math_bits_deBruijn64tab)], narrowed := true }
def FnExactPossibleLettersUptoSaid : Prop := fnExactPossibleLettersUptoRow.holds Tryd.pinned (OpenSpec.upto fnExactPossibleLettersSpec)

/-- 'laws.FnExactAreGroupConjugate', WHERE WHAT IT READS IS OF BULK AT MOST 1048576: true; the input reads as it did. -/
def fnExactAreGroupConjugateUptoRow : OpenClaim := { program := "ytcbeifkfllcjoaadoor", sum := "1d1f690e3bd283cc262d880bfd34d0f20430170402aec982358567a02d80503c", func := "loop.example/g01094/laws.FnExactAreGroupConjugate", spec := "fnExactAreGroupConjugate", unfollowed := true, recurses := true, named := ["math/bits.deBruijn64tab"], plainKeys := false, apart := false, laid := [("math/bits.deBruijn64tab", laid_math_bits_deBruijn64tab)], narrowed := true }
def FnExactAreGroupConjugateUptoSaid : Prop := fnExactAreGroupConjugateUptoRow.holds Tryd.pinned (OpenSpec.upto fnExactAreGroupConjugateSpec)

/-- 'laws.FnExactSleepSearch', WHERE WHAT IT READS IS OF BULK AT MOST 1048576: true; the input reads as it did. -/
def fnExactSleepSearchUptoRow : OpenClaim := { program := "ytcbeifkfllcjoaadoor", sum := "1d1f690e3bd283cc262d880bfd34d0f20430170402aec982358567a02d80503c", func := "loop.example/g01094/laws.FnExactSleepSearch", spec := "fnExactSleepSearch", unfollowed := true, recurses := true, named := ["math/bits.deBruijn64tab"], plainKeys := false, apart := false, laid := [("math/bits.deBruijn64tab", laid_math_bits_deBruijn64tab)], narrowed := true }
def FnExactSleepSearchUptoSaid : Prop := fnExactSleepSearchUptoRow.holds Tryd.pinned (OpenSpec.upto fnExactSleepSearchSpec)

/-- 'laws.FnExactGroupConjugator', WHERE WHAT IT READS IS OF BULK AT MOST 1048576: true; the input reads as it did. -/
def fnExactGroupConjugatorUptoRow : OpenClaim := { program := "ytcbeifkfllcjoaadoor", sum := "1d1f690e3bd283cc262d880bfd34d0f20430170402aec982358567a02d80503c", func := "loop.example/g01094/laws.FnExactGroupConjugator", spec := "fnExactGroupConjugator", unfollowed := true, recurses := true, named := ["math/bits.deBruijn64tab"], plainKeys := false, apart := false, laid := [("math/bits.deBruijn64tab", laid_math_bits_deBruijn64tab)], narrowed := true }
def FnExactGroupConjugatorUptoSaid : Prop := fnExactGroupConjugatorUptoRow.holds Tryd.pinned (OpenSpec.upto fnExactGroupConjugatorSpec)

/-- 'laws.FnExactGroupRoot', WHERE WHAT IT READS IS OF BULK AT MOST 1048576: true; the input reads as it did. -/
def fnExactGroupRootUptoRow : OpenClaim := { program := "ytcbeifkfllcjoaadoor", sum := "1d1f690e3bd283cc262d880bfd34d0f20430170402aec982358567a02d80503c", func := "loop.example/g01094/laws.FnExactGroupRoot", spec := "fnExactGroupRoot", unfollowed := true, recurses := true, named := ["math/bits.deBruijn64tab"], plainKeys := false, apart := false, laid := [("math/bits.deBruijn64tab", laid_math_bits_deBruijn64tab)], narrowed := true }
def FnExactGroupRootUptoSaid : Prop := fnExactGroupRootUptoRow.holds Tryd.pinned (OpenSpec.upto fnExactGroupRootSpec)

/-- 'laws.FnExactSourceSearch', WHERE WHAT IT READS IS OF BULK AT MOST 1048576: true; the input reads as it did. -/
def fnExactSourceSearchUptoRow : OpenClaim := { program := "ytcbeifkfllcjoaadoor", sum := "1d1f690e3bd283cc262d880bfd34d0f20430170402aec982358567a02d80503c", func := "loop.example/g01094/laws.FnExactSourceSearch", spec := "fnExactSourceSearch", unfollowed := true, recurses := true, named := ["math/bits.deBruijn64tab"], plainKeys := false, apart := false, laid := [("math/bits.deBruijn64tab", laid_math_bits_deBruijn64tab)], narrowed := true }
def FnExactSourceSearchUptoSaid : Prop := fnExactSourceSearchUptoRow.holds Tryd.pinned (OpenSpec.upto fnExactSourceSearchSpec)

/-- 'laws.FnExactPersistentSearch', WHERE WHAT IT READS IS OF BULK AT MOST 1048576: true; the input reads as it did. -/
def fnExactPersistentSearchUptoRow : OpenClaim := { program := "ytcbeifkfllcjoaadoor", sum := "1d1f690e3bd283cc262d880bfd34d0f20430170402aec982358567a02d80503c", func := "loop.example/g01094/laws.FnExactPersistentSearch", spec := "fnExactPersistentSearch", unfollowed := true, recurses := true, named := ["math/bits.deBruijn64tab"], plainKeys := false, apart := false, laid := [("math/bits.deBruijn64tab", laid_math_bits_deBruijn64tab)], narrowed := true }
def FnExactPersistentSearchUptoSaid : Prop := fnExactPersistentSearchUptoRow.holds Tryd.pinned (OpenSpec.upto fnExactPersistentSearchSpec)

/-- 'laws.FnPersistentSets', WHERE WHAT IT READS IS OF BULK AT MOST 1048576: true; the input reads as it did. -/
def fnPersistentSetsUptoRow : OpenClaim := { program := "ytcbeifkfllcjoaadoor", sum := "1d1f690e3bd283cc262d880bfd34d0f20430170402aec982358567a02d80503c", func := "loop.example/g01094/laws.FnPersistentSets", spec := "fnPersistentSets", unfollowed := true, recurses := true, named := ["math/bits.deBruijn64tab"], plainKeys := false, apart := false, laid := [("math/bits.deBruijn64tab", laid_math_bits_deBruijn64tab)], narrowed := true }
def FnPersistentSetsUptoSaid : Prop := fnPersistentSetsUptoRow.holds Tryd.pinned (OpenSpec.upto fnPersistentSetsSpec)

/-- 'laws.FnAsynchronousRuns', WHERE WHAT IT READS IS OF BULK AT MOST 1048576: true; the input reads as it did. -/
def fnAsynchronousRunsUptoRow : OpenClaim := { program := "ytcbeifkfllcjoaadoor", sum := "1d1f690e3bd283cc262d880bfd34d0f20430170402aec982358567a02d80503c", func := "loop.example/g01094/laws.FnAsynchronousRuns", spec := "fnAsynchronousRuns", unfollowed := true, recurses := true, named := ["math/bits.deBruijn64tab"], plainKeys := false, apart := false, laid := [("math/bits.deBruijn64tab", laid_math_bits_deBruijn64tab)], narrowed := true }
def FnAsynchronousRunsUptoSaid : Prop := fnAsynchronousRunsUptoRow.holds Tryd.pinned (OpenSpec.upto fnAsynchronousRunsSpec)

/-- 'laws.FnExactCountMaximal', WHERE WHAT IT READS IS OF BULK AT MOST 1048576: true; the input reads as it did. -/
def fnExactCountMaximalUptoRow : OpenClaim := { program := "ytcbeifkfllcjoaadoor", sum := "1d1f690e3bd283cc262d880bfd34d0f20430170402aec982358567a02d80503c", func := "loop.example/g01094/laws.FnExactCountMaximal", spec := "fnExactCountMaximal", unfollowed := true, recurses := true, named := ["math/bits.deBruijn64tab"], plainKeys := false, apart := false, laid := [("math/bits.deBruijn64tab", laid_math_bits_deBruijn64tab)], narrowed := true }
def FnExactCountMaximalUptoSaid : Prop := fnExactCountMaximalUptoRow.holds Tryd.pinned (OpenSpec.upto fnExactCountMaximalSpec)

/-- 'laws.FnGroupPowers', WHERE WHAT IT READS IS OF BULK AT MOST 1048576: true; the input reads as it did. -/
def fnGroupPowersUptoRow : OpenClaim := { program := "ytcbeifkfllcjoaadoor", sum := "1d1f690e3bd283cc262d880bfd34d0f20430170402aec982358567a02d80503c", func := "loop.example/g01094/laws.FnGroupPowers", spec := "fnGroupPowers", unfollowed := true, recurses := true, named := ["math/bits.deBruijn64tab"], plainKeys := false, apart := false, laid := [("math/bits.deBruijn64tab", laid_math_bits_deBruijn64tab)], narrowed := true }
def FnGroupPowersUptoSaid : Prop := fnGroupPowersUptoRow.holds Tryd.pinned (OpenSpec.upto fnGroupPowersSpec)

end Rows
end Go.Proofs.YtcbeifkfllcjoaaDoor
