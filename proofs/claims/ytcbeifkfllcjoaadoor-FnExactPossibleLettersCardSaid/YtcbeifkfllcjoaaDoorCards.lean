/-
  DERIVED. GIVEN WITH THE SEED: THE CARDS: each row of YtcbeifkfllcjoaaDoorRows.lean that lists a variable, with what it lists TIED to the program's text (the seventh form; the later family's looks); each row that meets fmt, with fmt's text TOLD by the authors' own Lean function (tested against real Go, not proved from fmt's source: count such statements apart). THE CARD IS WHAT COUNTS. Prove the row's statement (the work); the ties are given (YtcbeifkfllcjoaaDoorTie.lean); close each card by the builder's one call (the guide's Derived/Test/ToyasCard.lean, 'card_holds'). Laid BY PROGRAM, IN A SANDBOX (cutbox-door.mjs). By AI agents, Wed Nov 11 2026. No macro, syntax, notation, axiom, sorry.
-/
import Derived.Test.YtcbeifkfllcjoaaDoorRows
import GoSem.ClaimSeven
namespace Go.Proofs.YtcbeifkfllcjoaaDoor
namespace Rows

/-- THE TIED CARD OF 'laws.FnExactPossibleLetters'. -/
def fnExactPossibleLettersCard : Claim7 := { stood := { row := fnExactPossibleLettersRow, standIns := [], harness := (true, "55f267bced668d51ff178c59521df85fbbdd7a50f9b0b58e7e85b11f6571ac3f"), looks := false }, kinds := [], alts := [], laidByText := true, laidKinds := [.data], laidTests := true, laidLooks := .later }
def FnExactPossibleLettersCardSaid : Prop := Claim7.holds Tryd.pinned (.plain (OpenSpec.ofChange fnExactPossibleLettersSpec)) fnExactPossibleLettersCard

/-- THE TIED CARD OF 'laws.FnExactAreGroupConjugate'. -/
def fnExactAreGroupConjugateCard : Claim7 := { stood := { row := fnExactAreGroupConjugateRow, standIns := [], harness := (true, "55f267bced668d51ff178c59521df85fbbdd7a50f9b0b58e7e85b11f6571ac3f"), looks := false }, kinds := [], alts := [], laidByText := true, laidKinds := [.data], laidTests := true, laidLooks := .later }
def FnExactAreGroupConjugateCardSaid : Prop := Claim7.holds Tryd.pinned (.plain (OpenSpec.ofChange fnExactAreGroupConjugateSpec)) fnExactAreGroupConjugateCard

/-- THE TIED CARD OF 'laws.FnExactSleepSearch'. -/
def fnExactSleepSearchCard : Claim7 := { stood := { row := fnExactSleepSearchRow, standIns := [], harness := (true, "55f267bced668d51ff178c59521df85fbbdd7a50f9b0b58e7e85b11f6571ac3f"), looks := false }, kinds := [], alts := [], laidByText := true, laidKinds := [.data], laidTests := true, laidLooks := .later }
def FnExactSleepSearchCardSaid : Prop := Claim7.holds Tryd.pinned (.plain (OpenSpec.ofChange fnExactSleepSearchSpec)) fnExactSleepSearchCard

/-- THE TIED CARD OF 'laws.FnExactGroupConjugator'. -/
def fnExactGroupConjugatorCard : Claim7 := { stood := { row := fnExactGroupConjugatorRow, standIns := [], harness := (true, "55f267bced668d51ff178c59521df85fbbdd7a50f9b0b58e7e85b11f6571ac3f"), looks := false }, kinds := [], alts := [], laidByText := true, laidKinds := [.data], laidTests := true, laidLooks := .later }
def FnExactGroupConjugatorCardSaid : Prop := Claim7.holds Tryd.pinned (.plain (OpenSpec.ofChange fnExactGroupConjugatorSpec)) fnExactGroupConjugatorCard

/-- THE TIED CARD OF 'laws.FnExactGroupRoot'. -/
def fnExactGroupRootCard : Claim7 := { stood := { row := fnExactGroupRootRow, standIns := [], harness := (true, "55f267bced668d51ff178c59521df85fbbdd7a50f9b0b58e7e85b11f6571ac3f"), looks := false }, kinds := [], alts := [], laidByText := true, laidKinds := [.data], laidTests := true, laidLooks := .later }
def FnExactGroupRootCardSaid : Prop := Claim7.holds Tryd.pinned (.plain (OpenSpec.ofChange fnExactGroupRootSpec)) fnExactGroupRootCard

/-- THE TIED CARD OF 'laws.FnExactSourceSearch'. -/
def fnExactSourceSearchCard : Claim7 := { stood := { row := fnExactSourceSearchRow, standIns := [], harness := (true, "55f267bced668d51ff178c59521df85fbbdd7a50f9b0b58e7e85b11f6571ac3f"), looks := false }, kinds := [], alts := [], laidByText := true, laidKinds := [.data], laidTests := true, laidLooks := .later }
def FnExactSourceSearchCardSaid : Prop := Claim7.holds Tryd.pinned (.plain (OpenSpec.ofChange fnExactSourceSearchSpec)) fnExactSourceSearchCard

/-- THE TIED CARD OF 'laws.FnExactPersistentSearch'. -/
def fnExactPersistentSearchCard : Claim7 := { stood := { row := fnExactPersistentSearchRow, standIns := [], harness := (true, "55f267bced668d51ff178c59521df85fbbdd7a50f9b0b58e7e85b11f6571ac3f"), looks := false }, kinds := [], alts := [], laidByText := true, laidKinds := [.data], laidTests := true, laidLooks := .later }
def FnExactPersistentSearchCardSaid : Prop := Claim7.holds Tryd.pinned (.plain (OpenSpec.ofChange fnExactPersistentSearchSpec)) fnExactPersistentSearchCard

/-- THE TIED CARD OF 'laws.FnPersistentSets'. -/
def fnPersistentSetsCard : Claim7 := { stood := { row := fnPersistentSetsRow, standIns := [], harness := (true, "55f267bced668d51ff178c59521df85fbbdd7a50f9b0b58e7e85b11f6571ac3f"), looks := false }, kinds := [], alts := [], laidByText := true, laidKinds := [.data], laidTests := true, laidLooks := .later }
def FnPersistentSetsCardSaid : Prop := Claim7.holds Tryd.pinned (.plain (OpenSpec.ofChange fnPersistentSetsSpec)) fnPersistentSetsCard

/-- THE TIED CARD OF 'laws.FnAsynchronousRuns'. -/
def fnAsynchronousRunsCard : Claim7 := { stood := { row := fnAsynchronousRunsRow, standIns := [], harness := (true, "55f267bced668d51ff178c59521df85fbbdd7a50f9b0b58e7e85b11f6571ac3f"), looks := false }, kinds := [], alts := [], laidByText := true, laidKinds := [.data], laidTests := true, laidLooks := .later }
def FnAsynchronousRunsCardSaid : Prop := Claim7.holds Tryd.pinned (.plain (OpenSpec.ofChange fnAsynchronousRunsSpec)) fnAsynchronousRunsCard

/-- THE TIED CARD OF 'laws.FnExactCountMaximal'. -/
def fnExactCountMaximalCard : Claim7 := { stood := { row := fnExactCountMaximalRow, standIns := [], harness := (true, "55f267bced668d51ff178c59521df85fbbdd7a50f9b0b58e7e85b11f6571ac3f"), looks := false }, kinds := [], alts := [], laidByText := true, laidKinds := [.data], laidTests := true, laidLooks := .later }
def FnExactCountMaximalCardSaid : Prop := Claim7.holds Tryd.pinned (.plain (OpenSpec.ofChange fnExactCountMaximalSpec)) fnExactCountMaximalCard

/-- THE TIED CARD OF 'laws.FnGroupPowers'. -/
def fnGroupPowersCard : Claim7 := { stood := { row := fnGroupPowersRow, standIns := [], harness := (true, "55f267bced668d51ff178c59521df85fbbdd7a50f9b0b58e7e85b11f6571ac3f"), looks := false }, kinds := [], alts := [], laidByText := true, laidKinds := [.data], laidTests := true, laidLooks := .later }
def FnGroupPowersCardSaid : Prop := Claim7.holds Tryd.pinned (.plain (OpenSpec.ofChange fnGroupPowersSpec)) fnGroupPowersCard

/-- THE SECOND FORM's CARD OF 'laws.FnExactPossibleLetters'. -/
def fnExactPossibleLettersUptoCard : Claim7 := { stood := { row := fnExactPossibleLettersUptoRow, standIns := [], harness := (true, "55f267bced668d51ff178c59521df85fbbdd7a50f9b0b58e7e85b11f6571ac3f"), looks := false }, kinds := [], alts := [], laidByText := true, laidKinds := [.data], laidTests := true, laidLooks := .later }
def FnExactPossibleLettersUptoCardSaid : Prop := Claim7.holds Tryd.pinned (.plain (OpenSpec.upto fnExactPossibleLettersSpec)) fnExactPossibleLettersUptoCard

/-- THE SECOND FORM's CARD OF 'laws.FnExactAreGroupConjugate'. -/
def fnExactAreGroupConjugateUptoCard : Claim7 := { stood := { row := fnExactAreGroupConjugateUptoRow, standIns := [], harness := (true, "55f267bced668d51ff178c59521df85fbbdd7a50f9b0b58e7e85b11f6571ac3f"), looks := false }, kinds := [], alts := [], laidByText := true, laidKinds := [.data], laidTests := true, laidLooks := .later }
def FnExactAreGroupConjugateUptoCardSaid : Prop := Claim7.holds Tryd.pinned (.plain (OpenSpec.upto fnExactAreGroupConjugateSpec)) fnExactAreGroupConjugateUptoCard

/-- THE SECOND FORM's CARD OF 'laws.FnExactSleepSearch'. -/
def fnExactSleepSearchUptoCard : Claim7 := { stood := { row := fnExactSleepSearchUptoRow, standIns := [], harness := (true, "55f267bced668d51ff178c59521df85fbbdd7a50f9b0b58e7e85b11f6571ac3f"), looks := false }, kinds := [], alts := [], laidByText := true, laidKinds := [.data], laidTests := true, laidLooks := .later }
def FnExactSleepSearchUptoCardSaid : Prop := Claim7.holds Tryd.pinned (.plain (OpenSpec.upto fnExactSleepSearchSpec)) fnExactSleepSearchUptoCard

/-- THE SECOND FORM's CARD OF 'laws.FnExactGroupConjugator'. -/
def fnExactGroupConjugatorUptoCard : Claim7 := { stood := { row := fnExactGroupConjugatorUptoRow, standIns := [], harness := (true, "55f267bced668d51ff178c59521df85fbbdd7a50f9b0b58e7e85b11f6571ac3f"), looks := false }, kinds := [], alts := [], laidByText := true, laidKinds := [.data], laidTests := true, laidLooks := .later }
def FnExactGroupConjugatorUptoCardSaid : Prop := Claim7.holds Tryd.pinned (.plain (OpenSpec.upto fnExactGroupConjugatorSpec)) fnExactGroupConjugatorUptoCard

/-- THE SECOND FORM's CARD OF 'laws.FnExactGroupRoot'. -/
def fnExactGroupRootUptoCard : Claim7 := { stood := { row := fnExactGroupRootUptoRow, standIns := [], harness := (true, "55f267bced668d51ff178c59521df85fbbdd7a50f9b0b58e7e85b11f6571ac3f"), looks := false }, kinds := [], alts := [], laidByText := true, laidKinds := [.data], laidTests := true, laidLooks := .later }
def FnExactGroupRootUptoCardSaid : Prop := Claim7.holds Tryd.pinned (.plain (OpenSpec.upto fnExactGroupRootSpec)) fnExactGroupRootUptoCard

/-- THE SECOND FORM's CARD OF 'laws.FnExactSourceSearch'. -/
def fnExactSourceSearchUptoCard : Claim7 := { stood := { row := fnExactSourceSearchUptoRow, standIns := [], harness := (true, "55f267bced668d51ff178c59521df85fbbdd7a50f9b0b58e7e85b11f6571ac3f"), looks := false }, kinds := [], alts := [], laidByText := true, laidKinds := [.data], laidTests := true, laidLooks := .later }
def FnExactSourceSearchUptoCardSaid : Prop := Claim7.holds Tryd.pinned (.plain (OpenSpec.upto fnExactSourceSearchSpec)) fnExactSourceSearchUptoCard

/-- THE SECOND FORM's CARD OF 'laws.FnExactPersistentSearch'. -/
def fnExactPersistentSearchUptoCard : Claim7 := { stood := { row := fnExactPersistentSearchUptoRow, standIns := [], harness := (true, "55f267bced668d51ff178c59521df85fbbdd7a50f9b0b58e7e85b11f6571ac3f"), looks := false }, kinds := [], alts := [], laidByText := true, laidKinds := [.data], laidTests := true, laidLooks := .later }
def FnExactPersistentSearchUptoCardSaid : Prop := Claim7.holds Tryd.pinned (.plain (OpenSpec.upto fnExactPersistentSearchSpec)) fnExactPersistentSearchUptoCard

/-- THE SECOND FORM's CARD OF 'laws.FnPersistentSets'. -/
def fnPersistentSetsUptoCard : Claim7 := { stood := { row := fnPersistentSetsUptoRow, standIns := [], harness := (true, "55f267bced668d51ff178c59521df85fbbdd7a50f9b0b58e7e85b11f6571ac3f"), looks := false }, kinds := [], alts := [], laidByText := true, laidKinds := [.data], laidTests := true, laidLooks := .later }
def FnPersistentSetsUptoCardSaid : Prop := Claim7.holds Tryd.pinned (.plain (OpenSpec.upto fnPersistentSetsSpec)) fnPersistentSetsUptoCard

/-- THE SECOND FORM's CARD OF 'laws.FnAsynchronousRuns'. -/
def fnAsynchronousRunsUptoCard : Claim7 := { stood := { row := fnAsynchronousRunsUptoRow, standIns := [], harness := (true, "55f267bced668d51ff178c59521df85fbbdd7a50f9b0b58e7e85b11f6571ac3f"), looks := false }, kinds := [], alts := [], laidByText := true, laidKinds := [.data], laidTests := true, laidLooks := .later }
def FnAsynchronousRunsUptoCardSaid : Prop := Claim7.holds Tryd.pinned (.plain (OpenSpec.upto fnAsynchronousRunsSpec)) fnAsynchronousRunsUptoCard

/-- THE SECOND FORM's CARD OF 'laws.FnExactCountMaximal'. -/
def fnExactCountMaximalUptoCard : Claim7 := { stood := { row := fnExactCountMaximalUptoRow, standIns := [], harness := (true, "55f267bced668d51ff178c59521df85fbbdd7a50f9b0b58e7e85b11f6571ac3f"), looks := false }, kinds := [], alts := [], laidByText := true, laidKinds := [.data], laidTests := true, laidLooks := .later }
def FnExactCountMaximalUptoCardSaid : Prop := Claim7.holds Tryd.pinned (.plain (OpenSpec.upto fnExactCountMaximalSpec)) fnExactCountMaximalUptoCard

/-- THE SECOND FORM's CARD OF 'laws.FnGroupPowers'. -/
def fnGroupPowersUptoCard : Claim7 := { stood := { row := fnGroupPowersUptoRow, standIns := [], harness := (true, "55f267bced668d51ff178c59521df85fbbdd7a50f9b0b58e7e85b11f6571ac3f"), looks := false }, kinds := [], alts := [], laidByText := true, laidKinds := [.data], laidTests := true, laidLooks := .later }
def FnGroupPowersUptoCardSaid : Prop := Claim7.holds Tryd.pinned (.plain (OpenSpec.upto fnGroupPowersSpec)) fnGroupPowersUptoCard
end Rows
end Go.Proofs.YtcbeifkfllcjoaaDoor
