/-
  DERIVED. GIVEN WITH THE SEED: THE CARDS: each row of YtaapkkeogajfpaaDoorRows.lean that lists a variable, with what it lists TIED to the program's text (the seventh form; the later family's looks); each row that meets fmt, with fmt's text TOLD by the authors' own Lean function (tested against real Go, not proved from fmt's source: count such statements apart). THE CARD IS WHAT COUNTS. Prove the row's statement (the work); the ties are given (YtaapkkeogajfpaaDoorTie.lean); close each card by the builder's one call (the guide's Derived/Test/ToyasCard.lean, 'card_holds'). Laid BY PROGRAM, IN A SANDBOX (cutbox-door.mjs). By AI agents, Wed Nov 11 2026. No macro, syntax, notation, axiom, sorry.
-/
import Derived.Test.YtaapkkeogajfpaaDoorRows
import GoSem.ClaimSeven
namespace Go.Proofs.YtaapkkeogajfpaaDoor
namespace Rows

/-- THE TIED CARD OF 'laws.FnNodeWords'. -/
def fnNodeWordsCard : Claim7 := { stood := { row := fnNodeWordsRow, standIns := [], harness := (true, "6cfb199068cb004f0d37af1f4499f37bd574c4fde8bced2d4b0a60c426b43928"), looks := false }, kinds := [], alts := [], laidByText := true, laidKinds := [.data], laidTests := true, laidLooks := .later }
def FnNodeWordsCardSaid : Prop := Claim7.holds Tryd.pinned (.plain (OpenSpec.ofChange fnNodeWordsSpec)) fnNodeWordsCard

/-- THE TIED CARD OF 'laws.FnCanonItems'. -/
def fnCanonItemsCard : Claim7 := { stood := { row := fnCanonItemsRow, standIns := [], harness := (true, "6cfb199068cb004f0d37af1f4499f37bd574c4fde8bced2d4b0a60c426b43928"), looks := false }, kinds := [], alts := [], laidByText := true, laidKinds := [.data], laidTests := true, laidLooks := .later }
def FnCanonItemsCardSaid : Prop := Claim7.holds Tryd.pinned (.plain (OpenSpec.ofChange fnCanonItemsSpec)) fnCanonItemsCard

/-- THE TIED CARD OF 'laws.FnCanon'. -/
def fnCanonCard : Claim7 := { stood := { row := fnCanonRow, standIns := [], harness := (true, "6cfb199068cb004f0d37af1f4499f37bd574c4fde8bced2d4b0a60c426b43928"), looks := false }, kinds := [], alts := [], laidByText := true, laidKinds := [.data], laidTests := true, laidLooks := .later }
def FnCanonCardSaid : Prop := Claim7.holds Tryd.pinned (.plain (OpenSpec.ofChange fnCanonSpec)) fnCanonCard

/-- THE TIED CARD OF 'laws.FnBuildSegs'. -/
def fnBuildSegsCard : Claim7 := { stood := { row := fnBuildSegsRow, standIns := [], harness := (true, "6cfb199068cb004f0d37af1f4499f37bd574c4fde8bced2d4b0a60c426b43928"), looks := false }, kinds := [], alts := [], laidByText := true, laidKinds := [.data], laidTests := true, laidLooks := .later }
def FnBuildSegsCardSaid : Prop := Claim7.holds Tryd.pinned (.plain (OpenSpec.ofChange fnBuildSegsSpec)) fnBuildSegsCard

/-- THE TIED CARD OF 'laws.FnExactBuildOne'. -/
def fnExactBuildOneCard : Claim7 := { stood := { row := fnExactBuildOneRow, standIns := [], harness := (true, "6cfb199068cb004f0d37af1f4499f37bd574c4fde8bced2d4b0a60c426b43928"), looks := false }, kinds := [], alts := [], laidByText := true, laidKinds := [.data], laidTests := true, laidLooks := .later }
def FnExactBuildOneCardSaid : Prop := Claim7.holds Tryd.pinned (.plain (OpenSpec.ofChange fnExactBuildOneSpec)) fnExactBuildOneCard

/-- THE TIED CARD OF 'laws.FnCanonLeast'. -/
def fnCanonLeastCard : Claim7 := { stood := { row := fnCanonLeastRow, standIns := [], harness := (true, "6cfb199068cb004f0d37af1f4499f37bd574c4fde8bced2d4b0a60c426b43928"), looks := false }, kinds := [], alts := [], laidByText := true, laidKinds := [.data], laidTests := true, laidLooks := .later }
def FnCanonLeastCardSaid : Prop := Claim7.holds Tryd.pinned (.plain (OpenSpec.ofChange fnCanonLeastSpec)) fnCanonLeastCard

/-- THE TIED CARD OF 'laws.FnBuild'. -/
def fnBuildCard : Claim7 := { stood := { row := fnBuildRow, standIns := [], harness := (true, "6cfb199068cb004f0d37af1f4499f37bd574c4fde8bced2d4b0a60c426b43928"), looks := false }, kinds := [], alts := [], laidByText := true, laidKinds := [.data], laidTests := true, laidLooks := .later }
def FnBuildCardSaid : Prop := Claim7.holds Tryd.pinned (.plain (OpenSpec.ofChange fnBuildSpec)) fnBuildCard

/-- THE TIED CARD OF 'laws.FnExactCanonPut'. -/
def fnExactCanonPutCard : Claim7 := { stood := { row := fnExactCanonPutRow, standIns := [], harness := (true, "6cfb199068cb004f0d37af1f4499f37bd574c4fde8bced2d4b0a60c426b43928"), looks := false }, kinds := [], alts := [], laidByText := true, laidKinds := [.data], laidTests := true, laidLooks := .later }
def FnExactCanonPutCardSaid : Prop := Claim7.holds Tryd.pinned (.plain (OpenSpec.ofChange fnExactCanonPutSpec)) fnExactCanonPutCard

/-- THE TIED CARD OF 'laws.FnReadFar'. -/
def fnReadFarCard : Claim7 := { stood := { row := fnReadFarRow, standIns := [], harness := (true, "6cfb199068cb004f0d37af1f4499f37bd574c4fde8bced2d4b0a60c426b43928"), looks := false }, kinds := [], alts := [], laidByText := true, laidKinds := [.data], laidTests := true, laidLooks := .later }
def FnReadFarCardSaid : Prop := Claim7.holds Tryd.pinned (.plain (OpenSpec.ofChange fnReadFarSpec)) fnReadFarCard

/-- THE TIED CARD OF 'laws.FnReadTwo'. -/
def fnReadTwoCard : Claim7 := { stood := { row := fnReadTwoRow, standIns := [], harness := (true, "6cfb199068cb004f0d37af1f4499f37bd574c4fde8bced2d4b0a60c426b43928"), looks := false }, kinds := [], alts := [], laidByText := true, laidKinds := [.data], laidTests := true, laidLooks := .later }
def FnReadTwoCardSaid : Prop := Claim7.holds Tryd.pinned (.plain (OpenSpec.ofChange fnReadTwoSpec)) fnReadTwoCard

/-- THE TIED CARD OF 'laws.FnBuildOne'. -/
def fnBuildOneCard : Claim7 := { stood := { row := fnBuildOneRow, standIns := [], harness := (true, "6cfb199068cb004f0d37af1f4499f37bd574c4fde8bced2d4b0a60c426b43928"), looks := false }, kinds := [], alts := [], laidByText := true, laidKinds := [.data], laidTests := true, laidLooks := .later }
def FnBuildOneCardSaid : Prop := Claim7.holds Tryd.pinned (.plain (OpenSpec.ofChange fnBuildOneSpec)) fnBuildOneCard

/-- THE TIED CARD OF 'laws.FnCanonPut'. -/
def fnCanonPutCard : Claim7 := { stood := { row := fnCanonPutRow, standIns := [], harness := (true, "6cfb199068cb004f0d37af1f4499f37bd574c4fde8bced2d4b0a60c426b43928"), looks := false }, kinds := [], alts := [], laidByText := true, laidKinds := [.data], laidTests := true, laidLooks := .later }
def FnCanonPutCardSaid : Prop := Claim7.holds Tryd.pinned (.plain (OpenSpec.ofChange fnCanonPutSpec)) fnCanonPutCard

/-- THE TIED CARD OF 'laws.FnExactSend'. -/
def fnExactSendCard : Claim7 := { stood := { row := fnExactSendRow, standIns := [], harness := (true, "6cfb199068cb004f0d37af1f4499f37bd574c4fde8bced2d4b0a60c426b43928"), looks := false }, kinds := [], alts := [], laidByText := true, laidKinds := [.data, .data, .pinned], laidTests := true, laidLooks := .later }
def FnExactSendCardSaid : Prop := Claim7.holds Tryd.pinned (.plain (OpenSpec.ofChange fnExactSendSpec)) fnExactSendCard

/-- THE SECOND FORM's CARD OF 'laws.FnNodeWords'. -/
def fnNodeWordsUptoCard : Claim7 := { stood := { row := fnNodeWordsUptoRow, standIns := [], harness := (true, "6cfb199068cb004f0d37af1f4499f37bd574c4fde8bced2d4b0a60c426b43928"), looks := false }, kinds := [], alts := [], laidByText := true, laidKinds := [.data], laidTests := true, laidLooks := .later }
def FnNodeWordsUptoCardSaid : Prop := Claim7.holds Tryd.pinned (.plain (OpenSpec.upto fnNodeWordsSpec)) fnNodeWordsUptoCard

/-- THE SECOND FORM's CARD OF 'laws.FnCanonItems'. -/
def fnCanonItemsUptoCard : Claim7 := { stood := { row := fnCanonItemsUptoRow, standIns := [], harness := (true, "6cfb199068cb004f0d37af1f4499f37bd574c4fde8bced2d4b0a60c426b43928"), looks := false }, kinds := [], alts := [], laidByText := true, laidKinds := [.data], laidTests := true, laidLooks := .later }
def FnCanonItemsUptoCardSaid : Prop := Claim7.holds Tryd.pinned (.plain (OpenSpec.upto fnCanonItemsSpec)) fnCanonItemsUptoCard

/-- THE SECOND FORM's CARD OF 'laws.FnCanon'. -/
def fnCanonUptoCard : Claim7 := { stood := { row := fnCanonUptoRow, standIns := [], harness := (true, "6cfb199068cb004f0d37af1f4499f37bd574c4fde8bced2d4b0a60c426b43928"), looks := false }, kinds := [], alts := [], laidByText := true, laidKinds := [.data], laidTests := true, laidLooks := .later }
def FnCanonUptoCardSaid : Prop := Claim7.holds Tryd.pinned (.plain (OpenSpec.upto fnCanonSpec)) fnCanonUptoCard

/-- THE SECOND FORM's CARD OF 'laws.FnBuildSegs'. -/
def fnBuildSegsUptoCard : Claim7 := { stood := { row := fnBuildSegsUptoRow, standIns := [], harness := (true, "6cfb199068cb004f0d37af1f4499f37bd574c4fde8bced2d4b0a60c426b43928"), looks := false }, kinds := [], alts := [], laidByText := true, laidKinds := [.data], laidTests := true, laidLooks := .later }
def FnBuildSegsUptoCardSaid : Prop := Claim7.holds Tryd.pinned (.plain (OpenSpec.upto fnBuildSegsSpec)) fnBuildSegsUptoCard

/-- THE SECOND FORM's CARD OF 'laws.FnExactBuildOne'. -/
def fnExactBuildOneUptoCard : Claim7 := { stood := { row := fnExactBuildOneUptoRow, standIns := [], harness := (true, "6cfb199068cb004f0d37af1f4499f37bd574c4fde8bced2d4b0a60c426b43928"), looks := false }, kinds := [], alts := [], laidByText := true, laidKinds := [.data], laidTests := true, laidLooks := .later }
def FnExactBuildOneUptoCardSaid : Prop := Claim7.holds Tryd.pinned (.plain (OpenSpec.upto fnExactBuildOneSpec)) fnExactBuildOneUptoCard

/-- THE SECOND FORM's CARD OF 'laws.FnCanonLeast'. -/
def fnCanonLeastUptoCard : Claim7 := { stood := { row := fnCanonLeastUptoRow, standIns := [], harness := (true, "6cfb199068cb004f0d37af1f4499f37bd574c4fde8bced2d4b0a60c426b43928"), looks := false }, kinds := [], alts := [], laidByText := true, laidKinds := [.data], laidTests := true, laidLooks := .later }
def FnCanonLeastUptoCardSaid : Prop := Claim7.holds Tryd.pinned (.plain (OpenSpec.upto fnCanonLeastSpec)) fnCanonLeastUptoCard

/-- THE SECOND FORM's CARD OF 'laws.FnBuild'. -/
def fnBuildUptoCard : Claim7 := { stood := { row := fnBuildUptoRow, standIns := [], harness := (true, "6cfb199068cb004f0d37af1f4499f37bd574c4fde8bced2d4b0a60c426b43928"), looks := false }, kinds := [], alts := [], laidByText := true, laidKinds := [.data], laidTests := true, laidLooks := .later }
def FnBuildUptoCardSaid : Prop := Claim7.holds Tryd.pinned (.plain (OpenSpec.upto fnBuildSpec)) fnBuildUptoCard

/-- THE SECOND FORM's CARD OF 'laws.FnExactCanonPut'. -/
def fnExactCanonPutUptoCard : Claim7 := { stood := { row := fnExactCanonPutUptoRow, standIns := [], harness := (true, "6cfb199068cb004f0d37af1f4499f37bd574c4fde8bced2d4b0a60c426b43928"), looks := false }, kinds := [], alts := [], laidByText := true, laidKinds := [.data], laidTests := true, laidLooks := .later }
def FnExactCanonPutUptoCardSaid : Prop := Claim7.holds Tryd.pinned (.plain (OpenSpec.upto fnExactCanonPutSpec)) fnExactCanonPutUptoCard

/-- THE SECOND FORM's CARD OF 'laws.FnReadFar'. -/
def fnReadFarUptoCard : Claim7 := { stood := { row := fnReadFarUptoRow, standIns := [], harness := (true, "6cfb199068cb004f0d37af1f4499f37bd574c4fde8bced2d4b0a60c426b43928"), looks := false }, kinds := [], alts := [], laidByText := true, laidKinds := [.data], laidTests := true, laidLooks := .later }
def FnReadFarUptoCardSaid : Prop := Claim7.holds Tryd.pinned (.plain (OpenSpec.upto fnReadFarSpec)) fnReadFarUptoCard

/-- THE SECOND FORM's CARD OF 'laws.FnReadTwo'. -/
def fnReadTwoUptoCard : Claim7 := { stood := { row := fnReadTwoUptoRow, standIns := [], harness := (true, "6cfb199068cb004f0d37af1f4499f37bd574c4fde8bced2d4b0a60c426b43928"), looks := false }, kinds := [], alts := [], laidByText := true, laidKinds := [.data], laidTests := true, laidLooks := .later }
def FnReadTwoUptoCardSaid : Prop := Claim7.holds Tryd.pinned (.plain (OpenSpec.upto fnReadTwoSpec)) fnReadTwoUptoCard

/-- THE SECOND FORM's CARD OF 'laws.FnBuildOne'. -/
def fnBuildOneUptoCard : Claim7 := { stood := { row := fnBuildOneUptoRow, standIns := [], harness := (true, "6cfb199068cb004f0d37af1f4499f37bd574c4fde8bced2d4b0a60c426b43928"), looks := false }, kinds := [], alts := [], laidByText := true, laidKinds := [.data], laidTests := true, laidLooks := .later }
def FnBuildOneUptoCardSaid : Prop := Claim7.holds Tryd.pinned (.plain (OpenSpec.upto fnBuildOneSpec)) fnBuildOneUptoCard

/-- THE SECOND FORM's CARD OF 'laws.FnCanonPut'. -/
def fnCanonPutUptoCard : Claim7 := { stood := { row := fnCanonPutUptoRow, standIns := [], harness := (true, "6cfb199068cb004f0d37af1f4499f37bd574c4fde8bced2d4b0a60c426b43928"), looks := false }, kinds := [], alts := [], laidByText := true, laidKinds := [.data], laidTests := true, laidLooks := .later }
def FnCanonPutUptoCardSaid : Prop := Claim7.holds Tryd.pinned (.plain (OpenSpec.upto fnCanonPutSpec)) fnCanonPutUptoCard

/-- THE SECOND FORM's CARD OF 'laws.FnExactSend'. -/
def fnExactSendUptoCard : Claim7 := { stood := { row := fnExactSendUptoRow, standIns := [], harness := (true, "6cfb199068cb004f0d37af1f4499f37bd574c4fde8bced2d4b0a60c426b43928"), looks := false }, kinds := [], alts := [], laidByText := true, laidKinds := [.data, .data, .pinned], laidTests := true, laidLooks := .later }
def FnExactSendUptoCardSaid : Prop := Claim7.holds Tryd.pinned (.plain (OpenSpec.upto fnExactSendSpec)) fnExactSendUptoCard
end Rows
end Go.Proofs.YtaapkkeogajfpaaDoor
