/-
  DERIVED. GIVEN WITH THE SEED: THE CARDS: each row of YtmddfhjgdhjmkaaDoorRows.lean that lists a variable, with what it lists TIED to the program's text (the seventh form; the later family's looks); each row that meets fmt, with fmt's text TOLD by the authors' own Lean function (tested against real Go, not proved from fmt's source: count such statements apart). THE CARD IS WHAT COUNTS. Prove the row's statement (the work); the ties are given (YtmddfhjgdhjmkaaDoorTie.lean); close each card by the builder's one call (the guide's Derived/Test/ToyasCard.lean, 'card_holds'). Laid BY PROGRAM, IN A SANDBOX (cutbox-door.mjs). By AI agents, Wed Nov 11 2026. No macro, syntax, notation, axiom, sorry.
-/
import Derived.Test.YtmddfhjgdhjmkaaDoorRows
import GoSem.ClaimSeven
namespace Go.Proofs.YtmddfhjgdhjmkaaDoor
namespace Rows

/-- THE TIED CARD OF 'laws.FnExactNodeOk'. -/
def fnExactNodeOkCard : Claim7 := { stood := { row := fnExactNodeOkRow, standIns := [], harness := (true, "ce8c9c3852bf1a4fda4077b08ce54bfbb5fc0273a3ecf969d49400fb239b50ba"), looks := false }, kinds := [], alts := [], laidByText := true, laidKinds := [.data], laidTests := true, laidLooks := .later }
def FnExactNodeOkCardSaid : Prop := Claim7.holds Tryd.pinned (.plain (OpenSpec.ofChange fnExactNodeOkSpec)) fnExactNodeOkCard

/-- THE TIED CARD OF 'laws.FnExactNodeWords'. -/
def fnExactNodeWordsCard : Claim7 := { stood := { row := fnExactNodeWordsRow, standIns := [], harness := (true, "ce8c9c3852bf1a4fda4077b08ce54bfbb5fc0273a3ecf969d49400fb239b50ba"), looks := false }, kinds := [], alts := [], laidByText := true, laidKinds := [.data], laidTests := true, laidLooks := .later }
def FnExactNodeWordsCardSaid : Prop := Claim7.holds Tryd.pinned (.plain (OpenSpec.ofChange fnExactNodeWordsSpec)) fnExactNodeWordsCard

/-- THE TIED CARD OF 'laws.FnNodeOk'. -/
def fnNodeOkCard : Claim7 := { stood := { row := fnNodeOkRow, standIns := [], harness := (true, "ce8c9c3852bf1a4fda4077b08ce54bfbb5fc0273a3ecf969d49400fb239b50ba"), looks := false }, kinds := [], alts := [], laidByText := true, laidKinds := [.data], laidTests := true, laidLooks := .later }
def FnNodeOkCardSaid : Prop := Claim7.holds Tryd.pinned (.plain (OpenSpec.ofChange fnNodeOkSpec)) fnNodeOkCard

/-- THE TIED CARD OF 'laws.FnExactReadCost'. -/
def fnExactReadCostCard : Claim7 := { stood := { row := fnExactReadCostRow, standIns := [], harness := (true, "ce8c9c3852bf1a4fda4077b08ce54bfbb5fc0273a3ecf969d49400fb239b50ba"), looks := false }, kinds := [], alts := [], laidByText := true, laidKinds := [.data], laidTests := true, laidLooks := .later }
def FnExactReadCostCardSaid : Prop := Claim7.holds Tryd.pinned (.plain (OpenSpec.ofChange fnExactReadCostSpec)) fnExactReadCostCard

/-- THE TIED CARD OF 'laws.FnReadCost'. -/
def fnReadCostCard : Claim7 := { stood := { row := fnReadCostRow, standIns := [], harness := (true, "ce8c9c3852bf1a4fda4077b08ce54bfbb5fc0273a3ecf969d49400fb239b50ba"), looks := false }, kinds := [], alts := [], laidByText := true, laidKinds := [.data], laidTests := true, laidLooks := .later }
def FnReadCostCardSaid : Prop := Claim7.holds Tryd.pinned (.plain (OpenSpec.ofChange fnReadCostSpec)) fnReadCostCard

/-- THE TIED CARD OF 'laws.FnExactTextOf'. -/
def fnExactTextOfCard : Claim7 := { stood := { row := fnExactTextOfRow, standIns := [], harness := (true, "ce8c9c3852bf1a4fda4077b08ce54bfbb5fc0273a3ecf969d49400fb239b50ba"), looks := false }, kinds := [], alts := [], laidByText := true, laidKinds := [.data], laidTests := true, laidLooks := .later }
def FnExactTextOfCardSaid : Prop := Claim7.holds Tryd.pinned (.plain (OpenSpec.ofChange fnExactTextOfSpec)) fnExactTextOfCard

/-- THE TIED CARD OF 'laws.FnTextAlike'. -/
def fnTextAlikeCard : Claim7 := { stood := { row := fnTextAlikeRow, standIns := [], harness := (true, "ce8c9c3852bf1a4fda4077b08ce54bfbb5fc0273a3ecf969d49400fb239b50ba"), looks := false }, kinds := [], alts := [], laidByText := true, laidKinds := [.data], laidTests := true, laidLooks := .later }
def FnTextAlikeCardSaid : Prop := Claim7.holds Tryd.pinned (.plain (OpenSpec.ofChange fnTextAlikeSpec)) fnTextAlikeCard

/-- THE TIED CARD OF 'laws.FnText'. -/
def fnTextCard : Claim7 := { stood := { row := fnTextRow, standIns := [], harness := (true, "ce8c9c3852bf1a4fda4077b08ce54bfbb5fc0273a3ecf969d49400fb239b50ba"), looks := false }, kinds := [], alts := [], laidByText := true, laidKinds := [.data], laidTests := true, laidLooks := .later }
def FnTextCardSaid : Prop := Claim7.holds Tryd.pinned (.plain (OpenSpec.ofChange fnTextSpec)) fnTextCard

/-- THE TIED CARD OF 'laws.FnExactAlike'. -/
def fnExactAlikeCard : Claim7 := { stood := { row := fnExactAlikeRow, standIns := [], harness := (true, "ce8c9c3852bf1a4fda4077b08ce54bfbb5fc0273a3ecf969d49400fb239b50ba"), looks := false }, kinds := [], alts := [], laidByText := true, laidKinds := [.data], laidTests := true, laidLooks := .later }
def FnExactAlikeCardSaid : Prop := Claim7.holds Tryd.pinned (.plain (OpenSpec.ofChange fnExactAlikeSpec)) fnExactAlikeCard

/-- THE TIED CARD OF 'laws.FnNodeWords'. -/
def fnNodeWordsCard : Claim7 := { stood := { row := fnNodeWordsRow, standIns := [], harness := (true, "ce8c9c3852bf1a4fda4077b08ce54bfbb5fc0273a3ecf969d49400fb239b50ba"), looks := false }, kinds := [], alts := [], laidByText := true, laidKinds := [.data], laidTests := true, laidLooks := .later }
def FnNodeWordsCardSaid : Prop := Claim7.holds Tryd.pinned (.plain (OpenSpec.ofChange fnNodeWordsSpec)) fnNodeWordsCard

/-- THE SECOND FORM's CARD OF 'laws.FnExactNodeOk'. -/
def fnExactNodeOkUptoCard : Claim7 := { stood := { row := fnExactNodeOkUptoRow, standIns := [], harness := (true, "ce8c9c3852bf1a4fda4077b08ce54bfbb5fc0273a3ecf969d49400fb239b50ba"), looks := false }, kinds := [], alts := [], laidByText := true, laidKinds := [.data], laidTests := true, laidLooks := .later }
def FnExactNodeOkUptoCardSaid : Prop := Claim7.holds Tryd.pinned (.plain (OpenSpec.upto fnExactNodeOkSpec)) fnExactNodeOkUptoCard

/-- THE SECOND FORM's CARD OF 'laws.FnExactNodeWords'. -/
def fnExactNodeWordsUptoCard : Claim7 := { stood := { row := fnExactNodeWordsUptoRow, standIns := [], harness := (true, "ce8c9c3852bf1a4fda4077b08ce54bfbb5fc0273a3ecf969d49400fb239b50ba"), looks := false }, kinds := [], alts := [], laidByText := true, laidKinds := [.data], laidTests := true, laidLooks := .later }
def FnExactNodeWordsUptoCardSaid : Prop := Claim7.holds Tryd.pinned (.plain (OpenSpec.upto fnExactNodeWordsSpec)) fnExactNodeWordsUptoCard

/-- THE SECOND FORM's CARD OF 'laws.FnNodeOk'. -/
def fnNodeOkUptoCard : Claim7 := { stood := { row := fnNodeOkUptoRow, standIns := [], harness := (true, "ce8c9c3852bf1a4fda4077b08ce54bfbb5fc0273a3ecf969d49400fb239b50ba"), looks := false }, kinds := [], alts := [], laidByText := true, laidKinds := [.data], laidTests := true, laidLooks := .later }
def FnNodeOkUptoCardSaid : Prop := Claim7.holds Tryd.pinned (.plain (OpenSpec.upto fnNodeOkSpec)) fnNodeOkUptoCard

/-- THE SECOND FORM's CARD OF 'laws.FnExactReadCost'. -/
def fnExactReadCostUptoCard : Claim7 := { stood := { row := fnExactReadCostUptoRow, standIns := [], harness := (true, "ce8c9c3852bf1a4fda4077b08ce54bfbb5fc0273a3ecf969d49400fb239b50ba"), looks := false }, kinds := [], alts := [], laidByText := true, laidKinds := [.data], laidTests := true, laidLooks := .later }
def FnExactReadCostUptoCardSaid : Prop := Claim7.holds Tryd.pinned (.plain (OpenSpec.upto fnExactReadCostSpec)) fnExactReadCostUptoCard

/-- THE SECOND FORM's CARD OF 'laws.FnReadCost'. -/
def fnReadCostUptoCard : Claim7 := { stood := { row := fnReadCostUptoRow, standIns := [], harness := (true, "ce8c9c3852bf1a4fda4077b08ce54bfbb5fc0273a3ecf969d49400fb239b50ba"), looks := false }, kinds := [], alts := [], laidByText := true, laidKinds := [.data], laidTests := true, laidLooks := .later }
def FnReadCostUptoCardSaid : Prop := Claim7.holds Tryd.pinned (.plain (OpenSpec.upto fnReadCostSpec)) fnReadCostUptoCard

/-- THE SECOND FORM's CARD OF 'laws.FnExactTextOf'. -/
def fnExactTextOfUptoCard : Claim7 := { stood := { row := fnExactTextOfUptoRow, standIns := [], harness := (true, "ce8c9c3852bf1a4fda4077b08ce54bfbb5fc0273a3ecf969d49400fb239b50ba"), looks := false }, kinds := [], alts := [], laidByText := true, laidKinds := [.data], laidTests := true, laidLooks := .later }
def FnExactTextOfUptoCardSaid : Prop := Claim7.holds Tryd.pinned (.plain (OpenSpec.upto fnExactTextOfSpec)) fnExactTextOfUptoCard

/-- THE SECOND FORM's CARD OF 'laws.FnTextAlike'. -/
def fnTextAlikeUptoCard : Claim7 := { stood := { row := fnTextAlikeUptoRow, standIns := [], harness := (true, "ce8c9c3852bf1a4fda4077b08ce54bfbb5fc0273a3ecf969d49400fb239b50ba"), looks := false }, kinds := [], alts := [], laidByText := true, laidKinds := [.data], laidTests := true, laidLooks := .later }
def FnTextAlikeUptoCardSaid : Prop := Claim7.holds Tryd.pinned (.plain (OpenSpec.upto fnTextAlikeSpec)) fnTextAlikeUptoCard

/-- THE SECOND FORM's CARD OF 'laws.FnText'. -/
def fnTextUptoCard : Claim7 := { stood := { row := fnTextUptoRow, standIns := [], harness := (true, "ce8c9c3852bf1a4fda4077b08ce54bfbb5fc0273a3ecf969d49400fb239b50ba"), looks := false }, kinds := [], alts := [], laidByText := true, laidKinds := [.data], laidTests := true, laidLooks := .later }
def FnTextUptoCardSaid : Prop := Claim7.holds Tryd.pinned (.plain (OpenSpec.upto fnTextSpec)) fnTextUptoCard

/-- THE SECOND FORM's CARD OF 'laws.FnExactAlike'. -/
def fnExactAlikeUptoCard : Claim7 := { stood := { row := fnExactAlikeUptoRow, standIns := [], harness := (true, "ce8c9c3852bf1a4fda4077b08ce54bfbb5fc0273a3ecf969d49400fb239b50ba"), looks := false }, kinds := [], alts := [], laidByText := true, laidKinds := [.data], laidTests := true, laidLooks := .later }
def FnExactAlikeUptoCardSaid : Prop := Claim7.holds Tryd.pinned (.plain (OpenSpec.upto fnExactAlikeSpec)) fnExactAlikeUptoCard

/-- THE SECOND FORM's CARD OF 'laws.FnNodeWords'. -/
def fnNodeWordsUptoCard : Claim7 := { stood := { row := fnNodeWordsUptoRow, standIns := [], harness := (true, "ce8c9c3852bf1a4fda4077b08ce54bfbb5fc0273a3ecf969d49400fb239b50ba"), looks := false }, kinds := [], alts := [], laidByText := true, laidKinds := [.data], laidTests := true, laidLooks := .later }
def FnNodeWordsUptoCardSaid : Prop := Claim7.holds Tryd.pinned (.plain (OpenSpec.upto fnNodeWordsSpec)) fnNodeWordsUptoCard
end Rows
end Go.Proofs.YtmddfhjgdhjmkaaDoor
