/-
  DERIVED. GIVEN WITH THE SEED: THE CARDS: each row of YtjecddabdlapbaaDoorRows.lean that lists a variable, with what it lists TIED to the program's text (the seventh form; the later family's looks); each row that meets fmt, with fmt's text TOLD by the authors' own Lean function (tested against real Go, not proved from fmt's source: count such statements apart). THE CARD IS WHAT COUNTS. Prove the row's statement (the work); the ties are given (YtjecddabdlapbaaDoorTie.lean); close each card by the builder's one call (the guide's Derived/Test/ToyasCard.lean, 'card_holds'). Laid BY PROGRAM, IN A SANDBOX (cutbox-door.mjs). By AI agents, Wed Nov 11 2026. No macro, syntax, notation, axiom, sorry.
-/
import Derived.Test.YtjecddabdlapbaaDoorRows
import GoSem.ClaimSeven
namespace Go.Proofs.YtjecddabdlapbaaDoor
namespace Rows

/-- THE TIED CARD OF 'chafflaw.SetSays'. -/
def setSaysCard : Claim7 := { stood := { row := setSaysRow, standIns := [], harness := (true, "3583bbeb2386bf1f00544cbe08facc119fe8635c543cd5841271669cb09a7974"), looks := true }, kinds := [], alts := [], laidByText := true, laidKinds := [.data], laidTests := true, laidLooks := .later }
def SetSaysCardSaid : Prop := Claim7.holds Tryd.pinned (.plain (OpenSpec.ofChange setSaysSpec)) setSaysCard

/-- THE TIED CARD OF 'chafflaw.PlaceWheres'. -/
def placeWheresCard : Claim7 := { stood := { row := placeWheresRow, standIns := [], harness := (true, "3583bbeb2386bf1f00544cbe08facc119fe8635c543cd5841271669cb09a7974"), looks := true }, kinds := [], alts := [], laidByText := true, laidKinds := [.data, .pinned], laidTests := true, laidLooks := .later }
def PlaceWheresCardSaid : Prop := Claim7.holds Tryd.pinned (.plain (OpenSpec.ofChange placeWheresSpec)) placeWheresCard

/-- THE TIED CARD OF 'chafflaw.PlaceBacks'. -/
def placeBacksCard : Claim7 := { stood := { row := placeBacksRow, standIns := [], harness := (true, "3583bbeb2386bf1f00544cbe08facc119fe8635c543cd5841271669cb09a7974"), looks := true }, kinds := [], alts := [], laidByText := true, laidKinds := [.data, .pinned], laidTests := true, laidLooks := .later }
def PlaceBacksCardSaid : Prop := Claim7.holds Tryd.pinned (.plain (OpenSpec.ofChange placeBacksSpec)) placeBacksCard

/-- THE TIED CARD OF 'chafflaw.QuoteClasses'. -/
def quoteClassesCard : Claim7 := { stood := { row := quoteClassesRow, standIns := [], harness := (true, "3583bbeb2386bf1f00544cbe08facc119fe8635c543cd5841271669cb09a7974"), looks := true }, kinds := [], alts := [], laidByText := true, laidKinds := [.data], laidTests := true, laidLooks := .later }
def QuoteClassesCardSaid : Prop := Claim7.holds Tryd.pinned (.plain (OpenSpec.ofChange quoteClassesSpec)) quoteClassesCard

/-- THE TIED CARD OF 'chafflaw.TreeTexts'. -/
def treeTextsCard : Claim7 := { stood := { row := treeTextsRow, standIns := [], harness := (true, "3583bbeb2386bf1f00544cbe08facc119fe8635c543cd5841271669cb09a7974"), looks := true }, kinds := [], alts := [], laidByText := true, laidKinds := [.data, .data, .data], laidTests := true, laidLooks := .later }
def TreeTextsCardSaid : Prop := Claim7.holds Tryd.pinned (.plain (OpenSpec.ofChange treeTextsSpec)) treeTextsCard

/-- THE TIED CARD OF 'chafflaw.ShowPrints'. -/
def showPrintsCard : Claim7 := { stood := { row := showPrintsRow, standIns := [], harness := (true, "3583bbeb2386bf1f00544cbe08facc119fe8635c543cd5841271669cb09a7974"), looks := true }, kinds := [], alts := [], laidByText := true, laidKinds := [.data], laidTests := true, laidLooks := .later }
def ShowPrintsCardSaid : Prop := Claim7.holds Tryd.pinned (.plain (OpenSpec.ofChange showPrintsSpec)) showPrintsCard

/-- THE TIED CARD OF 'chafflaw.BookPrints'. -/
def bookPrintsCard : Claim7 := { stood := { row := bookPrintsRow, standIns := [], harness := (true, "3583bbeb2386bf1f00544cbe08facc119fe8635c543cd5841271669cb09a7974"), looks := true }, kinds := [], alts := [], laidByText := true, laidKinds := [.data, .data, .data], laidTests := true, laidLooks := .later }
def BookPrintsCardSaid : Prop := Claim7.holds Tryd.pinned (.plain (OpenSpec.ofChange bookPrintsSpec)) bookPrintsCard

/-- THE TIED CARD OF 'chafflaw.GramPrints'. -/
def gramPrintsCard : Claim7 := { stood := { row := gramPrintsRow, standIns := [], harness := (true, "3583bbeb2386bf1f00544cbe08facc119fe8635c543cd5841271669cb09a7974"), looks := true }, kinds := [], alts := [], laidByText := true, laidKinds := [.data], laidTests := true, laidLooks := .later }
def GramPrintsCardSaid : Prop := Claim7.holds Tryd.pinned (.plain (OpenSpec.ofChange gramPrintsSpec)) gramPrintsCard

/-- THE TIED CARD OF 'chafflaw.QuoteDecs'. -/
def quoteDecsCard : Claim7 := { stood := { row := quoteDecsRow, standIns := [], harness := (true, "3583bbeb2386bf1f00544cbe08facc119fe8635c543cd5841271669cb09a7974"), looks := true }, kinds := [], alts := [], laidByText := true, laidKinds := [.data, .data, .data, .sentinel, .sentinel], laidTests := true, laidLooks := .later }
def QuoteDecsCardSaid : Prop := Claim7.holds Tryd.pinned (.plain (OpenSpec.ofChange quoteDecsSpec)) quoteDecsCard

/-- THE TIED CARD OF 'chafflaw.BookReads'. -/
def bookReadsCard : Claim7 := { stood := { row := bookReadsRow, standIns := [], harness := (true, "3583bbeb2386bf1f00544cbe08facc119fe8635c543cd5841271669cb09a7974"), looks := true }, kinds := [], alts := [], laidByText := true, laidKinds := [.data, .data, .data, .data, .sentinel, .sentinel, .pinned], laidTests := true, laidLooks := .later }
def BookReadsCardSaid : Prop := Claim7.holds Tryd.pinned (.plain (OpenSpec.ofChange bookReadsSpec)) bookReadsCard

/-- THE SECOND FORM's CARD OF 'chafflaw.SetSays'. -/
def setSaysUptoCard : Claim7 := { stood := { row := setSaysUptoRow, standIns := [], harness := (true, "3583bbeb2386bf1f00544cbe08facc119fe8635c543cd5841271669cb09a7974"), looks := true }, kinds := [], alts := [], laidByText := true, laidKinds := [.data], laidTests := true, laidLooks := .later }
def SetSaysUptoCardSaid : Prop := Claim7.holds Tryd.pinned (.plain (OpenSpec.upto setSaysSpec)) setSaysUptoCard

/-- THE SECOND FORM's CARD OF 'chafflaw.PlaceWheres'. -/
def placeWheresUptoCard : Claim7 := { stood := { row := placeWheresUptoRow, standIns := [], harness := (true, "3583bbeb2386bf1f00544cbe08facc119fe8635c543cd5841271669cb09a7974"), looks := true }, kinds := [], alts := [], laidByText := true, laidKinds := [.data, .pinned], laidTests := true, laidLooks := .later }
def PlaceWheresUptoCardSaid : Prop := Claim7.holds Tryd.pinned (.plain (OpenSpec.upto placeWheresSpec)) placeWheresUptoCard

/-- THE SECOND FORM's CARD OF 'chafflaw.PlaceBacks'. -/
def placeBacksUptoCard : Claim7 := { stood := { row := placeBacksUptoRow, standIns := [], harness := (true, "3583bbeb2386bf1f00544cbe08facc119fe8635c543cd5841271669cb09a7974"), looks := true }, kinds := [], alts := [], laidByText := true, laidKinds := [.data, .pinned], laidTests := true, laidLooks := .later }
def PlaceBacksUptoCardSaid : Prop := Claim7.holds Tryd.pinned (.plain (OpenSpec.upto placeBacksSpec)) placeBacksUptoCard

/-- THE SECOND FORM's CARD OF 'chafflaw.QuoteClasses'. -/
def quoteClassesUptoCard : Claim7 := { stood := { row := quoteClassesUptoRow, standIns := [], harness := (true, "3583bbeb2386bf1f00544cbe08facc119fe8635c543cd5841271669cb09a7974"), looks := true }, kinds := [], alts := [], laidByText := true, laidKinds := [.data], laidTests := true, laidLooks := .later }
def QuoteClassesUptoCardSaid : Prop := Claim7.holds Tryd.pinned (.plain (OpenSpec.upto quoteClassesSpec)) quoteClassesUptoCard

/-- THE SECOND FORM's CARD OF 'chafflaw.TreeTexts'. -/
def treeTextsUptoCard : Claim7 := { stood := { row := treeTextsUptoRow, standIns := [], harness := (true, "3583bbeb2386bf1f00544cbe08facc119fe8635c543cd5841271669cb09a7974"), looks := true }, kinds := [], alts := [], laidByText := true, laidKinds := [.data, .data, .data], laidTests := true, laidLooks := .later }
def TreeTextsUptoCardSaid : Prop := Claim7.holds Tryd.pinned (.plain (OpenSpec.upto treeTextsSpec)) treeTextsUptoCard

/-- THE SECOND FORM's CARD OF 'chafflaw.ShowPrints'. -/
def showPrintsUptoCard : Claim7 := { stood := { row := showPrintsUptoRow, standIns := [], harness := (true, "3583bbeb2386bf1f00544cbe08facc119fe8635c543cd5841271669cb09a7974"), looks := true }, kinds := [], alts := [], laidByText := true, laidKinds := [.data], laidTests := true, laidLooks := .later }
def ShowPrintsUptoCardSaid : Prop := Claim7.holds Tryd.pinned (.plain (OpenSpec.upto showPrintsSpec)) showPrintsUptoCard

/-- THE SECOND FORM's CARD OF 'chafflaw.BookPrints'. -/
def bookPrintsUptoCard : Claim7 := { stood := { row := bookPrintsUptoRow, standIns := [], harness := (true, "3583bbeb2386bf1f00544cbe08facc119fe8635c543cd5841271669cb09a7974"), looks := true }, kinds := [], alts := [], laidByText := true, laidKinds := [.data, .data, .data], laidTests := true, laidLooks := .later }
def BookPrintsUptoCardSaid : Prop := Claim7.holds Tryd.pinned (.plain (OpenSpec.upto bookPrintsSpec)) bookPrintsUptoCard

/-- THE SECOND FORM's CARD OF 'chafflaw.GramPrints'. -/
def gramPrintsUptoCard : Claim7 := { stood := { row := gramPrintsUptoRow, standIns := [], harness := (true, "3583bbeb2386bf1f00544cbe08facc119fe8635c543cd5841271669cb09a7974"), looks := true }, kinds := [], alts := [], laidByText := true, laidKinds := [.data], laidTests := true, laidLooks := .later }
def GramPrintsUptoCardSaid : Prop := Claim7.holds Tryd.pinned (.plain (OpenSpec.upto gramPrintsSpec)) gramPrintsUptoCard

/-- THE SECOND FORM's CARD OF 'chafflaw.QuoteDecs'. -/
def quoteDecsUptoCard : Claim7 := { stood := { row := quoteDecsUptoRow, standIns := [], harness := (true, "3583bbeb2386bf1f00544cbe08facc119fe8635c543cd5841271669cb09a7974"), looks := true }, kinds := [], alts := [], laidByText := true, laidKinds := [.data, .data, .data, .sentinel, .sentinel], laidTests := true, laidLooks := .later }
def QuoteDecsUptoCardSaid : Prop := Claim7.holds Tryd.pinned (.plain (OpenSpec.upto quoteDecsSpec)) quoteDecsUptoCard

/-- THE SECOND FORM's CARD OF 'chafflaw.BookReads'. -/
def bookReadsUptoCard : Claim7 := { stood := { row := bookReadsUptoRow, standIns := [], harness := (true, "3583bbeb2386bf1f00544cbe08facc119fe8635c543cd5841271669cb09a7974"), looks := true }, kinds := [], alts := [], laidByText := true, laidKinds := [.data, .data, .data, .data, .sentinel, .sentinel, .pinned], laidTests := true, laidLooks := .later }
def BookReadsUptoCardSaid : Prop := Claim7.holds Tryd.pinned (.plain (OpenSpec.upto bookReadsSpec)) bookReadsUptoCard
end Rows
end Go.Proofs.YtjecddabdlapbaaDoor
