/-
  DERIVED. GIVEN WITH THE SEED: THE CARDS: each row of YtjgejncgeklanaaDoorRows.lean that lists a variable, with what it lists TIED to the program's text (the seventh form; the later family's looks); each row that meets fmt, with fmt's text TOLD by the authors' own Lean function (tested against real Go, not proved from fmt's source: count such statements apart). THE CARD IS WHAT COUNTS. Prove the row's statement (the work); the ties are given (YtjgejncgeklanaaDoorTie.lean); close each card by the builder's one call (the guide's Derived/Test/ToyasCard.lean, 'card_holds'). Laid BY PROGRAM, IN A SANDBOX (cutbox-door.mjs). By AI agents, Wed Nov 11 2026. No macro, syntax, notation, axiom, sorry.
-/
import Derived.Test.YtjgejncgeklanaaDoorRows
import GoSem.ClaimSeven
namespace Go.Proofs.YtjgejncgeklanaaDoor
namespace Rows

/-- THE TIED CARD OF 'bytebarnlaw11.NumNames'. -/
def numNamesCard : Claim7 := { stood := { row := numNamesRow, standIns := [], harness := (true, "86bfdb46c847ecaa837ff6f39b6e61293b3660dc7d466047ce838ecaa63e0de2"), looks := false }, kinds := [], alts := [], laidByText := true, laidKinds := [.data], laidTests := true, laidLooks := .later }
def NumNamesCardSaid : Prop := Claim7.holds Tryd.pinned (.plain (OpenSpec.ofChange numNamesSpec)) numNamesCard

/-- THE TIED CARD OF 'bytebarnlaw11.NumTells'. -/
def numTellsCard : Claim7 := { stood := { row := numTellsRow, standIns := [], harness := (true, "86bfdb46c847ecaa837ff6f39b6e61293b3660dc7d466047ce838ecaa63e0de2"), looks := false }, kinds := [], alts := [], laidByText := true, laidKinds := [.data], laidTests := true, laidLooks := .later }
def NumTellsCardSaid : Prop := Claim7.holds Tryd.pinned (.plain (OpenSpec.ofChange numTellsSpec)) numTellsCard

/-- THE TIED CARD OF 'bytebarnlaw11.NumAll'. -/
def numAllCard : Claim7 := { stood := { row := numAllRow, standIns := [], harness := (true, "86bfdb46c847ecaa837ff6f39b6e61293b3660dc7d466047ce838ecaa63e0de2"), looks := false }, kinds := [], alts := [], laidByText := true, laidKinds := [.data], laidTests := true, laidLooks := .later }
def NumAllCardSaid : Prop := Claim7.holds Tryd.pinned (.plain (OpenSpec.ofChange numAllSpec)) numAllCard

/-- THE TIED CARD OF 'bytebarnlaw11.NumFits'. -/
def numFitsCard : Claim7 := { stood := { row := numFitsRow, standIns := [], harness := (true, "86bfdb46c847ecaa837ff6f39b6e61293b3660dc7d466047ce838ecaa63e0de2"), looks := false }, kinds := [], alts := [], laidByText := true, laidKinds := [.data], laidTests := true, laidLooks := .later }
def NumFitsCardSaid : Prop := Claim7.holds Tryd.pinned (.plain (OpenSpec.ofChange numFitsSpec)) numFitsCard

/-- THE TIED CARD OF 'bytebarnlaw11.NumDivides'. -/
def numDividesCard : Claim7 := { stood := { row := numDividesRow, standIns := [], harness := (true, "86bfdb46c847ecaa837ff6f39b6e61293b3660dc7d466047ce838ecaa63e0de2"), looks := false }, kinds := [], alts := [], laidByText := true, laidKinds := [.data], laidTests := true, laidLooks := .later }
def NumDividesCardSaid : Prop := Claim7.holds Tryd.pinned (.plain (OpenSpec.ofChange numDividesSpec)) numDividesCard

/-- THE TIED CARD OF 'bytebarnlaw11.NumTurns'. -/
def numTurnsCard : Claim7 := { stood := { row := numTurnsRow, standIns := [], harness := (true, "86bfdb46c847ecaa837ff6f39b6e61293b3660dc7d466047ce838ecaa63e0de2"), looks := false }, kinds := [], alts := [], laidByText := true, laidKinds := [.data], laidTests := true, laidLooks := .later }
def NumTurnsCardSaid : Prop := Claim7.holds Tryd.pinned (.plain (OpenSpec.ofChange numTurnsSpec)) numTurnsCard

/-- THE TIED CARD OF 'bytebarnlaw11.NumCompares'. -/
def numComparesCard : Claim7 := { stood := { row := numComparesRow, standIns := [], harness := (true, "86bfdb46c847ecaa837ff6f39b6e61293b3660dc7d466047ce838ecaa63e0de2"), looks := false }, kinds := [], alts := [], laidByText := true, laidKinds := [.data], laidTests := true, laidLooks := .later }
def NumComparesCardSaid : Prop := Claim7.holds Tryd.pinned (.plain (OpenSpec.ofChange numComparesSpec)) numComparesCard

/-- THE TIED CARD OF 'bytebarnlaw11.NumCounts'. -/
def numCountsCard : Claim7 := { stood := { row := numCountsRow, standIns := [], harness := (true, "86bfdb46c847ecaa837ff6f39b6e61293b3660dc7d466047ce838ecaa63e0de2"), looks := false }, kinds := [], alts := [], laidByText := true, laidKinds := [.data], laidTests := true, laidLooks := .later }
def NumCountsCardSaid : Prop := Claim7.holds Tryd.pinned (.plain (OpenSpec.ofChange numCountsSpec)) numCountsCard

/-- THE SECOND FORM's CARD OF 'bytebarnlaw11.NumNames'. -/
def numNamesUptoCard : Claim7 := { stood := { row := numNamesUptoRow, standIns := [], harness := (true, "86bfdb46c847ecaa837ff6f39b6e61293b3660dc7d466047ce838ecaa63e0de2"), looks := false }, kinds := [], alts := [], laidByText := true, laidKinds := [.data], laidTests := true, laidLooks := .later }
def NumNamesUptoCardSaid : Prop := Claim7.holds Tryd.pinned (.plain (OpenSpec.upto numNamesSpec)) numNamesUptoCard

/-- THE SECOND FORM's CARD OF 'bytebarnlaw11.NumTells'. -/
def numTellsUptoCard : Claim7 := { stood := { row := numTellsUptoRow, standIns := [], harness := (true, "86bfdb46c847ecaa837ff6f39b6e61293b3660dc7d466047ce838ecaa63e0de2"), looks := false }, kinds := [], alts := [], laidByText := true, laidKinds := [.data], laidTests := true, laidLooks := .later }
def NumTellsUptoCardSaid : Prop := Claim7.holds Tryd.pinned (.plain (OpenSpec.upto numTellsSpec)) numTellsUptoCard

/-- THE SECOND FORM's CARD OF 'bytebarnlaw11.NumAll'. -/
def numAllUptoCard : Claim7 := { stood := { row := numAllUptoRow, standIns := [], harness := (true, "86bfdb46c847ecaa837ff6f39b6e61293b3660dc7d466047ce838ecaa63e0de2"), looks := false }, kinds := [], alts := [], laidByText := true, laidKinds := [.data], laidTests := true, laidLooks := .later }
def NumAllUptoCardSaid : Prop := Claim7.holds Tryd.pinned (.plain (OpenSpec.upto numAllSpec)) numAllUptoCard

/-- THE SECOND FORM's CARD OF 'bytebarnlaw11.NumFits'. -/
def numFitsUptoCard : Claim7 := { stood := { row := numFitsUptoRow, standIns := [], harness := (true, "86bfdb46c847ecaa837ff6f39b6e61293b3660dc7d466047ce838ecaa63e0de2"), looks := false }, kinds := [], alts := [], laidByText := true, laidKinds := [.data], laidTests := true, laidLooks := .later }
def NumFitsUptoCardSaid : Prop := Claim7.holds Tryd.pinned (.plain (OpenSpec.upto numFitsSpec)) numFitsUptoCard

/-- THE SECOND FORM's CARD OF 'bytebarnlaw11.NumDivides'. -/
def numDividesUptoCard : Claim7 := { stood := { row := numDividesUptoRow, standIns := [], harness := (true, "86bfdb46c847ecaa837ff6f39b6e61293b3660dc7d466047ce838ecaa63e0de2"), looks := false }, kinds := [], alts := [], laidByText := true, laidKinds := [.data], laidTests := true, laidLooks := .later }
def NumDividesUptoCardSaid : Prop := Claim7.holds Tryd.pinned (.plain (OpenSpec.upto numDividesSpec)) numDividesUptoCard

/-- THE SECOND FORM's CARD OF 'bytebarnlaw11.NumTurns'. -/
def numTurnsUptoCard : Claim7 := { stood := { row := numTurnsUptoRow, standIns := [], harness := (true, "86bfdb46c847ecaa837ff6f39b6e61293b3660dc7d466047ce838ecaa63e0de2"), looks := false }, kinds := [], alts := [], laidByText := true, laidKinds := [.data], laidTests := true, laidLooks := .later }
def NumTurnsUptoCardSaid : Prop := Claim7.holds Tryd.pinned (.plain (OpenSpec.upto numTurnsSpec)) numTurnsUptoCard

/-- THE SECOND FORM's CARD OF 'bytebarnlaw11.NumCompares'. -/
def numComparesUptoCard : Claim7 := { stood := { row := numComparesUptoRow, standIns := [], harness := (true, "86bfdb46c847ecaa837ff6f39b6e61293b3660dc7d466047ce838ecaa63e0de2"), looks := false }, kinds := [], alts := [], laidByText := true, laidKinds := [.data], laidTests := true, laidLooks := .later }
def NumComparesUptoCardSaid : Prop := Claim7.holds Tryd.pinned (.plain (OpenSpec.upto numComparesSpec)) numComparesUptoCard

/-- THE SECOND FORM's CARD OF 'bytebarnlaw11.NumCounts'. -/
def numCountsUptoCard : Claim7 := { stood := { row := numCountsUptoRow, standIns := [], harness := (true, "86bfdb46c847ecaa837ff6f39b6e61293b3660dc7d466047ce838ecaa63e0de2"), looks := false }, kinds := [], alts := [], laidByText := true, laidKinds := [.data], laidTests := true, laidLooks := .later }
def NumCountsUptoCardSaid : Prop := Claim7.holds Tryd.pinned (.plain (OpenSpec.upto numCountsSpec)) numCountsUptoCard
end Rows
end Go.Proofs.YtjgejncgeklanaaDoor
