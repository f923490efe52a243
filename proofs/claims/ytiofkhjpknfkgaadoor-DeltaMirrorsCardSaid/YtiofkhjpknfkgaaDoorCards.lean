/-
  DERIVED. GIVEN WITH THE SEED: THE CARDS: each row of YtiofkhjpknfkgaaDoorRows.lean that lists a variable, with what it lists TIED to the program's text (the seventh form; the later family's looks); each row that meets fmt, with fmt's text TOLD by the authors' own Lean function (tested against real Go, not proved from fmt's source: count such statements apart). THE CARD IS WHAT COUNTS. Prove the row's statement (the work); the ties are given (YtiofkhjpknfkgaaDoorTie.lean); close each card by the builder's one call (the guide's Derived/Test/ToyasCard.lean, 'card_holds'). Laid BY PROGRAM, IN A SANDBOX (cutbox-door.mjs). By AI agents, Wed Nov 11 2026. No macro, syntax, notation, axiom, sorry.
-/
import Derived.Test.YtiofkhjpknfkgaaDoorRows
import GoSem.ClaimSeven
namespace Go.Proofs.YtiofkhjpknfkgaaDoor
namespace Rows

/-- THE TIED CARD OF 'sumpterlaw12.MatchSearches'. -/
def matchSearchesCard : Claim7 := { stood := { row := matchSearchesRow, standIns := [], harness := (true, "a33bacc1a0f93f86f356be8993f43af04df6b8d37e495b80cb8180ad61b0206a"), looks := true }, kinds := [], alts := [], laidByText := true, laidKinds := [.data], laidTests := true, laidLooks := .later }
def MatchSearchesCardSaid : Prop := Claim7.holds Tryd.pinned (.plain (OpenSpec.ofChange matchSearchesSpec)) matchSearchesCard

/-- THE TIED CARD OF 'sumpterlaw12.MatchSums'. -/
def matchSumsCard : Claim7 := { stood := { row := matchSumsRow, standIns := [], harness := (true, "a33bacc1a0f93f86f356be8993f43af04df6b8d37e495b80cb8180ad61b0206a"), looks := true }, kinds := [], alts := [], laidByText := true, laidKinds := [.data], laidTests := true, laidLooks := .later }
def MatchSumsCardSaid : Prop := Claim7.holds Tryd.pinned (.plain (OpenSpec.ofChange matchSumsSpec)) matchSumsCard

/-- THE TIED CARD OF 'sumpterlaw12.MatchTells'. -/
def matchTellsCard : Claim7 := { stood := { row := matchTellsRow, standIns := [], harness := (true, "a33bacc1a0f93f86f356be8993f43af04df6b8d37e495b80cb8180ad61b0206a"), looks := true }, kinds := [], alts := [], laidByText := true, laidKinds := [.data], laidTests := true, laidLooks := .later }
def MatchTellsCardSaid : Prop := Claim7.holds Tryd.pinned (.plain (OpenSpec.ofChange matchTellsSpec)) matchTellsCard

/-- THE TIED CARD OF 'sumpterlaw12.MatchSelf'. -/
def matchSelfCard : Claim7 := { stood := { row := matchSelfRow, standIns := [], harness := (true, "a33bacc1a0f93f86f356be8993f43af04df6b8d37e495b80cb8180ad61b0206a"), looks := true }, kinds := [], alts := [], laidByText := true, laidKinds := [.data], laidTests := true, laidLooks := .later }
def MatchSelfCardSaid : Prop := Claim7.holds Tryd.pinned (.plain (OpenSpec.ofChange matchSelfSpec)) matchSelfCard

/-- THE TIED CARD OF 'sumpterlaw12.MatchMoved'. -/
def matchMovedCard : Claim7 := { stood := { row := matchMovedRow, standIns := [], harness := (true, "a33bacc1a0f93f86f356be8993f43af04df6b8d37e495b80cb8180ad61b0206a"), looks := true }, kinds := [], alts := [], laidByText := true, laidKinds := [.data], laidTests := true, laidLooks := .later }
def MatchMovedCardSaid : Prop := Claim7.holds Tryd.pinned (.plain (OpenSpec.ofChange matchMovedSpec)) matchMovedCard

/-- THE TIED CARD OF 'sumpterlaw13.DeltaMirrors'. -/
def deltaMirrorsCard : Claim7 := { stood := { row := deltaMirrorsRow, standIns := [], harness := (true, "a33bacc1a0f93f86f356be8993f43af04df6b8d37e495b80cb8180ad61b0206a"), looks := true }, kinds := [], alts := [], laidByText := true, laidKinds := [.data], laidTests := true, laidLooks := .later }
def DeltaMirrorsCardSaid : Prop := Claim7.holds Tryd.pinned (.plain (OpenSpec.ofChange deltaMirrorsSpec)) deltaMirrorsCard

/-- THE SECOND FORM's CARD OF 'sumpterlaw12.MatchSearches'. -/
def matchSearchesUptoCard : Claim7 := { stood := { row := matchSearchesUptoRow, standIns := [], harness := (true, "a33bacc1a0f93f86f356be8993f43af04df6b8d37e495b80cb8180ad61b0206a"), looks := true }, kinds := [], alts := [], laidByText := true, laidKinds := [.data], laidTests := true, laidLooks := .later }
def MatchSearchesUptoCardSaid : Prop := Claim7.holds Tryd.pinned (.plain (OpenSpec.upto matchSearchesSpec)) matchSearchesUptoCard

/-- THE SECOND FORM's CARD OF 'sumpterlaw12.MatchSums'. -/
def matchSumsUptoCard : Claim7 := { stood := { row := matchSumsUptoRow, standIns := [], harness := (true, "a33bacc1a0f93f86f356be8993f43af04df6b8d37e495b80cb8180ad61b0206a"), looks := true }, kinds := [], alts := [], laidByText := true, laidKinds := [.data], laidTests := true, laidLooks := .later }
def MatchSumsUptoCardSaid : Prop := Claim7.holds Tryd.pinned (.plain (OpenSpec.upto matchSumsSpec)) matchSumsUptoCard

/-- THE SECOND FORM's CARD OF 'sumpterlaw12.MatchTells'. -/
def matchTellsUptoCard : Claim7 := { stood := { row := matchTellsUptoRow, standIns := [], harness := (true, "a33bacc1a0f93f86f356be8993f43af04df6b8d37e495b80cb8180ad61b0206a"), looks := true }, kinds := [], alts := [], laidByText := true, laidKinds := [.data], laidTests := true, laidLooks := .later }
def MatchTellsUptoCardSaid : Prop := Claim7.holds Tryd.pinned (.plain (OpenSpec.upto matchTellsSpec)) matchTellsUptoCard

/-- THE SECOND FORM's CARD OF 'sumpterlaw12.MatchSelf'. -/
def matchSelfUptoCard : Claim7 := { stood := { row := matchSelfUptoRow, standIns := [], harness := (true, "a33bacc1a0f93f86f356be8993f43af04df6b8d37e495b80cb8180ad61b0206a"), looks := true }, kinds := [], alts := [], laidByText := true, laidKinds := [.data], laidTests := true, laidLooks := .later }
def MatchSelfUptoCardSaid : Prop := Claim7.holds Tryd.pinned (.plain (OpenSpec.upto matchSelfSpec)) matchSelfUptoCard

/-- THE SECOND FORM's CARD OF 'sumpterlaw12.MatchMoved'. -/
def matchMovedUptoCard : Claim7 := { stood := { row := matchMovedUptoRow, standIns := [], harness := (true, "a33bacc1a0f93f86f356be8993f43af04df6b8d37e495b80cb8180ad61b0206a"), looks := true }, kinds := [], alts := [], laidByText := true, laidKinds := [.data], laidTests := true, laidLooks := .later }
def MatchMovedUptoCardSaid : Prop := Claim7.holds Tryd.pinned (.plain (OpenSpec.upto matchMovedSpec)) matchMovedUptoCard

/-- THE SECOND FORM's CARD OF 'sumpterlaw13.DeltaMirrors'. -/
def deltaMirrorsUptoCard : Claim7 := { stood := { row := deltaMirrorsUptoRow, standIns := [], harness := (true, "a33bacc1a0f93f86f356be8993f43af04df6b8d37e495b80cb8180ad61b0206a"), looks := true }, kinds := [], alts := [], laidByText := true, laidKinds := [.data], laidTests := true, laidLooks := .later }
def DeltaMirrorsUptoCardSaid : Prop := Claim7.holds Tryd.pinned (.plain (OpenSpec.upto deltaMirrorsSpec)) deltaMirrorsUptoCard
end Rows
end Go.Proofs.YtiofkhjpknfkgaaDoor
