/-
  DERIVED. GIVEN WITH THE SEED: THE CARDS: each row of YtcbkhbnemhkheaaDoorRows.lean that lists a variable, with what it lists TIED to the program's text (the seventh form; the later family's looks); each row that meets fmt, with fmt's text TOLD by the authors' own Lean function (tested against real Go, not proved from fmt's source: count such statements apart). THE CARD IS WHAT COUNTS. Prove the row's statement (the work); the ties are given (YtcbkhbnemhkheaaDoorTie.lean); close each card by the builder's one call (the guide's Derived/Test/ToyasCard.lean, 'card_holds'). Laid BY PROGRAM, IN A SANDBOX (cutbox-door.mjs). By AI agents, Wed Nov 11 2026. No macro, syntax, notation, axiom, sorry.
-/
import Derived.Test.YtcbkhbnemhkheaaDoorRows
import GoSem.ClaimSeven
namespace Go.Proofs.YtcbkhbnemhkheaaDoor
namespace Rows

/-- THE TIED CARD OF 'sumpterlaw11.BlockSigns'. -/
def blockSignsCard : Claim7 := { stood := { row := blockSignsRow, standIns := [], harness := (true, "ba14eb7ef864fec66682a39e8a7fb0004e1e28747e156da71941bc7973f4f795"), looks := false }, kinds := [], alts := [], laidByText := true, laidKinds := [.data], laidTests := true, laidLooks := .later }
def BlockSignsCardSaid : Prop := Claim7.holds Tryd.pinned (.plain (OpenSpec.ofChange blockSignsSpec)) blockSignsCard

/-- THE TIED CARD OF 'sumpterlaw11.BlockSizes'. -/
def blockSizesCard : Claim7 := { stood := { row := blockSizesRow, standIns := [], harness := (true, "ba14eb7ef864fec66682a39e8a7fb0004e1e28747e156da71941bc7973f4f795"), looks := false }, kinds := [], alts := [], laidByText := true, laidKinds := [.data], laidTests := true, laidLooks := .later }
def BlockSizesCardSaid : Prop := Claim7.holds Tryd.pinned (.plain (OpenSpec.ofChange blockSizesSpec)) blockSizesCard

/-- THE TIED CARD OF 'sumpterlaw11.BlockFinds'. -/
def blockFindsCard : Claim7 := { stood := { row := blockFindsRow, standIns := [], harness := (true, "ba14eb7ef864fec66682a39e8a7fb0004e1e28747e156da71941bc7973f4f795"), looks := false }, kinds := [], alts := [], laidByText := true, laidKinds := [.data], laidTests := true, laidLooks := .later }
def BlockFindsCardSaid : Prop := Claim7.holds Tryd.pinned (.plain (OpenSpec.ofChange blockFindsSpec)) blockFindsCard

/-- THE TIED CARD OF 'sumpterlaw11.BlockWhole'. -/
def blockWholeCard : Claim7 := { stood := { row := blockWholeRow, standIns := [], harness := (true, "ba14eb7ef864fec66682a39e8a7fb0004e1e28747e156da71941bc7973f4f795"), looks := false }, kinds := [], alts := [], laidByText := true, laidKinds := [.data], laidTests := true, laidLooks := .later }
def BlockWholeCardSaid : Prop := Claim7.holds Tryd.pinned (.plain (OpenSpec.ofChange blockWholeSpec)) blockWholeCard

/-- THE TIED CARD OF 'sumpterlaw11.BlockPuts'. -/
def blockPutsCard : Claim7 := { stood := { row := blockPutsRow, standIns := [], harness := (true, "ba14eb7ef864fec66682a39e8a7fb0004e1e28747e156da71941bc7973f4f795"), looks := false }, kinds := [], alts := [], laidByText := true, laidKinds := [.data], laidTests := true, laidLooks := .later }
def BlockPutsCardSaid : Prop := Claim7.holds Tryd.pinned (.plain (OpenSpec.ofChange blockPutsSpec)) blockPutsCard

/-- THE TIED CARD OF 'sumpterlaw11.BlockBack'. -/
def blockBackCard : Claim7 := { stood := { row := blockBackRow, standIns := [], harness := (true, "ba14eb7ef864fec66682a39e8a7fb0004e1e28747e156da71941bc7973f4f795"), looks := false }, kinds := [], alts := [], laidByText := true, laidKinds := [.data], laidTests := true, laidLooks := .later }
def BlockBackCardSaid : Prop := Claim7.holds Tryd.pinned (.plain (OpenSpec.ofChange blockBackSpec)) blockBackCard

/-- THE SECOND FORM's CARD OF 'sumpterlaw11.BlockSigns'. -/
def blockSignsUptoCard : Claim7 := { stood := { row := blockSignsUptoRow, standIns := [], harness := (true, "ba14eb7ef864fec66682a39e8a7fb0004e1e28747e156da71941bc7973f4f795"), looks := false }, kinds := [], alts := [], laidByText := true, laidKinds := [.data], laidTests := true, laidLooks := .later }
def BlockSignsUptoCardSaid : Prop := Claim7.holds Tryd.pinned (.plain (OpenSpec.upto blockSignsSpec)) blockSignsUptoCard

/-- THE SECOND FORM's CARD OF 'sumpterlaw11.BlockSizes'. -/
def blockSizesUptoCard : Claim7 := { stood := { row := blockSizesUptoRow, standIns := [], harness := (true, "ba14eb7ef864fec66682a39e8a7fb0004e1e28747e156da71941bc7973f4f795"), looks := false }, kinds := [], alts := [], laidByText := true, laidKinds := [.data], laidTests := true, laidLooks := .later }
def BlockSizesUptoCardSaid : Prop := Claim7.holds Tryd.pinned (.plain (OpenSpec.upto blockSizesSpec)) blockSizesUptoCard

/-- THE SECOND FORM's CARD OF 'sumpterlaw11.BlockFinds'. -/
def blockFindsUptoCard : Claim7 := { stood := { row := blockFindsUptoRow, standIns := [], harness := (true, "ba14eb7ef864fec66682a39e8a7fb0004e1e28747e156da71941bc7973f4f795"), looks := false }, kinds := [], alts := [], laidByText := true, laidKinds := [.data], laidTests := true, laidLooks := .later }
def BlockFindsUptoCardSaid : Prop := Claim7.holds Tryd.pinned (.plain (OpenSpec.upto blockFindsSpec)) blockFindsUptoCard

/-- THE SECOND FORM's CARD OF 'sumpterlaw11.BlockWhole'. -/
def blockWholeUptoCard : Claim7 := { stood := { row := blockWholeUptoRow, standIns := [], harness := (true, "ba14eb7ef864fec66682a39e8a7fb0004e1e28747e156da71941bc7973f4f795"), looks := false }, kinds := [], alts := [], laidByText := true, laidKinds := [.data], laidTests := true, laidLooks := .later }
def BlockWholeUptoCardSaid : Prop := Claim7.holds Tryd.pinned (.plain (OpenSpec.upto blockWholeSpec)) blockWholeUptoCard

/-- THE SECOND FORM's CARD OF 'sumpterlaw11.BlockPuts'. -/
def blockPutsUptoCard : Claim7 := { stood := { row := blockPutsUptoRow, standIns := [], harness := (true, "ba14eb7ef864fec66682a39e8a7fb0004e1e28747e156da71941bc7973f4f795"), looks := false }, kinds := [], alts := [], laidByText := true, laidKinds := [.data], laidTests := true, laidLooks := .later }
def BlockPutsUptoCardSaid : Prop := Claim7.holds Tryd.pinned (.plain (OpenSpec.upto blockPutsSpec)) blockPutsUptoCard

/-- THE SECOND FORM's CARD OF 'sumpterlaw11.BlockBack'. -/
def blockBackUptoCard : Claim7 := { stood := { row := blockBackUptoRow, standIns := [], harness := (true, "ba14eb7ef864fec66682a39e8a7fb0004e1e28747e156da71941bc7973f4f795"), looks := false }, kinds := [], alts := [], laidByText := true, laidKinds := [.data], laidTests := true, laidLooks := .later }
def BlockBackUptoCardSaid : Prop := Claim7.holds Tryd.pinned (.plain (OpenSpec.upto blockBackSpec)) blockBackUptoCard
end Rows
end Go.Proofs.YtcbkhbnemhkheaaDoor
