/-
  DERIVED. GIVEN WITH THE SEED: THE CARDS: each row of YtlkcibhdnicpkaaDoorRows.lean that lists a variable, with what it lists TIED to the program's text (the seventh form; the later family's looks); each row that meets fmt, with fmt's text TOLD by the authors' own Lean function (tested against real Go, not proved from fmt's source: count such statements apart). THE CARD IS WHAT COUNTS. Prove the row's statement (the work); the ties are given (YtlkcibhdnicpkaaDoorTie.lean); close each card by the builder's one call (the guide's Derived/Test/ToyasCard.lean, 'card_holds'). Laid BY PROGRAM, IN A SANDBOX (cutbox-door.mjs). By AI agents, Wed Nov 11 2026. No macro, syntax, notation, axiom, sorry.
-/
import Derived.Test.YtlkcibhdnicpkaaDoorRows
import GoSem.ClaimSeven
namespace Go.Proofs.YtlkcibhdnicpkaaDoor
namespace Rows

/-- THE TIED CARD OF 'sumpterlaw04.ShaOfs'. -/
def shaOfsCard : Claim7 := { stood := { row := shaOfsRow, standIns := [], harness := (true, "d8b3df3d1054e4ae3f7094db9e147a043b734e554759f3fdbb2702a1f624789d"), looks := false }, kinds := [], alts := [], laidByText := true, laidKinds := [.data], laidTests := true, laidLooks := .later }
def ShaOfsCardSaid : Prop := Claim7.holds Tryd.pinned (.plain (OpenSpec.ofChange shaOfsSpec)) shaOfsCard

/-- THE TIED CARD OF 'sumpterlaw04.ShaWrites'. -/
def shaWritesCard : Claim7 := { stood := { row := shaWritesRow, standIns := [], harness := (true, "d8b3df3d1054e4ae3f7094db9e147a043b734e554759f3fdbb2702a1f624789d"), looks := false }, kinds := [], alts := [], laidByText := true, laidKinds := [.data], laidTests := true, laidLooks := .later }
def ShaWritesCardSaid : Prop := Claim7.holds Tryd.pinned (.plain (OpenSpec.ofChange shaWritesSpec)) shaWritesCard

/-- THE TIED CARD OF 'sumpterlaw04.ShaForks'. -/
def shaForksCard : Claim7 := { stood := { row := shaForksRow, standIns := [], harness := (true, "d8b3df3d1054e4ae3f7094db9e147a043b734e554759f3fdbb2702a1f624789d"), looks := false }, kinds := [], alts := [], laidByText := true, laidKinds := [.data], laidTests := true, laidLooks := .later }
def ShaForksCardSaid : Prop := Claim7.holds Tryd.pinned (.plain (OpenSpec.ofChange shaForksSpec)) shaForksCard

/-- THE TIED CARD OF 'sumpterlaw04.ShaHexes'. -/
def shaHexesCard : Claim7 := { stood := { row := shaHexesRow, standIns := [], harness := (true, "d8b3df3d1054e4ae3f7094db9e147a043b734e554759f3fdbb2702a1f624789d"), looks := false }, kinds := [], alts := [], laidByText := true, laidKinds := [.data], laidTests := true, laidLooks := .later }
def ShaHexesCardSaid : Prop := Claim7.holds Tryd.pinned (.plain (OpenSpec.ofChange shaHexesSpec)) shaHexesCard

/-- THE TIED CARD OF 'sumpterlaw04.ShaBack'. -/
def shaBackCard : Claim7 := { stood := { row := shaBackRow, standIns := [], harness := (true, "d8b3df3d1054e4ae3f7094db9e147a043b734e554759f3fdbb2702a1f624789d"), looks := false }, kinds := [], alts := [], laidByText := true, laidKinds := [.data], laidTests := true, laidLooks := .later }
def ShaBackCardSaid : Prop := Claim7.holds Tryd.pinned (.plain (OpenSpec.ofChange shaBackSpec)) shaBackCard

/-- THE TIED CARD OF 'sumpterlaw05.MacOfs'. -/
def macOfsCard : Claim7 := { stood := { row := macOfsRow, standIns := [], harness := (true, "d8b3df3d1054e4ae3f7094db9e147a043b734e554759f3fdbb2702a1f624789d"), looks := false }, kinds := [], alts := [], laidByText := true, laidKinds := [.data], laidTests := true, laidLooks := .later }
def MacOfsCardSaid : Prop := Claim7.holds Tryd.pinned (.plain (OpenSpec.ofChange macOfsSpec)) macOfsCard

/-- THE TIED CARD OF 'sumpterlaw05.MacOpens'. -/
def macOpensCard : Claim7 := { stood := { row := macOpensRow, standIns := [], harness := (true, "d8b3df3d1054e4ae3f7094db9e147a043b734e554759f3fdbb2702a1f624789d"), looks := false }, kinds := [], alts := [], laidByText := true, laidKinds := [.data], laidTests := true, laidLooks := .later }
def MacOpensCardSaid : Prop := Claim7.holds Tryd.pinned (.plain (OpenSpec.ofChange macOpensSpec)) macOpensCard

/-- THE TIED CARD OF 'sumpterlaw05.MacBack'. -/
def macBackCard : Claim7 := { stood := { row := macBackRow, standIns := [], harness := (true, "d8b3df3d1054e4ae3f7094db9e147a043b734e554759f3fdbb2702a1f624789d"), looks := false }, kinds := [], alts := [], laidByText := true, laidKinds := [.data], laidTests := true, laidLooks := .later }
def MacBackCardSaid : Prop := Claim7.holds Tryd.pinned (.plain (OpenSpec.ofChange macBackSpec)) macBackCard

/-- THE TIED CARD OF 'sumpterlaw05.MacKeys'. -/
def macKeysCard : Claim7 := { stood := { row := macKeysRow, standIns := [], harness := (true, "d8b3df3d1054e4ae3f7094db9e147a043b734e554759f3fdbb2702a1f624789d"), looks := false }, kinds := [], alts := [], laidByText := true, laidKinds := [.data], laidTests := true, laidLooks := .later }
def MacKeysCardSaid : Prop := Claim7.holds Tryd.pinned (.plain (OpenSpec.ofChange macKeysSpec)) macKeysCard

/-- THE TIED CARD OF 'sumpterlaw05.MacLabels'. -/
def macLabelsCard : Claim7 := { stood := { row := macLabelsRow, standIns := [], harness := (true, "d8b3df3d1054e4ae3f7094db9e147a043b734e554759f3fdbb2702a1f624789d"), looks := false }, kinds := [], alts := [], laidByText := true, laidKinds := [.data], laidTests := true, laidLooks := .later }
def MacLabelsCardSaid : Prop := Claim7.holds Tryd.pinned (.plain (OpenSpec.ofChange macLabelsSpec)) macLabelsCard

/-- THE SECOND FORM's CARD OF 'sumpterlaw04.ShaOfs'. -/
def shaOfsUptoCard : Claim7 := { stood := { row := shaOfsUptoRow, standIns := [], harness := (true, "d8b3df3d1054e4ae3f7094db9e147a043b734e554759f3fdbb2702a1f624789d"), looks := false }, kinds := [], alts := [], laidByText := true, laidKinds := [.data], laidTests := true, laidLooks := .later }
def ShaOfsUptoCardSaid : Prop := Claim7.holds Tryd.pinned (.plain (OpenSpec.upto shaOfsSpec)) shaOfsUptoCard

/-- THE SECOND FORM's CARD OF 'sumpterlaw04.ShaWrites'. -/
def shaWritesUptoCard : Claim7 := { stood := { row := shaWritesUptoRow, standIns := [], harness := (true, "d8b3df3d1054e4ae3f7094db9e147a043b734e554759f3fdbb2702a1f624789d"), looks := false }, kinds := [], alts := [], laidByText := true, laidKinds := [.data], laidTests := true, laidLooks := .later }
def ShaWritesUptoCardSaid : Prop := Claim7.holds Tryd.pinned (.plain (OpenSpec.upto shaWritesSpec)) shaWritesUptoCard

/-- THE SECOND FORM's CARD OF 'sumpterlaw04.ShaForks'. -/
def shaForksUptoCard : Claim7 := { stood := { row := shaForksUptoRow, standIns := [], harness := (true, "d8b3df3d1054e4ae3f7094db9e147a043b734e554759f3fdbb2702a1f624789d"), looks := false }, kinds := [], alts := [], laidByText := true, laidKinds := [.data], laidTests := true, laidLooks := .later }
def ShaForksUptoCardSaid : Prop := Claim7.holds Tryd.pinned (.plain (OpenSpec.upto shaForksSpec)) shaForksUptoCard

/-- THE SECOND FORM's CARD OF 'sumpterlaw04.ShaHexes'. -/
def shaHexesUptoCard : Claim7 := { stood := { row := shaHexesUptoRow, standIns := [], harness := (true, "d8b3df3d1054e4ae3f7094db9e147a043b734e554759f3fdbb2702a1f624789d"), looks := false }, kinds := [], alts := [], laidByText := true, laidKinds := [.data], laidTests := true, laidLooks := .later }
def ShaHexesUptoCardSaid : Prop := Claim7.holds Tryd.pinned (.plain (OpenSpec.upto shaHexesSpec)) shaHexesUptoCard

/-- THE SECOND FORM's CARD OF 'sumpterlaw04.ShaBack'. -/
def shaBackUptoCard : Claim7 := { stood := { row := shaBackUptoRow, standIns := [], harness := (true, "d8b3df3d1054e4ae3f7094db9e147a043b734e554759f3fdbb2702a1f624789d"), looks := false }, kinds := [], alts := [], laidByText := true, laidKinds := [.data], laidTests := true, laidLooks := .later }
def ShaBackUptoCardSaid : Prop := Claim7.holds Tryd.pinned (.plain (OpenSpec.upto shaBackSpec)) shaBackUptoCard

/-- THE SECOND FORM's CARD OF 'sumpterlaw05.MacOfs'. -/
def macOfsUptoCard : Claim7 := { stood := { row := macOfsUptoRow, standIns := [], harness := (true, "d8b3df3d1054e4ae3f7094db9e147a043b734e554759f3fdbb2702a1f624789d"), looks := false }, kinds := [], alts := [], laidByText := true, laidKinds := [.data], laidTests := true, laidLooks := .later }
def MacOfsUptoCardSaid : Prop := Claim7.holds Tryd.pinned (.plain (OpenSpec.upto macOfsSpec)) macOfsUptoCard

/-- THE SECOND FORM's CARD OF 'sumpterlaw05.MacOpens'. -/
def macOpensUptoCard : Claim7 := { stood := { row := macOpensUptoRow, standIns := [], harness := (true, "d8b3df3d1054e4ae3f7094db9e147a043b734e554759f3fdbb2702a1f624789d"), looks := false }, kinds := [], alts := [], laidByText := true, laidKinds := [.data], laidTests := true, laidLooks := .later }
def MacOpensUptoCardSaid : Prop := Claim7.holds Tryd.pinned (.plain (OpenSpec.upto macOpensSpec)) macOpensUptoCard

/-- THE SECOND FORM's CARD OF 'sumpterlaw05.MacBack'. -/
def macBackUptoCard : Claim7 := { stood := { row := macBackUptoRow, standIns := [], harness := (true, "d8b3df3d1054e4ae3f7094db9e147a043b734e554759f3fdbb2702a1f624789d"), looks := false }, kinds := [], alts := [], laidByText := true, laidKinds := [.data], laidTests := true, laidLooks := .later }
def MacBackUptoCardSaid : Prop := Claim7.holds Tryd.pinned (.plain (OpenSpec.upto macBackSpec)) macBackUptoCard

/-- THE SECOND FORM's CARD OF 'sumpterlaw05.MacKeys'. -/
def macKeysUptoCard : Claim7 := { stood := { row := macKeysUptoRow, standIns := [], harness := (true, "d8b3df3d1054e4ae3f7094db9e147a043b734e554759f3fdbb2702a1f624789d"), looks := false }, kinds := [], alts := [], laidByText := true, laidKinds := [.data], laidTests := true, laidLooks := .later }
def MacKeysUptoCardSaid : Prop := Claim7.holds Tryd.pinned (.plain (OpenSpec.upto macKeysSpec)) macKeysUptoCard

/-- THE SECOND FORM's CARD OF 'sumpterlaw05.MacLabels'. -/
def macLabelsUptoCard : Claim7 := { stood := { row := macLabelsUptoRow, standIns := [], harness := (true, "d8b3df3d1054e4ae3f7094db9e147a043b734e554759f3fdbb2702a1f624789d"), looks := false }, kinds := [], alts := [], laidByText := true, laidKinds := [.data], laidTests := true, laidLooks := .later }
def MacLabelsUptoCardSaid : Prop := Claim7.holds Tryd.pinned (.plain (OpenSpec.upto macLabelsSpec)) macLabelsUptoCard
end Rows
end Go.Proofs.YtlkcibhdnicpkaaDoor
