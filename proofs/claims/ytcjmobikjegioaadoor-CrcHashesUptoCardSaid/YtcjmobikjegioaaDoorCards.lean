/-
  DERIVED. GIVEN WITH THE SEED: THE CARDS: each row of YtcjmobikjegioaaDoorRows.lean that lists a variable, with what it lists TIED to the program's text (the seventh form; the later family's looks); each row that meets fmt, with fmt's text TOLD by the authors' own Lean function (tested against real Go, not proved from fmt's source: count such statements apart). THE CARD IS WHAT COUNTS. Prove the row's statement (the work); the ties are given (YtcjmobikjegioaaDoorTie.lean); close each card by the builder's one call (the guide's Derived/Test/ToyasCard.lean, 'card_holds'). Laid BY PROGRAM, IN A SANDBOX (cutbox-door.mjs). By AI agents, Wed Nov 11 2026. No macro, syntax, notation, axiom, sorry.
-/
import Derived.Test.YtcjmobikjegioaaDoorRows
import GoSem.ClaimSeven
namespace Go.Proofs.YtcjmobikjegioaaDoor
namespace Rows

/-- THE TIED CARD OF 'keepsakelaw02.CrcSums'. -/
def crcSumsCard : Claim7 := { stood := { row := crcSumsRow, standIns := [], harness := (true, "395fcf87fb702e48027bcd1fafa6cbc8df94f65ae5655f72b6612107ea59fc3a"), looks := false }, kinds := [], alts := [], laidByText := true, laidKinds := [.data], laidTests := true, laidLooks := .later }
def CrcSumsCardSaid : Prop := Claim7.holds Tryd.pinned (.plain (OpenSpec.ofChange crcSumsSpec)) crcSumsCard

/-- THE TIED CARD OF 'keepsakelaw02.CrcCarries'. -/
def crcCarriesCard : Claim7 := { stood := { row := crcCarriesRow, standIns := [], harness := (true, "395fcf87fb702e48027bcd1fafa6cbc8df94f65ae5655f72b6612107ea59fc3a"), looks := false }, kinds := [], alts := [], laidByText := true, laidKinds := [.data], laidTests := true, laidLooks := .later }
def CrcCarriesCardSaid : Prop := Claim7.holds Tryd.pinned (.plain (OpenSpec.ofChange crcCarriesSpec)) crcCarriesCard

/-- THE TIED CARD OF 'keepsakelaw02.CrcSpoilt'. -/
def crcSpoiltCard : Claim7 := { stood := { row := crcSpoiltRow, standIns := [], harness := (true, "395fcf87fb702e48027bcd1fafa6cbc8df94f65ae5655f72b6612107ea59fc3a"), looks := false }, kinds := [], alts := [], laidByText := true, laidKinds := [.data], laidTests := true, laidLooks := .later }
def CrcSpoiltCardSaid : Prop := Claim7.holds Tryd.pinned (.plain (OpenSpec.ofChange crcSpoiltSpec)) crcSpoiltCard

/-- THE TIED CARD OF 'keepsakelaw02.CrcJoins'. -/
def crcJoinsCard : Claim7 := { stood := { row := crcJoinsRow, standIns := [], harness := (true, "395fcf87fb702e48027bcd1fafa6cbc8df94f65ae5655f72b6612107ea59fc3a"), looks := false }, kinds := [], alts := [], laidByText := true, laidKinds := [.data], laidTests := true, laidLooks := .later }
def CrcJoinsCardSaid : Prop := Claim7.holds Tryd.pinned (.plain (OpenSpec.ofChange crcJoinsSpec)) crcJoinsCard

/-- THE TIED CARD OF 'keepsakelaw02.CrcBytes'. -/
def crcBytesCard : Claim7 := { stood := { row := crcBytesRow, standIns := [], harness := (true, "395fcf87fb702e48027bcd1fafa6cbc8df94f65ae5655f72b6612107ea59fc3a"), looks := false }, kinds := [], alts := [], laidByText := true, laidKinds := [.data], laidTests := true, laidLooks := .later }
def CrcBytesCardSaid : Prop := Claim7.holds Tryd.pinned (.plain (OpenSpec.ofChange crcBytesSpec)) crcBytesCard

/-- THE TIED CARD OF 'keepsakelaw02.CrcTable'. -/
def crcTableCard : Claim7 := { stood := { row := crcTableRow, standIns := [], harness := (true, "395fcf87fb702e48027bcd1fafa6cbc8df94f65ae5655f72b6612107ea59fc3a"), looks := false }, kinds := [], alts := [], laidByText := true, laidKinds := [.data], laidTests := true, laidLooks := .later }
def CrcTableCardSaid : Prop := Claim7.holds Tryd.pinned (.plain (OpenSpec.ofChange crcTableSpec)) crcTableCard

/-- THE TIED CARD OF 'keepsakelaw02.CrcHashes'. -/
def crcHashesCard : Claim7 := { stood := { row := crcHashesRow, standIns := [], harness := (true, "395fcf87fb702e48027bcd1fafa6cbc8df94f65ae5655f72b6612107ea59fc3a"), looks := false }, kinds := [], alts := [], laidByText := true, laidKinds := [.data], laidTests := true, laidLooks := .later }
def CrcHashesCardSaid : Prop := Claim7.holds Tryd.pinned (.plain (OpenSpec.ofChange crcHashesSpec)) crcHashesCard

/-- THE TIED CARD OF 'keepsakelaw02.CrcBursts'. -/
def crcBurstsCard : Claim7 := { stood := { row := crcBurstsRow, standIns := [], harness := (true, "395fcf87fb702e48027bcd1fafa6cbc8df94f65ae5655f72b6612107ea59fc3a"), looks := false }, kinds := [], alts := [], laidByText := true, laidKinds := [.data], laidTests := true, laidLooks := .later }
def CrcBurstsCardSaid : Prop := Claim7.holds Tryd.pinned (.plain (OpenSpec.ofChange crcBurstsSpec)) crcBurstsCard

/-- THE SECOND FORM's CARD OF 'keepsakelaw02.CrcSums'. -/
def crcSumsUptoCard : Claim7 := { stood := { row := crcSumsUptoRow, standIns := [], harness := (true, "395fcf87fb702e48027bcd1fafa6cbc8df94f65ae5655f72b6612107ea59fc3a"), looks := false }, kinds := [], alts := [], laidByText := true, laidKinds := [.data], laidTests := true, laidLooks := .later }
def CrcSumsUptoCardSaid : Prop := Claim7.holds Tryd.pinned (.plain (OpenSpec.upto crcSumsSpec)) crcSumsUptoCard

/-- THE SECOND FORM's CARD OF 'keepsakelaw02.CrcCarries'. -/
def crcCarriesUptoCard : Claim7 := { stood := { row := crcCarriesUptoRow, standIns := [], harness := (true, "395fcf87fb702e48027bcd1fafa6cbc8df94f65ae5655f72b6612107ea59fc3a"), looks := false }, kinds := [], alts := [], laidByText := true, laidKinds := [.data], laidTests := true, laidLooks := .later }
def CrcCarriesUptoCardSaid : Prop := Claim7.holds Tryd.pinned (.plain (OpenSpec.upto crcCarriesSpec)) crcCarriesUptoCard

/-- THE SECOND FORM's CARD OF 'keepsakelaw02.CrcSpoilt'. -/
def crcSpoiltUptoCard : Claim7 := { stood := { row := crcSpoiltUptoRow, standIns := [], harness := (true, "395fcf87fb702e48027bcd1fafa6cbc8df94f65ae5655f72b6612107ea59fc3a"), looks := false }, kinds := [], alts := [], laidByText := true, laidKinds := [.data], laidTests := true, laidLooks := .later }
def CrcSpoiltUptoCardSaid : Prop := Claim7.holds Tryd.pinned (.plain (OpenSpec.upto crcSpoiltSpec)) crcSpoiltUptoCard

/-- THE SECOND FORM's CARD OF 'keepsakelaw02.CrcJoins'. -/
def crcJoinsUptoCard : Claim7 := { stood := { row := crcJoinsUptoRow, standIns := [], harness := (true, "395fcf87fb702e48027bcd1fafa6cbc8df94f65ae5655f72b6612107ea59fc3a"), looks := false }, kinds := [], alts := [], laidByText := true, laidKinds := [.data], laidTests := true, laidLooks := .later }
def CrcJoinsUptoCardSaid : Prop := Claim7.holds Tryd.pinned (.plain (OpenSpec.upto crcJoinsSpec)) crcJoinsUptoCard

/-- THE SECOND FORM's CARD OF 'keepsakelaw02.CrcBytes'. -/
def crcBytesUptoCard : Claim7 := { stood := { row := crcBytesUptoRow, standIns := [], harness := (true, "395fcf87fb702e48027bcd1fafa6cbc8df94f65ae5655f72b6612107ea59fc3a"), looks := false }, kinds := [], alts := [], laidByText := true, laidKinds := [.data], laidTests := true, laidLooks := .later }
def CrcBytesUptoCardSaid : Prop := Claim7.holds Tryd.pinned (.plain (OpenSpec.upto crcBytesSpec)) crcBytesUptoCard

/-- THE SECOND FORM's CARD OF 'keepsakelaw02.CrcTable'. -/
def crcTableUptoCard : Claim7 := { stood := { row := crcTableUptoRow, standIns := [], harness := (true, "395fcf87fb702e48027bcd1fafa6cbc8df94f65ae5655f72b6612107ea59fc3a"), looks := false }, kinds := [], alts := [], laidByText := true, laidKinds := [.data], laidTests := true, laidLooks := .later }
def CrcTableUptoCardSaid : Prop := Claim7.holds Tryd.pinned (.plain (OpenSpec.upto crcTableSpec)) crcTableUptoCard

/-- THE SECOND FORM's CARD OF 'keepsakelaw02.CrcHashes'. -/
def crcHashesUptoCard : Claim7 := { stood := { row := crcHashesUptoRow, standIns := [], harness := (true, "395fcf87fb702e48027bcd1fafa6cbc8df94f65ae5655f72b6612107ea59fc3a"), looks := false }, kinds := [], alts := [], laidByText := true, laidKinds := [.data], laidTests := true, laidLooks := .later }
def CrcHashesUptoCardSaid : Prop := Claim7.holds Tryd.pinned (.plain (OpenSpec.upto crcHashesSpec)) crcHashesUptoCard

/-- THE SECOND FORM's CARD OF 'keepsakelaw02.CrcBursts'. -/
def crcBurstsUptoCard : Claim7 := { stood := { row := crcBurstsUptoRow, standIns := [], harness := (true, "395fcf87fb702e48027bcd1fafa6cbc8df94f65ae5655f72b6612107ea59fc3a"), looks := false }, kinds := [], alts := [], laidByText := true, laidKinds := [.data], laidTests := true, laidLooks := .later }
def CrcBurstsUptoCardSaid : Prop := Claim7.holds Tryd.pinned (.plain (OpenSpec.upto crcBurstsSpec)) crcBurstsUptoCard
end Rows
end Go.Proofs.YtcjmobikjegioaaDoor
