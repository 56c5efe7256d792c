/-
  DERIVED. GIVEN WITH THE SEED: THE CARDS: each row of YtkafcdgeboldgaaDoorRows.lean that lists a variable, with what it lists TIED to the program's text (the seventh form; the later family's looks); each row that meets fmt, with fmt's text TOLD by the authors' own Lean function (tested against real Go, not proved from fmt's source: count such statements apart). THE CARD IS WHAT COUNTS. Prove the row's statement (the work); the ties are given (YtkafcdgeboldgaaDoorTie.lean); close each card by the builder's one call (the guide's Derived/Test/ToyasCard.lean, 'card_holds'). Laid BY PROGRAM, IN A SANDBOX (cutbox-door.mjs). By AI agents, Wed Nov 11 2026. No macro, syntax, notation, axiom, sorry.
-/
import Derived.Test.YtkafcdgeboldgaaDoorRows
import GoSem.ClaimSeven
namespace Go.Proofs.YtkafcdgeboldgaaDoor
namespace Rows

/-- THE TIED CARD OF 'keepsakelaw08.TallyAdds'. -/
def tallyAddsCard : Claim7 := { stood := { row := tallyAddsRow, standIns := [], harness := (true, "5447085030415b51113cb492f8b41bd72113ed4374661058ac78fe81b5f3155e"), looks := false }, kinds := [], alts := [], laidByText := true, laidKinds := [.data], laidTests := true, laidLooks := .later }
def TallyAddsCardSaid : Prop := Claim7.holds Tryd.pinned (.plain (OpenSpec.ofChange tallyAddsSpec)) tallyAddsCard

/-- THE TIED CARD OF 'keepsakelaw08.TallyJoins'. -/
def tallyJoinsCard : Claim7 := { stood := { row := tallyJoinsRow, standIns := [], harness := (true, "5447085030415b51113cb492f8b41bd72113ed4374661058ac78fe81b5f3155e"), looks := false }, kinds := [], alts := [], laidByText := true, laidKinds := [.data], laidTests := true, laidLooks := .later }
def TallyJoinsCardSaid : Prop := Claim7.holds Tryd.pinned (.plain (OpenSpec.ofChange tallyJoinsSpec)) tallyJoinsCard

/-- THE TIED CARD OF 'keepsakelaw08.TallyCan'. -/
def tallyCanCard : Claim7 := { stood := { row := tallyCanRow, standIns := [], harness := (true, "5447085030415b51113cb492f8b41bd72113ed4374661058ac78fe81b5f3155e"), looks := false }, kinds := [], alts := [], laidByText := true, laidKinds := [.data], laidTests := true, laidLooks := .later }
def TallyCanCardSaid : Prop := Claim7.holds Tryd.pinned (.plain (OpenSpec.ofChange tallyCanSpec)) tallyCanCard

/-- THE TIED CARD OF 'keepsakelaw08.TallyTells'. -/
def tallyTellsCard : Claim7 := { stood := { row := tallyTellsRow, standIns := [], harness := (true, "5447085030415b51113cb492f8b41bd72113ed4374661058ac78fe81b5f3155e"), looks := false }, kinds := [], alts := [], laidByText := true, laidKinds := [.data], laidTests := true, laidLooks := .later }
def TallyTellsCardSaid : Prop := Claim7.holds Tryd.pinned (.plain (OpenSpec.ofChange tallyTellsSpec)) tallyTellsCard

/-- THE TIED CARD OF 'keepsakelaw08.TallyMost'. -/
def tallyMostCard : Claim7 := { stood := { row := tallyMostRow, standIns := [], harness := (true, "5447085030415b51113cb492f8b41bd72113ed4374661058ac78fe81b5f3155e"), looks := false }, kinds := [], alts := [], laidByText := true, laidKinds := [.data], laidTests := true, laidLooks := .later }
def TallyMostCardSaid : Prop := Claim7.holds Tryd.pinned (.plain (OpenSpec.ofChange tallyMostSpec)) tallyMostCard

/-- THE TIED CARD OF 'keepsakelaw08.TallyReals'. -/
def tallyRealsCard : Claim7 := { stood := { row := tallyRealsRow, standIns := [], harness := (true, "5447085030415b51113cb492f8b41bd72113ed4374661058ac78fe81b5f3155e"), looks := false }, kinds := [], alts := [], laidByText := true, laidKinds := [.data], laidTests := true, laidLooks := .later }
def TallyRealsCardSaid : Prop := Claim7.holds Tryd.pinned (.plain (OpenSpec.ofChange tallyRealsSpec)) tallyRealsCard

/-- THE TIED CARD OF 'keepsakelaw08.TallyCompares'. -/
def tallyComparesCard : Claim7 := { stood := { row := tallyComparesRow, standIns := [], harness := (true, "5447085030415b51113cb492f8b41bd72113ed4374661058ac78fe81b5f3155e"), looks := false }, kinds := [], alts := [], laidByText := true, laidKinds := [.data], laidTests := true, laidLooks := .later }
def TallyComparesCardSaid : Prop := Claim7.holds Tryd.pinned (.plain (OpenSpec.ofChange tallyComparesSpec)) tallyComparesCard

/-- THE SECOND FORM's CARD OF 'keepsakelaw08.TallyAdds'. -/
def tallyAddsUptoCard : Claim7 := { stood := { row := tallyAddsUptoRow, standIns := [], harness := (true, "5447085030415b51113cb492f8b41bd72113ed4374661058ac78fe81b5f3155e"), looks := false }, kinds := [], alts := [], laidByText := true, laidKinds := [.data], laidTests := true, laidLooks := .later }
def TallyAddsUptoCardSaid : Prop := Claim7.holds Tryd.pinned (.plain (OpenSpec.upto tallyAddsSpec)) tallyAddsUptoCard

/-- THE SECOND FORM's CARD OF 'keepsakelaw08.TallyJoins'. -/
def tallyJoinsUptoCard : Claim7 := { stood := { row := tallyJoinsUptoRow, standIns := [], harness := (true, "5447085030415b51113cb492f8b41bd72113ed4374661058ac78fe81b5f3155e"), looks := false }, kinds := [], alts := [], laidByText := true, laidKinds := [.data], laidTests := true, laidLooks := .later }
def TallyJoinsUptoCardSaid : Prop := Claim7.holds Tryd.pinned (.plain (OpenSpec.upto tallyJoinsSpec)) tallyJoinsUptoCard

/-- THE SECOND FORM's CARD OF 'keepsakelaw08.TallyCan'. -/
def tallyCanUptoCard : Claim7 := { stood := { row := tallyCanUptoRow, standIns := [], harness := (true, "5447085030415b51113cb492f8b41bd72113ed4374661058ac78fe81b5f3155e"), looks := false }, kinds := [], alts := [], laidByText := true, laidKinds := [.data], laidTests := true, laidLooks := .later }
def TallyCanUptoCardSaid : Prop := Claim7.holds Tryd.pinned (.plain (OpenSpec.upto tallyCanSpec)) tallyCanUptoCard

/-- THE SECOND FORM's CARD OF 'keepsakelaw08.TallyTells'. -/
def tallyTellsUptoCard : Claim7 := { stood := { row := tallyTellsUptoRow, standIns := [], harness := (true, "5447085030415b51113cb492f8b41bd72113ed4374661058ac78fe81b5f3155e"), looks := false }, kinds := [], alts := [], laidByText := true, laidKinds := [.data], laidTests := true, laidLooks := .later }
def TallyTellsUptoCardSaid : Prop := Claim7.holds Tryd.pinned (.plain (OpenSpec.upto tallyTellsSpec)) tallyTellsUptoCard

/-- THE SECOND FORM's CARD OF 'keepsakelaw08.TallyMost'. -/
def tallyMostUptoCard : Claim7 := { stood := { row := tallyMostUptoRow, standIns := [], harness := (true, "5447085030415b51113cb492f8b41bd72113ed4374661058ac78fe81b5f3155e"), looks := false }, kinds := [], alts := [], laidByText := true, laidKinds := [.data], laidTests := true, laidLooks := .later }
def TallyMostUptoCardSaid : Prop := Claim7.holds Tryd.pinned (.plain (OpenSpec.upto tallyMostSpec)) tallyMostUptoCard

/-- THE SECOND FORM's CARD OF 'keepsakelaw08.TallyReals'. -/
def tallyRealsUptoCard : Claim7 := { stood := { row := tallyRealsUptoRow, standIns := [], harness := (true, "5447085030415b51113cb492f8b41bd72113ed4374661058ac78fe81b5f3155e"), looks := false }, kinds := [], alts := [], laidByText := true, laidKinds := [.data], laidTests := true, laidLooks := .later }
def TallyRealsUptoCardSaid : Prop := Claim7.holds Tryd.pinned (.plain (OpenSpec.upto tallyRealsSpec)) tallyRealsUptoCard

/-- THE SECOND FORM's CARD OF 'keepsakelaw08.TallyCompares'. -/
def tallyComparesUptoCard : Claim7 := { stood := { row := tallyComparesUptoRow, standIns := [], harness := (true, "5447085030415b51113cb492f8b41bd72113ed4374661058ac78fe81b5f3155e"), looks := false }, kinds := [], alts := [], laidByText := true, laidKinds := [.data], laidTests := true, laidLooks := .later }
def TallyComparesUptoCardSaid : Prop := Claim7.holds Tryd.pinned (.plain (OpenSpec.upto tallyComparesSpec)) tallyComparesUptoCard
end Rows
end Go.Proofs.YtkafcdgeboldgaaDoor
