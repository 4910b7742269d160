/-
  DERIVED. GIVEN WITH THE SEED: THE CARDS: each row of YtmacdhglhafldaaDoorRows.lean that lists a variable, with what it lists TIED to the program's text (the seventh form; the later family's looks); each row that meets fmt, with fmt's text TOLD by the authors' own Lean function (tested against real Go, not proved from fmt's source: count such statements apart). THE CARD IS WHAT COUNTS. Prove the row's statement (the work); the ties are given (YtmacdhglhafldaaDoorTie.lean); close each card by the builder's one call (the guide's Derived/Test/ToyasCard.lean, 'card_holds'). Laid BY PROGRAM, IN A SANDBOX (cutbox-door.mjs). By AI agents, Wed Nov 11 2026. No macro, syntax, notation, axiom, sorry.
-/
import Derived.Test.YtmacdhglhafldaaDoorRows
import GoSem.ClaimSeven
namespace Go.Proofs.YtmacdhglhafldaaDoor
namespace Rows

/-- THE TIED CARD OF 'gatepathlaw13.ManifestMatches'. -/
def manifestMatchesCard : Claim7 := { stood := { row := manifestMatchesRow, standIns := [], harness := (true, "ad5ff5aa899148a86f419f1070e10d773d19770cbcc8e4aa396618fb80c5e566"), looks := true }, kinds := [], alts := [], laidByText := true, laidKinds := [.data], laidTests := true, laidLooks := .later }
def ManifestMatchesCardSaid : Prop := Claim7.holds Tryd.pinned (.plain (OpenSpec.ofChange manifestMatchesSpec)) manifestMatchesCard

/-- THE TIED CARD OF 'gatepathlaw13.ManifestBack'. -/
def manifestBackCard : Claim7 := { stood := { row := manifestBackRow, standIns := [], harness := (true, "ad5ff5aa899148a86f419f1070e10d773d19770cbcc8e4aa396618fb80c5e566"), looks := true }, kinds := [], alts := [], laidByText := true, laidKinds := [.data], laidTests := true, laidLooks := .later }
def ManifestBackCardSaid : Prop := Claim7.holds Tryd.pinned (.plain (OpenSpec.ofChange manifestBackSpec)) manifestBackCard

/-- THE TIED CARD OF 'gatepathlaw13.ManifestExact'. -/
def manifestExactCard : Claim7 := { stood := { row := manifestExactRow, standIns := [], harness := (true, "ad5ff5aa899148a86f419f1070e10d773d19770cbcc8e4aa396618fb80c5e566"), looks := true }, kinds := [], alts := [], laidByText := true, laidKinds := [.data], laidTests := true, laidLooks := .later }
def ManifestExactCardSaid : Prop := Claim7.holds Tryd.pinned (.plain (OpenSpec.ofChange manifestExactSpec)) manifestExactCard

/-- THE TIED CARD OF 'gatepathlaw13.ManifestNames'. -/
def manifestNamesCard : Claim7 := { stood := { row := manifestNamesRow, standIns := [], harness := (true, "ad5ff5aa899148a86f419f1070e10d773d19770cbcc8e4aa396618fb80c5e566"), looks := true }, kinds := [], alts := [], laidByText := true, laidKinds := [.data], laidTests := true, laidLooks := .later }
def ManifestNamesCardSaid : Prop := Claim7.holds Tryd.pinned (.plain (OpenSpec.ofChange manifestNamesSpec)) manifestNamesCard

/-- THE TIED CARD OF 'gatepathlaw13.ManifestChanges'. -/
def manifestChangesCard : Claim7 := { stood := { row := manifestChangesRow, standIns := [], harness := (true, "ad5ff5aa899148a86f419f1070e10d773d19770cbcc8e4aa396618fb80c5e566"), looks := true }, kinds := [], alts := [], laidByText := true, laidKinds := [.data], laidTests := true, laidLooks := .later }
def ManifestChangesCardSaid : Prop := Claim7.holds Tryd.pinned (.plain (OpenSpec.ofChange manifestChangesSpec)) manifestChangesCard

/-- THE TIED CARD OF 'gatepathlaw13.ManifestFinds'. -/
def manifestFindsCard : Claim7 := { stood := { row := manifestFindsRow, standIns := [], harness := (true, "ad5ff5aa899148a86f419f1070e10d773d19770cbcc8e4aa396618fb80c5e566"), looks := true }, kinds := [], alts := [], laidByText := true, laidKinds := [.data], laidTests := true, laidLooks := .later }
def ManifestFindsCardSaid : Prop := Claim7.holds Tryd.pinned (.plain (OpenSpec.ofChange manifestFindsSpec)) manifestFindsCard

/-- THE SECOND FORM's CARD OF 'gatepathlaw13.ManifestMatches'. -/
def manifestMatchesUptoCard : Claim7 := { stood := { row := manifestMatchesUptoRow, standIns := [], harness := (true, "ad5ff5aa899148a86f419f1070e10d773d19770cbcc8e4aa396618fb80c5e566"), looks := true }, kinds := [], alts := [], laidByText := true, laidKinds := [.data], laidTests := true, laidLooks := .later }
def ManifestMatchesUptoCardSaid : Prop := Claim7.holds Tryd.pinned (.plain (OpenSpec.upto manifestMatchesSpec)) manifestMatchesUptoCard

/-- THE SECOND FORM's CARD OF 'gatepathlaw13.ManifestBack'. -/
def manifestBackUptoCard : Claim7 := { stood := { row := manifestBackUptoRow, standIns := [], harness := (true, "ad5ff5aa899148a86f419f1070e10d773d19770cbcc8e4aa396618fb80c5e566"), looks := true }, kinds := [], alts := [], laidByText := true, laidKinds := [.data], laidTests := true, laidLooks := .later }
def ManifestBackUptoCardSaid : Prop := Claim7.holds Tryd.pinned (.plain (OpenSpec.upto manifestBackSpec)) manifestBackUptoCard

/-- THE SECOND FORM's CARD OF 'gatepathlaw13.ManifestExact'. -/
def manifestExactUptoCard : Claim7 := { stood := { row := manifestExactUptoRow, standIns := [], harness := (true, "ad5ff5aa899148a86f419f1070e10d773d19770cbcc8e4aa396618fb80c5e566"), looks := true }, kinds := [], alts := [], laidByText := true, laidKinds := [.data], laidTests := true, laidLooks := .later }
def ManifestExactUptoCardSaid : Prop := Claim7.holds Tryd.pinned (.plain (OpenSpec.upto manifestExactSpec)) manifestExactUptoCard

/-- THE SECOND FORM's CARD OF 'gatepathlaw13.ManifestNames'. -/
def manifestNamesUptoCard : Claim7 := { stood := { row := manifestNamesUptoRow, standIns := [], harness := (true, "ad5ff5aa899148a86f419f1070e10d773d19770cbcc8e4aa396618fb80c5e566"), looks := true }, kinds := [], alts := [], laidByText := true, laidKinds := [.data], laidTests := true, laidLooks := .later }
def ManifestNamesUptoCardSaid : Prop := Claim7.holds Tryd.pinned (.plain (OpenSpec.upto manifestNamesSpec)) manifestNamesUptoCard

/-- THE SECOND FORM's CARD OF 'gatepathlaw13.ManifestChanges'. -/
def manifestChangesUptoCard : Claim7 := { stood := { row := manifestChangesUptoRow, standIns := [], harness := (true, "ad5ff5aa899148a86f419f1070e10d773d19770cbcc8e4aa396618fb80c5e566"), looks := true }, kinds := [], alts := [], laidByText := true, laidKinds := [.data], laidTests := true, laidLooks := .later }
def ManifestChangesUptoCardSaid : Prop := Claim7.holds Tryd.pinned (.plain (OpenSpec.upto manifestChangesSpec)) manifestChangesUptoCard

/-- THE SECOND FORM's CARD OF 'gatepathlaw13.ManifestFinds'. -/
def manifestFindsUptoCard : Claim7 := { stood := { row := manifestFindsUptoRow, standIns := [], harness := (true, "ad5ff5aa899148a86f419f1070e10d773d19770cbcc8e4aa396618fb80c5e566"), looks := true }, kinds := [], alts := [], laidByText := true, laidKinds := [.data], laidTests := true, laidLooks := .later }
def ManifestFindsUptoCardSaid : Prop := Claim7.holds Tryd.pinned (.plain (OpenSpec.upto manifestFindsSpec)) manifestFindsUptoCard
end Rows
end Go.Proofs.YtmacdhglhafldaaDoor
