/-
  DERIVED. GIVEN WITH THE SEED: THE CARDS: each row of YtlmjiblfmhaicaaGreatDoorRows.lean that lists a variable, with what it lists TIED to the program's text (the seventh form; the later family's looks); each row that meets fmt, with fmt's text TOLD by the authors' own Lean function (tested against real Go, not proved from fmt's source: count such statements apart). THE CARD IS WHAT COUNTS. Prove the row's statement (the work); the ties are given (YtlmjiblfmhaicaaGreatDoorTie.lean); close each card by the builder's one call (the guide's Derived/Test/ToyasCard.lean, 'card_holds'). Laid BY PROGRAM, IN A SANDBOX (cutbox-door.mjs). By AI agents, Wed Nov 11 2026. No macro, syntax, notation, axiom, sorry.
-/
import Derived.Test.YtlmjiblfmhaicaaGreatDoorRows
import GoSem.ClaimSeven
namespace Go.Proofs.YtlmjiblfmhaicaaGreatDoor
namespace Rows

/-- THE TIED CARD OF 'gatepathlaw17.ProfileCerts'. -/
def profileCertsCard : Claim7 := { stood := { row := profileCertsRow, standIns := [], harness := (true, "10c069928e1d85fec1efc5c9bdb439d294fe8c2c8b38928f37304db695dcec1e"), looks := true }, kinds := [], alts := [], laidByText := true, laidKinds := [.data, .data, .data, .data, .sentinel, .sentinel, .pinned], laidTests := true, laidLooks := .later }
def ProfileCertsCardSaid : Prop := Claim7.holds Tryz.pinned (.plain (OpenSpec.ofChange profileCertsSpec)) profileCertsCard

/-- THE SECOND FORM's CARD OF 'gatepathlaw17.ProfileCerts'. -/
def profileCertsUptoCard : Claim7 := { stood := { row := profileCertsUptoRow, standIns := [], harness := (true, "10c069928e1d85fec1efc5c9bdb439d294fe8c2c8b38928f37304db695dcec1e"), looks := true }, kinds := [], alts := [], laidByText := true, laidKinds := [.data, .data, .data, .data, .sentinel, .sentinel, .pinned], laidTests := true, laidLooks := .later }
def ProfileCertsUptoCardSaid : Prop := Claim7.holds Tryz.pinned (.plain (OpenSpec.upto profileCertsSpec)) profileCertsUptoCard
end Rows
end Go.Proofs.YtlmjiblfmhaicaaGreatDoor
