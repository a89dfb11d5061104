/-
  DERIVED. GIVEN WITH THE SEED: THE CARDS: each row of YtdopmafhdhahiaaDoorRows.lean that lists a variable, with what it lists TIED to the program's text (the seventh form; the later family's looks); each row that meets fmt, with fmt's text TOLD by the authors' own Lean function (tested against real Go, not proved from fmt's source: count such statements apart). THE CARD IS WHAT COUNTS. Prove the row's statement (the work); the ties are given (YtdopmafhdhahiaaDoorTie.lean); close each card by the builder's one call (the guide's Derived/Test/ToyasCard.lean, 'card_holds'). Laid BY PROGRAM, IN A SANDBOX (cutbox-door.mjs). By AI agents, Wed Nov 11 2026. No macro, syntax, notation, axiom, sorry.
-/
import Derived.Test.YtdopmafhdhahiaaDoorRows
import GoSem.ClaimSeven
namespace Go.Proofs.YtdopmafhdhahiaaDoor
namespace Rows

/-- THE TIED CARD OF 'dibberlaw02.WeedOrphans'. -/
def weedOrphansCard : Claim7 := { stood := { row := weedOrphansRow, standIns := [], harness := (true, "e8a5a2572c4e0b081c8533126332a3bdfa458005835351d39c5d1db264877813"), looks := false }, kinds := [], alts := [], laidByText := true, laidKinds := [.data, .funcs, .pinned], laidTests := true, laidLooks := .later }
def WeedOrphansCardSaid : Prop := Claim7.holds Tryd.pinned (.plain (OpenSpec.ofChange weedOrphansSpec)) weedOrphansCard

/-- THE TIED CARD OF 'dibberlaw02.WeedMirrors'. -/
def weedMirrorsCard : Claim7 := { stood := { row := weedMirrorsRow, standIns := [], harness := (true, "e8a5a2572c4e0b081c8533126332a3bdfa458005835351d39c5d1db264877813"), looks := false }, kinds := [], alts := [], laidByText := true, laidKinds := [.data, .funcs, .pinned], laidTests := true, laidLooks := .later }
def WeedMirrorsCardSaid : Prop := Claim7.holds Tryd.pinned (.plain (OpenSpec.ofChange weedMirrorsSpec)) weedMirrorsCard

/-- THE TIED CARD OF 'dibberlaw02.WeedMoore'. -/
def weedMooreCard : Claim7 := { stood := { row := weedMooreRow, standIns := [], harness := (true, "e8a5a2572c4e0b081c8533126332a3bdfa458005835351d39c5d1db264877813"), looks := false }, kinds := [], alts := [], laidByText := true, laidKinds := [.data, .funcs, .pinned], laidTests := true, laidLooks := .later }
def WeedMooreCardSaid : Prop := Claim7.holds Tryd.pinned (.plain (OpenSpec.ofChange weedMooreSpec)) weedMooreCard

/-- THE SECOND FORM's CARD OF 'dibberlaw02.WeedOrphans'. -/
def weedOrphansUptoCard : Claim7 := { stood := { row := weedOrphansUptoRow, standIns := [], harness := (true, "e8a5a2572c4e0b081c8533126332a3bdfa458005835351d39c5d1db264877813"), looks := false }, kinds := [], alts := [], laidByText := true, laidKinds := [.data, .funcs, .pinned], laidTests := true, laidLooks := .later }
def WeedOrphansUptoCardSaid : Prop := Claim7.holds Tryd.pinned (.plain (OpenSpec.upto weedOrphansSpec)) weedOrphansUptoCard

/-- THE SECOND FORM's CARD OF 'dibberlaw02.WeedMirrors'. -/
def weedMirrorsUptoCard : Claim7 := { stood := { row := weedMirrorsUptoRow, standIns := [], harness := (true, "e8a5a2572c4e0b081c8533126332a3bdfa458005835351d39c5d1db264877813"), looks := false }, kinds := [], alts := [], laidByText := true, laidKinds := [.data, .funcs, .pinned], laidTests := true, laidLooks := .later }
def WeedMirrorsUptoCardSaid : Prop := Claim7.holds Tryd.pinned (.plain (OpenSpec.upto weedMirrorsSpec)) weedMirrorsUptoCard

/-- THE SECOND FORM's CARD OF 'dibberlaw02.WeedMoore'. -/
def weedMooreUptoCard : Claim7 := { stood := { row := weedMooreUptoRow, standIns := [], harness := (true, "e8a5a2572c4e0b081c8533126332a3bdfa458005835351d39c5d1db264877813"), looks := false }, kinds := [], alts := [], laidByText := true, laidKinds := [.data, .funcs, .pinned], laidTests := true, laidLooks := .later }
def WeedMooreUptoCardSaid : Prop := Claim7.holds Tryd.pinned (.plain (OpenSpec.upto weedMooreSpec)) weedMooreUptoCard
end Rows
end Go.Proofs.YtdopmafhdhahiaaDoor
