/-
  DERIVED. GIVEN WITH THE SEED: THE CARDS: each row of YtaobgliimbmemaaGreatDoorRows.lean that lists a variable, with what it lists TIED to the program's text (the seventh form; the later family's looks); each row that meets fmt, with fmt's text TOLD by the authors' own Lean function (tested against real Go, not proved from fmt's source: count such statements apart). THE CARD IS WHAT COUNTS. Prove the row's statement (the work); the ties are given (YtaobgliimbmemaaGreatDoorTie.lean); close each card by the builder's one call (the guide's Derived/Test/ToyasCard.lean, 'card_holds'). Laid BY PROGRAM, IN A SANDBOX (cutbox-door.mjs). By AI agents, Wed Nov 11 2026. No macro, syntax, notation, axiom, sorry.
-/
import Derived.Test.YtaobgliimbmemaaGreatDoorRows
import GoSem.ClaimSeven
namespace Go.Proofs.YtaobgliimbmemaaGreatDoor
namespace Rows

/-- THE TIED CARD OF 'laws.FnQueryRead'. -/
def fnQueryReadCard : Claim7 := { stood := { row := fnQueryReadRow, standIns := [], harness := (true, "765fa90f93eff60f8a1ea1d06f4c4a8f026c7e3e2c205df44ed938bee4da78d0"), looks := true }, kinds := [], alts := [], laidByText := true, laidKinds := [.data, .data, .data, .data, .sentinel, .sentinel, .mapped, .mapped, .pinned], laidTests := true, laidLooks := .later }
def FnQueryReadCardSaid : Prop := Claim7.holds Tryz.pinned (.plain (OpenSpec.ofChange fnQueryReadSpec)) fnQueryReadCard

/-- THE SECOND FORM's CARD OF 'laws.FnQueryRead'. -/
def fnQueryReadUptoCard : Claim7 := { stood := { row := fnQueryReadUptoRow, standIns := [], harness := (true, "765fa90f93eff60f8a1ea1d06f4c4a8f026c7e3e2c205df44ed938bee4da78d0"), looks := true }, kinds := [], alts := [], laidByText := true, laidKinds := [.data, .data, .data, .data, .sentinel, .sentinel, .mapped, .mapped, .pinned], laidTests := true, laidLooks := .later }
def FnQueryReadUptoCardSaid : Prop := Claim7.holds Tryz.pinned (.plain (OpenSpec.upto fnQueryReadSpec)) fnQueryReadUptoCard
end Rows
end Go.Proofs.YtaobgliimbmemaaGreatDoor
