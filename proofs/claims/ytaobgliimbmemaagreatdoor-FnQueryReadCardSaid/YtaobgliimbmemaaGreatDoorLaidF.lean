/-
  The world of the witness where the pinned table 'unicode/utf8.first' is listed: what the door's own run leaves (XLaidQ), with the table's cells set to the pinned ones (the dump leaves its literal out).
-/
import Derived.Test.YtaobgliimbmemaaGreatDoorLaidQ
import Derived.ProofKit
namespace Go.Proofs.YtaobgliimbmemaaGreatDoor
open Go.RowKit
noncomputable def laidWorldF (os : Os) : World :=
  { laidWorld os with heap := (laidWorld os).heap.setIfInBounds 6 (.cells (Go.Pinned.utf8FirstZ.map fun (n : Nat) => Value.int .u8 n).toArray 122) }
end Go.Proofs.YtaobgliimbmemaaGreatDoor
